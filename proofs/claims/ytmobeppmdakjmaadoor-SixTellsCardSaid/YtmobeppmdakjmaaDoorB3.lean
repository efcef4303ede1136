/- Walk: the number that a text says (four.Number). -/
import Derived.Test.YtmobeppmdakjmaaDoorB2
namespace Go.Proofs.YtmobeppmdakjmaaDoor
open Go.RowKit

/-- A number, or none, as Number hands it back. -/
def numV : Option Nat → Value
  | some n => .tuple #[.int .u64 n, .bool true]
  | none => .tuple #[.int .u64 0, .bool false]
theorem digits_is (b : Nat) (hb : b = 8 ∨ b = 10 ∨ b = 16) (l : List UInt8) (d : Bool) (h : digitsB b l = d) (w : World) :
    Calls Tryd.prog 47 #[.string ⟨l.toArray⟩, .int .i64 b] w fun e w' => e = .returned (.bool d) ∧ Below w.heap.size w w' := by
  subst h; exact digits_any b hb l w
theorem trimLeft_any (l : List UInt8) (w : World) :
    Calls Tryd.prog 48 #[.string ⟨l.toArray⟩, .string ⟨#[48]⟩] w fun e w' => e = .returned (.string ⟨(Lib.trimLeftB l 48).toArray⟩) ∧ w = w' := by
  refine (Tryd.strings_TrimLeft_one ⟨l.toArray⟩ 48 (by decide) w).mono ?_
  rintro e w' ⟨rfl, rfl⟩
  exact ⟨rfl, rfl⟩

set_option maxHeartbeats 2000000 in
set_option maxRecDepth 100000 in
theorem number_any (s : List UInt8) (hl : s.length ≤ 1000000) (w : World) (ho : Ok w) :
    Calls Tryd.prog 13 #[.string ⟨s.toArray⟩] w fun e w' => e = .returned (numV (number4 s)) ∧ Below w.heap.size w w' := by
  have Hb := Lib.hid (base_any s hl w)
  have hbc := base4_cases s
  have hbl := base4_len s
  by_cases hs : s = []
  · have hn := Lib.hid (number4_none (.inl hs))
    have f1 : (s == []) = true := by rw [hs]; rfl
    clear hs
    go_enter Tryd.func13, Tryd.ntmps13
    go_wp2_with (go_at_call 46; refine Hb.out.mono ?_; rintro e w' ⟨rfl, rfl⟩)
    go_ret2
    rw [hn.out]
    exact ⟨rfl, Below.refl _ _⟩
  have f1 : (s == []) = false := by rw [beq_eq_false_iff_ne]; exact hs
  cases hd : digitsB (base4 s).2 (base4 s).1 with
  | false =>
    have hn := Lib.hid (number4_none (.inr hd))
    have Hd := Lib.hid (digits_is _ hbc _ false hd w)
    clear hs hd hbc
    go_enter Tryd.func13, Tryd.ntmps13
    go_wp2_with (first | (go_at_call 46; refine Hb.out.mono ?_; rintro e w' ⟨rfl, rfl⟩) | (go_at_call 47; refine Hd.out.mono ?_; rintro e w1 ⟨rfl, hb1⟩))
    go_ret2
    rw [hn.out]
    exact ⟨rfl, hb1⟩
  | true =>
    have hn := Lib.hid (number4_some hs hd)
    have Hd := Lib.hid (digits_is _ hbc _ true hd w)
    have Htd := Lib.hid (trim_digits hd)
    have htl := trim_len (base4 s).1
    have Htr := Lib.hid (fun W => trimLeft_any (base4 s).1 W)
    generalize Lib.trimLeftB (base4 s).1 48 = l at *
    have Ho := Lib.hid ho
    clear hs hd ho
    by_cases h0 : l = []
    · have f2 : (l == []) = true := by rw [h0]; rfl
      have hv : Hid (number4 s = some 0) := by show _ = _; rw [hn.out, h0]; rfl
      clear hbc h0
      go_enter Tryd.func13, Tryd.ntmps13
      go_wp2_with (first | (go_at_call 46; refine Hb.out.mono ?_; rintro e w' ⟨rfl, rfl⟩) | (go_at_call 47; refine Hd.out.mono ?_; rintro e w1 ⟨rfl, hb1⟩) | (go_at_call 48; refine (Htr.out _).mono ?_; rintro e w' ⟨rfl, rfl⟩))
      go_ret2
      rw [hv.out]
      exact ⟨rfl, hb1⟩
    · have f2 : (l == []) = false := by rw [beq_eq_false_iff_ne]; exact h0
      by_cases hM : numB (base4 s).2 0 l ≤ 4294967295
      · have hv : Hid (number4 s = some (numB (base4 s).2 0 l)) := by show _ = _; rw [hn.out]; congr 1; omega
        have Hp := Lib.hid (fun W => pub_ok (base4 s).2 hbc l h0 Htd.out (by omega) hM W)
        clear hbc h0 hM
        go_enter Tryd.func13, Tryd.ntmps13
        go_wp2_with (first | (go_at_call 46; refine Hb.out.mono ?_; rintro e w' ⟨rfl, rfl⟩) | (go_at_call 47; refine Hd.out.mono ?_; rintro e w1 ⟨rfl, hb1⟩) | (go_at_call 48; refine (Htr.out _).mono ?_; rintro e w' ⟨rfl, rfl⟩))
        refine (Hp.out _).mono ?_
        rintro e w2 ⟨rfl, hb2⟩
        go_wp2
        go_ret2
        rw [hv.out]
        exact ⟨rfl, hb1.trans (hb2.mono hb1.size)⟩
      · have hv : Hid (number4 s = some 4294967296) := by show _ = _; rw [hn.out]; congr 1; omega
        have Hp := Lib.hid (fun W (h : Ok W) => pub_range (base4 s).2 hbc l h0 Htd.out (by omega) (by omega) W h)
        clear hbc h0 hM
        go_enter Tryd.func13, Tryd.ntmps13
        go_wp2_with (first | (go_at_call 46; refine Hb.out.mono ?_; rintro e w' ⟨rfl, rfl⟩) | (go_at_call 47; refine Hd.out.mono ?_; rintro e w1 ⟨rfl, hb1⟩) | (go_at_call 48; refine (Htr.out _).mono ?_; rintro e w' ⟨rfl, rfl⟩))
        refine (Hp.out _ (Ho.out.below hb1)).mono ?_
        rintro e w2 ⟨N, rfl, hb2⟩
        go_wp2
        go_ret2
        rw [hv.out]
        exact ⟨rfl, hb1.trans (hb2.mono hb1.size)⟩
#print axioms number_any
end Go.Proofs.YtmobeppmdakjmaaDoor
