/- Law: FourTells answers true. -/
import Derived.Test.YtmobeppmdakjmaaDoorF1
namespace Go.Proofs.YtmobeppmdakjmaaDoor
open Go.RowKit

theorem refParse_is (s : List UInt8) (o : Option Nat) (h : parse4 s = o) (hl : s.length ≤ 1000000) (w : World) :
    Calls Tryd.prog 16 #[.string ⟨s.toArray⟩] w fun e w' => e = .returned (parseV o) ∧ Below w.heap.size w w' := by
  subst h; exact refParse_any s hl w
theorem parse_is (s : List UInt8) (o : Option Nat) (h : parse4 s = o) (hl : s.length ≤ 1000000) (w : World) (ho : Ok w) :
    Calls Tryd.prog 15 #[.string ⟨s.toArray⟩] w fun e w' => e = .returned (parseV o) ∧ Below w.heap.size w w' := by
  subst h; exact parse_any s hl w ho
theorem refEnds_is (s : List UInt8) (b : Bool) (h : ends4 s = b) (hl : s.length ≤ 1000000) (w : World) :
    Calls Tryd.prog 18 #[.string ⟨s.toArray⟩] w fun e w' => e = .returned (.bool b) ∧ Below w.heap.size w w' := by
  subst h; exact refEnds_any s hl w
theorem refShow_is (x : Nat) (s : List UInt8) (h : show4 x = s) (hx : x < 4294967296) (w : World) :
    Calls Tryd.prog 20 #[.int .u32 (x : Int)] w fun e w' => e = .returned (.string ⟨s.toArray⟩) ∧ Below w.heap.size w w' := by
  subst h; exact refShow_any x hx w

set_option maxHeartbeats 4000000 in
set_option maxRecDepth 100000 in
theorem fourTells_true (s : List UInt8) (x : Nat) (hx : x < 4294967296) (w : World) (ho : Ok w) :
    Calls Tryd.prog 3 #[.string ⟨s.toArray⟩, .int .u32 (x : Int)] w fun e w' => e = .returned (.bool true) ∧ Below w.heap.size w w' := by
  have hsz := size_str s
  by_cases h200 : 200 < s.length
  · have i1 : (200 : Int) < (s.length : Int) := by omega
    have Ha := Lib.hid (awake_true w ho)
    clear h200
    go_enter Tryd.func3, Tryd.ntmps3
    go_wp2_with (go_at_call 12; refine Ha.out.mono ?_; rintro e w' ⟨rfl, hb⟩)
    go_ret
    exact ⟨rfl, hb⟩
  · have i1 : ¬ (200 : Int) < (s.length : Int) := by omega
    have hl : s.length ≤ 1000000 := by omega
    clear h200
    obtain ⟨on, hon⟩ : ∃ o, number4 s = o := ⟨_, rfl⟩
    obtain ⟨op, hop⟩ : ∃ o, parse4 s = o := ⟨_, rfl⟩
    obtain ⟨oe, hoe⟩ : ∃ o, ends4 s = o := ⟨_, rfl⟩
    obtain ⟨os, hos⟩ : ∃ o, show4 x = o := ⟨_, rfl⟩
    have x1 := Lib.hid (fun W h => number_is s on hon hl W h)
    have x2 := Lib.hid (fun W => refnum_is s on hon hl W)
    have x3 := Lib.hid (fun W h => parse_is s op hop hl W h)
    have x4 := Lib.hid (fun W => refParse_is s op hop hl W)
    have x5 := Lib.hid (fun W h => ends_is s oe hoe hl W h)
    have x6 := Lib.hid (fun W => refEnds_is s oe hoe hl W)
    have x7 := Lib.hid (fun W h => show_is x os hos hx W h)
    have x8 := Lib.hid (fun W => refShow_is x os hos hx W)
    have x9 := Lib.hid (fun W h => awake_true W h)
    have ho0 := Lib.hid ho
    have hn : ∃ (a : Int) (b : Bool), numV on = .tuple #[.int .u64 a, .bool b] := by cases on <;> exact ⟨_, _, rfl⟩
    obtain ⟨na, nb, hn⟩ := hn
    rw [hn] at x1 x2
    have hp : ∃ (a b : Int), parseV op = .tuple #[.int .u32 a, .int .i64 b] := by cases op <;> exact ⟨_, _, rfl⟩
    obtain ⟨pa, pb, hp⟩ := hp
    rw [hp] at x3 x4
    clear hn hp
    clear ho hon hop hoe hos
    have hb0 := Below.refl w.heap.size w
    go_enter Tryd.func3, Tryd.ntmps3
    go_wp2_with (go_at_call 13; refine (x1.out w ho0.out).mono ?_; rintro e w1 ⟨rfl, hc⟩)
    have ho1 := Lib.hid (ho0.out.below hc)
    have hb1 := hb0.trans (hc.mono hb0.size)
    clear hc hb0 ho0
    go_wp2_with (go_at_call 14; refine (x2.out w1).mono ?_; rintro e w' ⟨rfl, rfl⟩)
    go_wp2_with (go_at_call 15; refine (x3.out w1 ho1.out).mono ?_; rintro e w2 ⟨rfl, hc⟩)
    have ho2 := Lib.hid (ho1.out.below hc)
    have hb2 := hb1.trans (hc.mono hb1.size)
    clear hc hb1 ho1
    go_wp2_with (go_at_call 16; refine (x4.out w2).mono ?_; rintro e w3 ⟨rfl, hc⟩)
    have ho3 := Lib.hid (ho2.out.below hc)
    have hb3 := hb2.trans (hc.mono hb2.size)
    clear hc hb2 ho2
    go_wp2_with (go_at_call 17; refine (x5.out w3 ho3.out).mono ?_; rintro e w4 ⟨rfl, hc⟩)
    have ho4 := Lib.hid (ho3.out.below hc)
    have hb4 := hb3.trans (hc.mono hb3.size)
    clear hc hb3 ho3
    go_wp2_with (go_at_call 18; refine (x6.out w4).mono ?_; rintro e w5 ⟨rfl, hc⟩)
    have ho5 := Lib.hid (ho4.out.below hc)
    have hb5 := hb4.trans (hc.mono hb4.size)
    clear hc hb4 ho4
    go_wp2_with (go_at_call 19; refine (x7.out w5 ho5.out).mono ?_; rintro e w6 ⟨rfl, hc⟩)
    have ho6 := Lib.hid (ho5.out.below hc)
    have hb6 := hb5.trans (hc.mono hb5.size)
    clear hc hb5 ho5
    go_wp2_with (go_at_call 20; refine (x8.out w6).mono ?_; rintro e w7 ⟨rfl, hc⟩)
    have ho7 := Lib.hid (ho6.out.below hc)
    have hb7 := hb6.trans (hc.mono hb6.size)
    clear hc hb6 ho6
    go_wp2_with (go_at_call 12; refine (x9.out w7 ho7.out).mono ?_; rintro e w8 ⟨rfl, hc⟩)
    have hb8 := hb7.trans (hc.mono hb7.size)
    clear hc hb7 ho7
    go_wp2
    go_ret
    exact ⟨rfl, hb8⟩
#print axioms fourTells_true
end Go.Proofs.YtmobeppmdakjmaaDoor
