/- Walks: six.digits and six.piece. -/
import Derived.Test.YtmobeppmdakjmaaDoorQ2
import Derived.Test.YtmobeppmdakjmaaDoorJ1
import Derived.Test.YtmobeppmdakjmaaDoorC1
import Derived.Test.YtmobeppmdakjmaaDoorA4
namespace Go.Proofs.YtmobeppmdakjmaaDoor
open Go.RowKit

theorem hex_digits (l : List UInt8) : l.all ([48, 49, 50, 51, 52, 53, 54, 55, 56, 57, 97, 98, 99, 100, 101, 102, 65, 66, 67, 68, 69, 70].contains ·) = digitsB 16 l := by
  unfold digitsB
  congr 1
  funext c
  have : ∀ n : Fin 256, [48, 49, 50, 51, 52, 53, 54, 55, 56, 57, 97, 98, 99, 100, 101, 102, 65, 66, 67, 68, 69, 70].contains (UInt8.ofNat n.1) = decide (worth (UInt8.ofNat n.1) < 16) := by decide +kernel
  have h := this ⟨c.toNat, c.toNat_lt⟩
  simpa using h
theorem trim_hexL (l : List UInt8) : (Lib.trimS l [48, 49, 50, 51, 52, 53, 54, 55, 56, 57, 97, 98, 99, 100, 101, 102, 65, 66, 67, 68, 69, 70] == []) = digitsB 16 l := by
  rw [← hex_digits]
  by_cases h : Lib.trimS l [48, 49, 50, 51, 52, 53, 54, 55, 56, 57, 97, 98, 99, 100, 101, 102, 65, 66, 67, 68, 69, 70] = []
  · rw [(trimS_all _ _).1 h, h]; rfl
  · have h2 : (Lib.trimS l [48, 49, 50, 51, 52, 53, 54, 55, 56, 57, 97, 98, 99, 100, 101, 102, 65, 66, 67, 68, 69, 70] == []) = false := by rw [beq_eq_false_iff_ne]; exact h
    rw [h2]
    cases h3 : l.all ([48, 49, 50, 51, 52, 53, 54, 55, 56, 57, 97, 98, 99, 100, 101, 102, 65, 66, 67, 68, 69, 70].contains ·) with
    | false => rfl
    | true => exact absurd ((trimS_all _ _).2 h3) h
theorem trim_hex (s : List UInt8) (hl : s.length ≤ 1000000) (w : World) :
    Calls Tryd.prog 38 #[.string ⟨s.toArray⟩, .string ⟨#[48, 49, 50, 51, 52, 53, 54, 55, 56, 57, 97, 98, 99, 100, 101, 102, 65, 66, 67, 68, 69, 70]⟩] w fun e w' => (∃ t : List UInt8, e = .returned (.string ⟨t.toArray⟩) ∧ (t == []) = digitsB 16 s) ∧ Below w.heap.size w w' := by
  refine (Tryd.strings_Trim ⟨s.toArray⟩ ⟨#[48, 49, 50, 51, 52, 53, 54, 55, 56, 57, 97, 98, 99, 100, 101, 102, 65, 66, 67, 68, 69, 70]⟩ w (by rw [size_str]; omega) (by decide) (ascii_of_all (by decide))).mono ?_
  rintro e w' ⟨rfl, hb⟩
  exact ⟨⟨_, rfl, trim_hexL s⟩, hb⟩
/-- Has a text one to so many digits, and none but these? -/
def digs6 (b most : Nat) (p : List UInt8) : Bool := p != [] && (decide (p.length ≤ most) && digitsB b p)
theorem digs6_at (b most : Nat) (s : List UInt8) (cs : ByteArray) (ht : ∀ w, Calls Tryd.prog 38 #[.string ⟨s.toArray⟩, .string cs] w fun e w' => (∃ t : List UInt8, e = .returned (.string ⟨t.toArray⟩) ∧ (t == []) = digitsB b s) ∧ Below w.heap.size w w') (_hm : most < 100) (w : World) :
    Calls Tryd.prog 132 #[.string ⟨s.toArray⟩, .int .i64 (most : Int), .string cs] w fun e w' => e = .returned (.bool (digs6 b most s)) ∧ Below w.heap.size w w' := by
  have Ht := Lib.hid ht
  have hsz := size_str s
  clear ht
  by_cases h0 : s = []
  · have f1 : (s == ([] : List UInt8)) = true := by rw [h0]; rfl
    have hd : Hid (digs6 b most s = false) := by show _ = _; rw [h0]; rfl
    clear h0
    go_enter Tryd.func132, Tryd.ntmps132
    go_wp2
    go_ret
    exact ⟨ret_bool hd.out.symm, Below.refl _ _⟩
  have f1 : (s == ([] : List UInt8)) = false := by rw [beq_eq_false_iff_ne]; exact h0
  by_cases hl : s.length ≤ most
  · have f2 : (s.length : Int) ≤ (most : Int) := by omega
    have hd : Hid (digs6 b most s = digitsB b s) := by show _ = _; unfold digs6; rw [bne, f1, decide_eq_true hl]; rfl
    clear h0 hl
    go_enter Tryd.func132, Tryd.ntmps132
    go_wp2_with fail
    refine (Ht.out _).mono ?_
    rintro e w1 ⟨⟨t, rfl, htd⟩, hc⟩
    have Htd := Lib.hid htd
    clear htd
    go_wp2
    go_ret
    exact ⟨ret_bool (by rw [hd.out, ← Htd.out]; simp), hc⟩
  · have f2 : ¬ (s.length : Int) ≤ (most : Int) := by omega
    have hd : Hid (digs6 b most s = false) := by show _ = _; unfold digs6; rw [decide_eq_false hl]; simp
    clear h0 hl
    go_enter Tryd.func132, Tryd.ntmps132
    go_wp2
    go_ret
    exact ⟨ret_bool hd.out.symm, Below.refl _ _⟩
#print axioms digs6_at
end Go.Proofs.YtmobeppmdakjmaaDoor
