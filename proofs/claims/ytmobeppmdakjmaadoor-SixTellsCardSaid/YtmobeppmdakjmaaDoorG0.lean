/- Walk: strings.ContainsRune over whatever ASCII text of four bytes or more, at whatever code point. (Printed by g0b.py.) -/
import Derived.Test.YtmobeppmdakjmaaDoorM1
import Derived.Test.YtmobeppmdakjmaaDoorS0
import Derived.Test.YtmobeppmdakjmaaDoorChecked
import Derived.Laws.Runes
import Derived.Laws.RangeAny
import Derived.Handy
import Derived.Deep.RegionWith
import Derived.Deep.QuietTactic
import Derived.BigQuiet
import Derived.Lib.IndexAny
namespace Go.Proofs.YtmobeppmdakjmaaDoor
open Go.RowKit

/-- All bytes are ASCII. -/
def Asc (s : ByteArray) : Prop := ∀ (i : Nat) (h : i < s.size), (s[i]'h).toNat < 128
theorem asc_list {s : ByteArray} (h : Asc s) : ∀ b ∈ s.data.toList, b.toNat < 128 := by
  intro b hb
  obtain ⟨i, hi, rfl⟩ := List.mem_iff_getElem.1 hb
  exact h i (by simpa using hi)
theorem strings_IndexByte' (s : ByteArray) (c : UInt8) (w : World) :
    Calls Tryd.prog 28 #[.string s, .int .u8 c.toNat] w fun e w' => e = .returned (.int .i64 (Lib.indexByte s.data.toList c)) ∧ w' = w :=
  (Tryd.strings_IndexByte s c.toNat w).mono fun e w' h => by simpa using h
theorem indexByte_high (c : UInt8) (hc : 128 ≤ c.toNat) : ∀ l : List UInt8, (∀ b ∈ l, b.toNat < 128) → Lib.indexByte l c = -1 := by
  intro l h
  have h1 := Lib.contains_iff_indexByte l c
  have h2 : l.contains c = false := by
    rw [Bool.eq_false_iff]
    intro e
    have := h c (by simpa using e)
    omega
  rw [h2] at h1
  have h3 : ¬ (0 ≤ Lib.indexByte l c) := of_decide_eq_false h1.symm
  have := Lib.indexByte_ge l c
  omega
theorem index_asc (s : ByteArray) (h : Asc s) (c : UInt8) (hc : 128 ≤ c.toNat) (a b : Nat) : Lib.indexByte (s.extract a b).data.toList c = -1 := by
  refine indexByte_high c hc _ (fun x hx => asc_list h x ?_)
  rw [ByteArray.data_extract, Array.toList_extract, List.extract_eq_take_drop] at hx
  exact List.mem_of_mem_drop (List.mem_of_mem_take hx)

set_option maxHeartbeats 400000 in
set_option maxRecDepth 100000 in
theorem validRune_any (r : Int) (w : World) : Calls Tryd.prog 141 #[.int .i32 r] w fun e w' => e = .returned (.bool (Utf8.valid r)) ∧ w = w' := by
  go_enter Tryd.func141, Tryd.ntmps141
  go_wp2
  all_goals go_ret
  all_goals (refine ⟨ret_bool ?_, rfl⟩; rw [Bool.eq_iff_iff]; simp [Utf8.valid]; try omega)
theorem below_iter {B : Nat} {w w' : World} (h : Below B w w') (hB : B ≤ w'.heap.size) (s : ByteArray) (p : Nat) : Below B w (w'.iter s p) := by
  have := h.alloc hB (.stringIter s p)
  exact this

set_option maxHeartbeats 1000000 in
set_option maxRecDepth 100000 in
theorem indexRune_bad (s : ByteArray) (hasc : Asc s) (w : World) : Calls Tryd.prog 117 #[.string s, .int .i32 65533] w fun e w' => e = .returned (.int .i64 (-1)) ∧ Below w.heap.size w w' := by
  have H := Lib.hid hasc
  clear hasc
  go_enter Tryd.func117, Tryd.ntmps117
  go_wp2
  go_loopg [5, 6] s.size (fun g _ _ wx => ∃ i : Nat, i + g = s.size ∧ wx = w.iter s i)
  case atStart => exact ⟨0, by omega, rfl⟩
  case round =>
    obtain ⟨i, hig, rfl⟩ := hrel
    cases gk with
    | zero =>
      obtain rfl : i = s.size := by omega
      have hnx := run_next_end (P := Tryd.prog) w s s.size
      go_wp2
      go_ret
      exact ⟨rfl, below_iter (Below.refl _ _) (Nat.le_refl _) _ _⟩
    | succ g =>
      have hi : i < s.size := by omega
      obtain ⟨x, hx⟩ : ∃ x : UInt8, s[i]'hi = x := ⟨_, rfl⟩
      have hx128 : x.toNat < 128 := by rw [← hx]; exact H.out i hi
      have hnx := fun ty => run_next_ascii (P := Tryd.prog) w s i ty hi (by rw [hx]; exact hx128)
      rw [hx] at hnx
      clear hx
      go_wp2
      go_roundg g
      case measure => omega
      case rel => exact ⟨i + 1, by omega, rfl⟩

theorem valid_pos {r : Int} (h : Utf8.valid r = true) : 0 ≤ r := by simp [Utf8.valid] at h; omega

/-- Is a code point among a text's bytes? -/
def hasR (l : List UInt8) (r : Int) : Bool := decide (0 ≤ r) && decide (r < 128) && l.contains r.toNat.toUInt8
#print axioms indexRune_bad
end Go.Proofs.YtmobeppmdakjmaaDoor
