/- Walks: the chapter's examples (awake). -/
import Derived.Test.YtpahiipfmccbiaaDoorC1
namespace Go.Proofs.YtpahiipfmccbiaaDoor
open Go.RowKit

theorem ex1 : (walk [104, 116, 116, 112] [] (runes [97, 47, 46, 46, 47, 98, 47, 46, 47, 99, 47, 46, 46]) == [[98], []]) = true := by decide
theorem ex2 : (walk [104, 116, 116, 112] [] (runes [97, 92, 98]) == [[97], [98]]) = true := by decide
theorem ex3 : (walk [120] [] (runes [97, 92, 98]) == [[97, 92, 98]]) = true := by decide
theorem ex4 : (walk [102, 105, 108, 101] [] (runes [67, 124, 47, 46, 46]) == [[67, 58], []]) = true := by decide
theorem ex5 : (walk [104, 116, 116, 112] [] (runes [37, 50, 69, 37, 50, 101, 47, 97, 32, 98]) == [[97, 37, 50, 48, 98]]) = true := by decide
theorem ex6 : (walk [104, 116, 116, 112] [] (runes []) == [[]]) = true := by decide
theorem ex7 : shorten [102, 105, 108, 101] [[67, 58]] = [[67, 58]] := by decide

/-- A row of texts, laid for a call. -/
theorem walks_row (sc tx : List UInt8) (ws : List (List UInt8)) (w0 w : World) (hb : Below w0.heap.size w0 w) (hm : Mx 0 w0) (h : (walk sc [] (runes tx) == ws) = true) (hsc : sc.length ≤ 1048576) (htx : tx.length ≤ 524288) (hws : ws.length ≤ 4294967296) (c : Nat) :
    Calls Tryd.prog 28 #[.string ⟨sc.toArray⟩, .string ⟨tx.toArray⟩, .slice (some ⟨w.heap.size, 0, none⟩) ws.length c] (w.alloc (.cells (strV ws).toArray 9)) fun e w' => e = .returned (.bool true) ∧ Below w0.heap.size w0 w' := by
  have hb1 := hb.alloc hb.size (.cells (strV ws).toArray 9)
  refine (walks_any sc tx ws _ c _ (w.heap.size + 1) (rd_new w _ 9) (by simp) hsc htx hws (hm.below hb1)).mono ?_
  rintro e w' ⟨rfl, hb2⟩
  exact ⟨by rw [h], hb1.trans (hb2.mono hb1.size)⟩

set_option maxHeartbeats 1000000 in
set_option maxRecDepth 100000 in
theorem awake_any (w : World) (hm : Mx 0 w) : Calls Tryd.prog 8 #[] w fun e w' => e = .returned (.bool true) ∧ Below w.heap.size w w' := by
  go_enter Tryd.func8, Tryd.ntmps8
  go_wp2_with (go_at_call 28; refine (walks_row _ _ [[98], []] w _ (Below.refl _ w) hm ex1 (by simp) (by simp) (by simp) 2).mono ?_)
  rintro e w1 ⟨rfl, hb1⟩
  go_wp2_with (go_at_call 28; refine (walks_row _ _ [[97], [98]] w _ hb1 hm ex2 (by simp) (by simp) (by simp) 2).mono ?_)
  rintro e w2 ⟨rfl, hb2⟩
  go_wp2_with (go_at_call 28; refine (walks_row _ _ [[97, 92, 98]] w _ hb2 hm ex3 (by simp) (by simp) (by simp) 1).mono ?_)
  rintro e w3 ⟨rfl, hb3⟩
  go_wp2_with (go_at_call 28; refine (walks_row _ _ [[67, 58], []] w _ hb3 hm ex4 (by simp) (by simp) (by simp) 2).mono ?_)
  rintro e w4 ⟨rfl, hb4⟩
  go_wp2_with (go_at_call 28; refine (walks_row _ _ [[97, 37, 50, 48, 98]] w _ hb4 hm ex5 (by simp) (by simp) (by simp) 1).mono ?_)
  rintro e w5 ⟨rfl, hb5⟩
  go_wp2_with (go_at_call 28; refine (walks_row _ _ [[]] w _ hb5 hm ex6 (by simp) (by simp) (by simp) 1).mono ?_)
  rintro e w6 ⟨rfl, hb6⟩
  have hb7 := hb6.alloc hb6.size (.cells #[.string ⟨#[67, 58]⟩] 9)
  go_wp2_with (go_at_call 16; refine (shorten_any [102, 105, 108, 101] (some ⟨w6.heap.size, 0, none⟩) 1 [[67, 58]] (w6.alloc (.cells #[.string ⟨#[67, 58]⟩] 9)) (w6.heap.size + 1) (rd_new w6 _ 9) (by simp) (by simp) (by simp) (by simp)).mono ?_)
  rintro e w8 ⟨v', rfl, ho, hb8⟩
  rw [ex7] at ho
  obtain ⟨A', c', rfl⟩ := own_slice ho
  have hb9 := (hb7.trans (hb8.mono hb7.size))
  have hb10 := hb9.alloc hb9.size (.cells #[.string ⟨#[67, 58]⟩] 9)
  have ht := texts_any A' (some ⟨w8.heap.size, 0, none⟩) c' 1 [[67, 58]] [[67, 58]] (w8.alloc (.cells #[.string ⟨#[67, 58]⟩] 9)) _ (w8.heap.size + 1) ((Rd.of_own ho).alloc (Nat.le_refl _) _) (rd_new w8 _ 9) (by simp) (by simp)
  have Ht := Lib.hid ht
  clear ht ho hb8 hb7 hb6 hb5 hb4 hb3 hb2 hb1
  go_wp2_with (go_at_call 13; refine Ht.out.mono ?_)
  rintro e w9 ⟨rfl, n, rfl⟩
  go_wp2
  go_ret
  exact ⟨rfl, below_drewN hb10 n⟩
#print axioms awake_any
end Go.Proofs.YtpahiipfmccbiaaDoor
