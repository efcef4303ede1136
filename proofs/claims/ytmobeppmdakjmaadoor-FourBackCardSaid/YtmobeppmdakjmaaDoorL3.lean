/- Law: FourBack answers true. (Printed by fourback.py.) -/
import Derived.Test.YtmobeppmdakjmaaDoorL2
namespace Go.Proofs.YtmobeppmdakjmaaDoor
open Go.RowKit

theorem shift_32 (x k : Nat) : (x : Int) / (k : Int) = ((x / k : Nat) : Int) := by simp
theorem quad_cells (w : World) (x : Nat) : Rd (w.alloc (.cells (strV (quad x)).toArray 9)) (w.heap.size + 1) (some ⟨w.heap.size, 0, none⟩) (strV (quad x)) := rd_new w (strV (quad x)) 9
set_option maxHeartbeats 8000000 in
set_option maxRecDepth 100000 in
theorem fourBack_true (x y : Nat) (hx : x < 4294967296) (hy : y < 4294967296) (w : World) (ho : Ok w) :
    Calls Tryd.prog 4 #[.int .u32 (x : Int), .int .u32 (y : Int)] w fun e w' => e = .returned (.bool true) ∧ Below w.heap.size w w' := by
  have hlen := show_len x
  have x1 := Lib.hid (fun W h => show_any x hx W h)
  have x2 := Lib.hid (fun W h => split_any 46 (show4 x) (by omega) W h)
  rw [splitC_46, split_show] at x2
  have x3 := Lib.hid (fun W h => says_true (show4 x) x (parse_show x hx) (by omega) W h)
  have x4 := Lib.hid (fun W h => says_true (show4 x ++ [46]) x (parse_show1 x hx) (by simp; omega) W h)
  have x5 := Lib.hid (fun W h => none_true (show4 x ++ [46, 46]) (parse_show2 x) (by simp; omega) W h)
  have x6 := Lib.hid (fun W h => ends_is (show4 x) true (ends_show x) (by omega) W h)
  have x7 := Lib.hid (fun W h => ends_is (show4 x ++ [46]) true (ends_show1 x) (by simp; omega) W h)
  have x8 := Lib.hid (fun W h => show_any y hy W h)
  have x9 := Lib.hid (fun W h => awake_true W h)
  have hxy : ∃ b : Bool, (show4 y == show4 x) = b ∧ ((x : Int) == (y : Int)) = b := by
    by_cases h : x = y
    · exact ⟨true, by rw [h]; simp, by rw [h]; simp⟩
    · exact ⟨false, by rw [beq_eq_false_iff_ne]; exact fun e => h (show_inj hx hy e).symm, by rw [beq_eq_false_iff_ne]; omega⟩
  obtain ⟨bq, q1, q2⟩ := hxy
  generalize show4 x = s at *
  generalize show4 y = s' at *
  have ho0 := Lib.hid ho
  clear ho
  have hb0 := Below.refl w.heap.size w
  have hq0 : (quad x).length = 4 := rfl
  go_enter Tryd.func4, Tryd.ntmps4
  go_wp2_with (go_at_call 19; refine (x1.out w ho0.out).mono ?_)
  rintro e w1 ⟨rfl, hc⟩
  have ho1 := Lib.hid (ho0.out.below hc)
  have hb1 := hb0.trans (hc.mono hb0.size)
  clear hc hb0 ho0
  go_wp2_with (go_at_call 21; refine (x2.out w1 ho1.out).mono ?_)
  rintro e w2 ⟨rfl, hw2⟩
  have hc : Below w1.heap.size w1 w2 := by rw [hw2]; exact (Below.refl _ _).alloc (Nat.le_refl _) _
  have hrd := Lib.hid (by have := quad_cells w1 x; rw [← hw2] at this; exact this)
  have hsz2 : w1.heap.size < w2.heap.size := by rw [hw2]; simp
  generalize w1.heap.size = N at hrd hsz2
  have ho2 := Lib.hid (ho1.out.below hc)
  have hb2 := hb1.trans (hc.mono hb1.size)
  clear hc hb1 ho1 hw2
  simp only [hq0]
  go_wp2_with (go_at_call 22; refine (x3.out w2 ho2.out).mono ?_)
  rintro e w3 ⟨rfl, hc⟩
  have ho3 := Lib.hid (ho2.out.below hc)
  have hb3 := hb2.trans (hc.mono hb2.size)
  have hb23 := hc
  clear hc hb2 ho2
  go_wp2_with (go_at_call 22; refine (x4.out w3 ho3.out).mono ?_)
  rintro e w4 ⟨rfl, hc⟩
  have ho4 := Lib.hid (ho3.out.below hc)
  have hb4 := hb3.trans (hc.mono hb3.size)
  have hb24 := hb23.trans (hc.mono hb23.size)
  clear hb23
  clear hc hb3 ho3
  go_wp2_with (go_at_call 23; refine (x5.out w4 ho4.out).mono ?_)
  rintro e w5 ⟨rfl, hc⟩
  have ho5 := Lib.hid (ho4.out.below hc)
  have hb5 := hb4.trans (hc.mono hb4.size)
  have hb25 := hb24.trans (hc.mono hb24.size)
  clear hb24
  clear hc hb4 ho4
  go_wp2_with (go_at_call 17; refine (x6.out w5 ho5.out).mono ?_)
  rintro e w6 ⟨rfl, hc⟩
  have ho6 := Lib.hid (ho5.out.below hc)
  have hb6 := hb5.trans (hc.mono hb5.size)
  have hb26 := hb25.trans (hc.mono hb25.size)
  clear hb25
  clear hc hb5 ho5
  go_wp2_with (go_at_call 17; refine (x7.out w6 ho6.out).mono ?_)
  rintro e w7 ⟨rfl, hc⟩
  have ho7 := Lib.hid (ho6.out.below hc)
  have hb7 := hb6.trans (hc.mono hb6.size)
  have hb27 := hb26.trans (hc.mono hb26.size)
  clear hb26
  clear hc hb6 ho6
  have hN7 : N < w7.heap.size := Nat.lt_of_lt_of_le hsz2 hb27.size
  have hN2 := hsz2
  go_wp2
  go_loopw [48] (fun i wr => ∃ k : Nat, k ≤ 4 ∧ i = .int .i64 (k : Int) ∧ Below w.heap.size w wr ∧ Below w7.heap.size w7 wr ∧ Hid (Ok wr)) (fun i _ => (4 - intOf i).toNat)
  case atStart => exact ⟨0, Nat.zero_le _, rfl, hb7, Below.refl _ _, ho7⟩
  case round =>
    obtain ⟨k, hk, rfl, hbw, hb7w, hor⟩ := hrel
    have q : k = 0 ∨ k = 1 ∨ k = 2 ∨ k = 3 ∨ k = 4 := by omega
    rcases q with rfl | rfl | rfl | rfl | rfl
    · have hcell : wr.cell? ⟨N, 0, none⟩ = some (.string ⟨(dec ((x / 16777216) % 256)).toArray⟩) := (hb7w.cell (p := ⟨N, 0, none⟩) hN7).trans ((hb27.cell (p := ⟨N, 0, none⟩) hN2).trans (hrd.out.cell (k := 0) rfl))
      have hv : Hid (wrap64 (bits BinOp.and IntKind.u32 ((x : Int) / 16777216) 255) = (((x / 16777216) % 256 : Nat) : Int)) := by
        have := byte_val (x / 16777216) (by omega)
        rwa [Int.natCast_ediv] at this
      go_wp2_with (go_at_call 24; refine (itoa_val _ ((x / 16777216) % 256) hv.out (by omega) wr hor.out).mono ?_)
      rintro e w8 ⟨rfl, hc⟩
      have hbn := hbw.trans (hc.mono hbw.size)
      have hb7n := hb7w.trans (hc.mono hb7w.size)
      have hon := Lib.hid (hor.out.below hc)
      clear hcell
      go_wp2
      exact ⟨⟨1, by omega, rfl, hbn, hb7n, hon.out⟩, by simp [intOf]⟩
    · have hcell : wr.cell? ⟨N, 1, none⟩ = some (.string ⟨(dec ((x / 65536) % 256)).toArray⟩) := (hb7w.cell (p := ⟨N, 1, none⟩) hN7).trans ((hb27.cell (p := ⟨N, 1, none⟩) hN2).trans (hrd.out.cell (k := 1) rfl))
      have hv : Hid (wrap64 (bits BinOp.and IntKind.u32 ((x : Int) / 65536) 255) = (((x / 65536) % 256 : Nat) : Int)) := by
        have := byte_val (x / 65536) (by omega)
        rwa [Int.natCast_ediv] at this
      go_wp2_with (go_at_call 24; refine (itoa_val _ ((x / 65536) % 256) hv.out (by omega) wr hor.out).mono ?_)
      rintro e w8 ⟨rfl, hc⟩
      have hbn := hbw.trans (hc.mono hbw.size)
      have hb7n := hb7w.trans (hc.mono hb7w.size)
      have hon := Lib.hid (hor.out.below hc)
      clear hcell
      go_wp2
      exact ⟨⟨2, by omega, rfl, hbn, hb7n, hon.out⟩, by simp [intOf]⟩
    · have hcell : wr.cell? ⟨N, 2, none⟩ = some (.string ⟨(dec ((x / 256) % 256)).toArray⟩) := (hb7w.cell (p := ⟨N, 2, none⟩) hN7).trans ((hb27.cell (p := ⟨N, 2, none⟩) hN2).trans (hrd.out.cell (k := 2) rfl))
      have hv : Hid (wrap64 (bits BinOp.and IntKind.u32 ((x : Int) / 256) 255) = (((x / 256) % 256 : Nat) : Int)) := by
        have := byte_val (x / 256) (by omega)
        rwa [Int.natCast_ediv] at this
      go_wp2_with (go_at_call 24; refine (itoa_val _ ((x / 256) % 256) hv.out (by omega) wr hor.out).mono ?_)
      rintro e w8 ⟨rfl, hc⟩
      have hbn := hbw.trans (hc.mono hbw.size)
      have hb7n := hb7w.trans (hc.mono hb7w.size)
      have hon := Lib.hid (hor.out.below hc)
      clear hcell
      go_wp2
      exact ⟨⟨3, by omega, rfl, hbn, hb7n, hon.out⟩, by simp [intOf]⟩
    · have hcell : wr.cell? ⟨N, 3, none⟩ = some (.string ⟨(dec ((x) % 256)).toArray⟩) := (hb7w.cell (p := ⟨N, 3, none⟩) hN7).trans ((hb27.cell (p := ⟨N, 3, none⟩) hN2).trans (hrd.out.cell (k := 3) rfl))
      have hv : Hid (wrap64 (bits BinOp.and IntKind.u32 ((x : Int)) 255) = (((x) % 256 : Nat) : Int)) := by
        have := byte_val (x) (by omega)
        exact this
      go_wp2_with (go_at_call 24; refine (itoa_val _ ((x) % 256) hv.out (by omega) wr hor.out).mono ?_)
      rintro e w8 ⟨rfl, hc⟩
      have hbn := hbw.trans (hc.mono hbw.size)
      have hb7n := hb7w.trans (hc.mono hb7w.size)
      have hon := Lib.hid (hor.out.below hc)
      clear hcell
      go_wp2
      exact ⟨⟨4, by omega, rfl, hbn, hb7n, hon.out⟩, by simp [intOf]⟩
    · go_wp2_with (go_at_call 19; refine (x8.out wr hor.out).mono ?_)
      rintro e w8 ⟨rfl, hc⟩
      have ho8 := Lib.hid (hor.out.below hc)
      have hb8 := hbw.trans (hc.mono hbw.size)
      clear hc hbw hor hb7w
      cases bq
      · go_wp2_with (go_at_call 12; refine (x9.out w8 ho8.out).mono ?_; rintro e w9 ⟨rfl, hc⟩)
        go_ret
        exact ⟨rfl, hb8.trans (hc.mono hb8.size)⟩
      · go_wp2_with (go_at_call 12; refine (x9.out w8 ho8.out).mono ?_; rintro e w9 ⟨rfl, hc⟩)
        go_ret
        exact ⟨rfl, hb8.trans (hc.mono hb8.size)⟩
#print axioms fourBack_true
end Go.Proofs.YtmobeppmdakjmaaDoor
