/- Walks: the law's own examples (says, none, awake). (Printed by awake.py.) -/
import Derived.Test.YtmobeppmdakjmaaGreatDoorD4
import Derived.Test.YtmobeppmdakjmaaGreatDoorE1
namespace Go.Proofs.YtmobeppmdakjmaaGreatDoor
open Go.RowKit

set_option maxHeartbeats 1000000 in
set_option maxRecDepth 100000 in
theorem says_true (s : List UInt8) (v : Nat) (h : parse4 s = some v) (hl : s.length ≤ 1000000) (w : World) (ho : Ok w) :
    Calls Tryz.prog 6 #[.string ⟨s.toArray⟩, .int .u32 (v : Int)] w fun e w' => e = .returned (.bool true) ∧ Below w.heap.size w w' := by
  have Hp := Lib.hid (parse_any s hl w ho)
  rw [h] at Hp
  clear h
  go_enter Tryz.func6, Tryz.ntmps6
  go_wp2_with (go_at_call 15; refine Hp.out.mono ?_; rintro e w' ⟨rfl, hb⟩; simp only [parseV])
  go_ret
  exact ⟨by simp, hb⟩
set_option maxHeartbeats 1000000 in
set_option maxRecDepth 100000 in
theorem none_true (s : List UInt8) (h : parse4 s = none) (hl : s.length ≤ 1000000) (w : World) (ho : Ok w) :
    Calls Tryz.prog 19 #[.string ⟨s.toArray⟩] w fun e w' => e = .returned (.bool true) ∧ Below w.heap.size w w' := by
  have Hp := Lib.hid (parse_any s hl w ho)
  rw [h] at Hp
  clear h
  go_enter Tryz.func19, Tryz.ntmps19
  go_wp2_with (go_at_call 15; refine Hp.out.mono ?_; rintro e w' ⟨rfl, hb⟩; simp only [parseV])
  go_ret
  exact ⟨by simp, hb⟩
theorem ends_is (s : List UInt8) (b : Bool) (h : ends4 s = b) (hl : s.length ≤ 1000000) (w : World) (ho : Ok w) :
    Calls Tryz.prog 7 #[.string ⟨s.toArray⟩] w fun e w' => e = .returned (.bool b) ∧ Below w.heap.size w w' := by
  subst h; exact ends_any s hl w ho
theorem show_is (x : Nat) (s : List UInt8) (h : show4 x = s) (hx : x < 4294967296) (w : World) (ho : Ok w) :
    Calls Tryz.prog 20 #[.int .u32 (x : Int)] w fun e w' => e = .returned (.string ⟨s.toArray⟩) ∧ Below w.heap.size w w' := by
  subst h; exact show_any x hx w ho

set_option maxHeartbeats 4000000 in
set_option maxRecDepth 100000 in
theorem awake_true (w : World) (ho : Ok w) : Calls Tryz.prog 8 #[] w fun e w' => e = .returned (.bool true) ∧ Below w.heap.size w w' := by
  have x0 := Lib.hid (fun W h => says_true [49, 57, 50, 46, 49, 54, 56, 46, 48, 46, 49] 3232235521 (by decide) (by decide) W h)
  have x1 := Lib.hid (fun W h => says_true [48, 120, 99, 48, 46, 48, 50, 53, 48, 46, 49] 3232235521 (by decide) (by decide) W h)
  have x2 := Lib.hid (fun W h => says_true [51, 50, 51, 50, 50, 51, 53, 53, 50, 49] 3232235521 (by decide) (by decide) W h)
  have x3 := Lib.hid (fun W h => says_true [49, 46, 50, 46, 51, 46, 52, 46] 16909060 (by decide) (by decide) W h)
  have x4 := Lib.hid (fun W h => none_true [50, 53, 54, 46, 49] (by decide) (by decide) W h)
  have x5 := Lib.hid (fun W h => none_true [49, 46, 46, 50] (by decide) (by decide) W h)
  have x6 := Lib.hid (fun W h => none_true [49, 46, 50, 46, 51, 46, 52, 46, 53] (by decide) (by decide) W h)
  have x7 := Lib.hid (fun W h => none_true [48, 56] (by decide) (by decide) W h)
  have x8 := Lib.hid (fun W h => ends_is [48, 56] true (by decide) (by decide) W h)
  have x9 := Lib.hid (fun W h => ends_is [] false (by decide) (by decide) W h)
  have x10 := Lib.hid (fun W h => ends_is [97, 46, 48, 120] true (by decide) (by decide) W h)
  have x11 := Lib.hid (fun W h => show_is 3232235521 [49, 57, 50, 46, 49, 54, 56, 46, 48, 46, 49] (by decide) (by decide) W h)
  have ho0 := Lib.hid ho
  clear ho
  have hb0 := Below.refl w.heap.size w
  go_enter Tryz.func8, Tryz.ntmps8
  go_wp2_with (go_at_call 6; refine (x0.out w ho0.out).mono ?_)
  rintro e w1 ⟨rfl, hc1⟩
  have ho1 := Lib.hid (ho0.out.below hc1)
  have hb1 := hb0.trans (hc1.mono hb0.size)
  clear hc1 hb0 ho0 x0
  go_wp2_with (go_at_call 6; refine (x1.out w1 ho1.out).mono ?_)
  rintro e w2 ⟨rfl, hc2⟩
  have ho2 := Lib.hid (ho1.out.below hc2)
  have hb2 := hb1.trans (hc2.mono hb1.size)
  clear hc2 hb1 ho1 x1
  go_wp2_with (go_at_call 6; refine (x2.out w2 ho2.out).mono ?_)
  rintro e w3 ⟨rfl, hc3⟩
  have ho3 := Lib.hid (ho2.out.below hc3)
  have hb3 := hb2.trans (hc3.mono hb2.size)
  clear hc3 hb2 ho2 x2
  go_wp2_with (go_at_call 6; refine (x3.out w3 ho3.out).mono ?_)
  rintro e w4 ⟨rfl, hc4⟩
  have ho4 := Lib.hid (ho3.out.below hc4)
  have hb4 := hb3.trans (hc4.mono hb3.size)
  clear hc4 hb3 ho3 x3
  go_wp2_with (go_at_call 19; refine (x4.out w4 ho4.out).mono ?_)
  rintro e w5 ⟨rfl, hc5⟩
  have ho5 := Lib.hid (ho4.out.below hc5)
  have hb5 := hb4.trans (hc5.mono hb4.size)
  clear hc5 hb4 ho4 x4
  go_wp2_with (go_at_call 19; refine (x5.out w5 ho5.out).mono ?_)
  rintro e w6 ⟨rfl, hc6⟩
  have ho6 := Lib.hid (ho5.out.below hc6)
  have hb6 := hb5.trans (hc6.mono hb5.size)
  clear hc6 hb5 ho5 x5
  go_wp2_with (go_at_call 19; refine (x6.out w6 ho6.out).mono ?_)
  rintro e w7 ⟨rfl, hc7⟩
  have ho7 := Lib.hid (ho6.out.below hc7)
  have hb7 := hb6.trans (hc7.mono hb6.size)
  clear hc7 hb6 ho6 x6
  go_wp2_with (go_at_call 19; refine (x7.out w7 ho7.out).mono ?_)
  rintro e w8 ⟨rfl, hc8⟩
  have ho8 := Lib.hid (ho7.out.below hc8)
  have hb8 := hb7.trans (hc8.mono hb7.size)
  clear hc8 hb7 ho7 x7
  go_wp2_with (go_at_call 7; refine (x8.out w8 ho8.out).mono ?_)
  rintro e w9 ⟨rfl, hc9⟩
  have ho9 := Lib.hid (ho8.out.below hc9)
  have hb9 := hb8.trans (hc9.mono hb8.size)
  clear hc9 hb8 ho8 x8
  go_wp2_with (go_at_call 7; refine (x9.out w9 ho9.out).mono ?_)
  rintro e w10 ⟨rfl, hc10⟩
  have ho10 := Lib.hid (ho9.out.below hc10)
  have hb10 := hb9.trans (hc10.mono hb9.size)
  clear hc10 hb9 ho9 x9
  go_wp2_with (go_at_call 7; refine (x10.out w10 ho10.out).mono ?_)
  rintro e w11 ⟨rfl, hc11⟩
  have ho11 := Lib.hid (ho10.out.below hc11)
  have hb11 := hb10.trans (hc11.mono hb10.size)
  clear hc11 hb10 ho10 x10
  go_wp2_with (go_at_call 20; refine (x11.out w11 ho11.out).mono ?_)
  rintro e w12 ⟨rfl, hc12⟩
  have ho12 := Lib.hid (ho11.out.below hc12)
  have hb12 := hb11.trans (hc12.mono hb11.size)
  clear hc12 hb11 ho11 x11
  go_wp2
  go_ret
  exact ⟨rfl, hb12⟩
#print axioms awake_true
end Go.Proofs.YtmobeppmdakjmaaGreatDoor
