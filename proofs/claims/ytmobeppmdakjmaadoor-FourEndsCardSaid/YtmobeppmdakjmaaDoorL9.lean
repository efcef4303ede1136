/- Law: FourEnds answers true at every two texts. -/
import Derived.Test.YtmobeppmdakjmaaDoorL8
namespace Go.Proofs.YtmobeppmdakjmaaDoor
open Go.RowKit

set_option maxHeartbeats 2000000 in
set_option maxRecDepth 100000 in
theorem fourEnds_empty (a : List UInt8) (ha : a.length ≤ 50) (w : World) (ho : Ok w) :
    Calls Tryd.prog 7 #[.string ⟨#[]⟩, .string ⟨a.toArray⟩] w fun e w' => e = .returned (.bool true) ∧ Below w.heap.size w w' := by
  have hsza := size_str a
  have i2 : ¬ (50 : Int) < (a.length : Int) := by omega
  have x0 := Lib.hid (fun W h => parse_is [] none (by decide) (by decide) W h)
  have x1 := Lib.hid (fun W => trimSuffix_any [] (by decide) W)
  have Hl := Lib.hid (fun W => Tryd.strings_LastIndexByte ⟨#[]⟩ 46 (by decide) W)
  rw [show Lib.lastIndexByte ⟨#[]⟩ 46 = -1 from rfl] at Hl
  have x2 := Lib.hid (fun W h => ends_is [] false (by decide) (by decide) W h)
  have x9 := Lib.hid (fun W h => awake_true W h)
  rw [show trimDot [] = [] from rfl] at x1
  simp only [parseV] at x0
  have ho0 := Lib.hid ho
  clear ho
  have hb0 := Below.refl w.heap.size w
  go_enter Tryd.func7, Tryd.ntmps7
  go_wp2_with fail
  refine (x0.out _ ho0.out).mono ?_
  rintro e w1 ⟨rfl, hc⟩
  have ho1 := Lib.hid (ho0.out.below hc)
  have hb1 := hb0.trans (hc.mono hb0.size)
  clear hc hb0 ho0
  go_wp2_with fail
  refine (x1.out _).mono ?_
  rintro e w' ⟨rfl, hw⟩
  subst hw
  go_wp2_with fail
  refine (Hl.out _).mono ?_
  rintro e w' ⟨rfl, hw⟩
  subst hw
  go_wp2_with fail
  refine (x2.out _ ho1.out).mono ?_
  rintro e w2 ⟨rfl, hc⟩
  have ho2 := Lib.hid (ho1.out.below hc)
  have hb2 := hb1.trans (hc.mono hb1.size)
  clear hc hb1 ho1
  go_wp2_with fail
  refine (x9.out _ ho2.out).mono ?_
  rintro e w3 ⟨rfl, hc⟩
  go_wp2
  go_ret
  exact ⟨rfl, hb2.trans (hc.mono hb2.size)⟩
set_option maxHeartbeats 2000000 in
set_option maxRecDepth 100000 in
theorem fourEnds_true (s a : List UInt8) (w : World) (ho : Ok w) :
    Calls Tryd.prog 7 #[.string ⟨s.toArray⟩, .string ⟨a.toArray⟩] w fun e w' => e = .returned (.bool true) ∧ Below w.heap.size w w' := by
  by_cases h : s.length ≤ 200 ∧ a.length ≤ 50
  · by_cases hs : s = []
    · subst hs
      exact fourEnds_empty a h.2 w ho
    · exact fourEnds_main s a h.1 h.2 hs w ho
  · have hsz := size_str s
    have hsza := size_str a
    have x9 := Lib.hid (awake_true w ho)
    clear ho
    by_cases h2 : s.length ≤ 200
    · have i1 : ¬ (200 : Int) < (s.length : Int) := by omega
      have i2 : (50 : Int) < (a.length : Int) := by omega
      clear h h2
      go_enter Tryd.func7, Tryd.ntmps7
      go_wp2_with fail
      refine x9.out.mono ?_
      rintro e w1 ⟨rfl, hc⟩
      go_wp2
      go_ret
      exact ⟨rfl, hc⟩
    · have i1 : (200 : Int) < (s.length : Int) := by omega
      clear h h2
      go_enter Tryd.func7, Tryd.ntmps7
      go_wp2_with fail
      refine x9.out.mono ?_
      rintro e w1 ⟨rfl, hc⟩
      go_wp2
      go_ret
      exact ⟨rfl, hc⟩
#print axioms fourEnds_true
end Go.Proofs.YtmobeppmdakjmaaDoor
