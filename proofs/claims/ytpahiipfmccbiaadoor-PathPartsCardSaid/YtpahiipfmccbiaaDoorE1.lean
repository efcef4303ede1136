/- Walks: the law PathParts, every input. -/
import Derived.Test.YtpahiipfmccbiaaDoorD1
import Derived.Test.YtpahiipfmccbiaaDoorD2
import Derived.Test.YtpahiipfmccbiaaDoorD3
import Derived.Test.YtpahiipfmccbiaaDoorD4
namespace Go.Proofs.YtpahiipfmccbiaaDoor
open Go.RowKit

set_option maxHeartbeats 1000000 in
set_option maxRecDepth 100000 in
theorem parts_long (u : UInt8) (a b : List Int) (A A' : Option Addr) (c c' : Nat) (back : Bool) (w : World) (hm : Mx 0 w) (h : 150 < a.length ∨ 150 < b.length) (ha : a.length ≤ 9223372036854775807) (hb : b.length ≤ 9223372036854775807) :
    Calls Tryd.prog 3 #[.int .u8 u.toNat, .slice A a.length c, .slice A' b.length c', .bool back] w fun e w' => e = .returned (.bool true) ∧ Below w.heap.size w w' := by
  by_cases h1 : 150 < a.length
  · have f1 : (150 : Int) < (a.length : Int) := by omega
    clear h
    go_enter Tryd.func3, Tryd.ntmps3
    go_wp2_with (go_at_call 8; refine (awake_any w hm).mono ?_; rintro e w' ⟨rfl, hb⟩)
    go_ret
    exact ⟨rfl, hb⟩
  · have h2 : 150 < b.length := by omega
    have f1 : ¬ (150 : Int) < (a.length : Int) := by omega
    have f2 : (150 : Int) < (b.length : Int) := by omega
    clear h
    go_enter Tryd.func3, Tryd.ntmps3
    go_wp2_with (go_at_call 8; refine (awake_any w hm).mono ?_; rintro e w' ⟨rfl, hb⟩)
    go_ret
    exact ⟨rfl, hb⟩

theorem parts_law (u : UInt8) (a b : List Int) (A A' : Option Addr) (c c' : Nat) (back : Bool) (w : World) (hm : Mx 0 w) (hA : Rd w w.heap.size A (runV a)) (hA' : Rd w w.heap.size A' (runV b)) (hc : a.length ≤ c) (hc' : b.length ≤ c') (ha : a.length ≤ 9223372036854775807) (hb : b.length ≤ 9223372036854775807) :
    Calls Tryd.prog 3 #[.int .u8 u.toNat, .slice A a.length c, .slice A' b.length c', .bool back] w fun e w' => e = .returned (.bool true) ∧ Below w.heap.size w w' := by
  by_cases h : a.length ≤ 150 ∧ b.length ≤ 150
  · obtain ⟨h1, h2⟩ := h
    have h3 : u.toNat % 3 = 0 ∨ u.toNat % 3 = 1 ∨ u.toNat % 3 = 2 := by omega
    rcases h3 with h3 | h3 | h3
    · have hn : nameAt u [104, 116, 116, 112] := by unfold nameAt; rw [h3]; rfl
      cases back
      · exact parts_main_D3 u _ hn (by decide) (by decide) (by decide) a b A A' c c' w hm hA hA' h1 h2 hc hc'
      · exact parts_main_D1 u _ hn (by decide) (by decide) (by decide) a b A A' c c' w hm hA hA' h1 h2 hc hc'
    · have hn : nameAt u [102, 105, 108, 101] := by unfold nameAt; rw [h3]; rfl
      cases back
      · exact parts_main_D3 u _ hn (by decide) (by decide) (by decide) a b A A' c c' w hm hA hA' h1 h2 hc hc'
      · exact parts_main_D1 u _ hn (by decide) (by decide) (by decide) a b A A' c c' w hm hA hA' h1 h2 hc hc'
    · have hn : nameAt u [120] := by unfold nameAt; rw [h3]; rfl
      cases back
      · exact parts_main_D4 u _ hn (by decide) (by decide) (by decide) a b A A' c c' w hm hA hA' h1 h2 hc hc'
      · exact parts_main_D2 u _ hn (by decide) (by decide) (by decide) a b A A' c c' w hm hA hA' h1 h2 hc hc'
  · exact parts_long u a b A A' c c' back w hm (by omega) ha hb
#print axioms parts_law
end Go.Proofs.YtpahiipfmccbiaaDoor
