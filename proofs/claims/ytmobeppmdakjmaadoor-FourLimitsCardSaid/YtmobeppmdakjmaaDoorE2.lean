/- Walks: the reference's worth, Number. -/
import Derived.Test.YtmobeppmdakjmaaDoorB3
namespace Go.Proofs.YtmobeppmdakjmaaDoor
open Go.RowKit

set_option maxHeartbeats 1000000 in
set_option maxRecDepth 100000 in
theorem worth_any (c : UInt8) (w : World) : Calls Tryd.prog 50 #[.int .u8 c.toNat] w fun e w' => e = .returned (.int .i64 (worth c)) ∧ w = w' := by
  have hc := c.toNat_lt
  by_cases h1 : 48 ≤ c.toNat ∧ c.toNat ≤ 57
  · obtain ⟨a, b⟩ := h1
    have hw : Hid ((worth c : Int) = (c.toNat : Int) - 48) := by show _ = _; unfold worth; rw [if_pos ⟨a, b⟩]; omega
    have a' : (48 : Int) ≤ (c.toNat : Int) := by omega
    have b' : (c.toNat : Int) ≤ 57 := by omega
    clear a b
    go_enter Tryd.func50, Tryd.ntmps50
    go_wp2
    go_ret
    exact ⟨by rw [hw.out]; rfl, rfl⟩
  · by_cases h2 : 97 ≤ c.toNat ∧ c.toNat ≤ 102
    · obtain ⟨a, b⟩ := h2
      have hw : Hid ((worth c : Int) = (c.toNat : Int) - 97 + 10) := by show _ = _; unfold worth; rw [if_neg h1, if_pos ⟨a, b⟩]; omega
      have a0 : (48 : Int) ≤ (c.toNat : Int) := by omega
      have a1 : ¬ (c.toNat : Int) ≤ 57 := by omega
      have a' : (97 : Int) ≤ (c.toNat : Int) := by omega
      have b' : (c.toNat : Int) ≤ 102 := by omega
      clear a b h1
      go_enter Tryd.func50, Tryd.ntmps50
      go_wp2
      go_ret
      exact ⟨by rw [hw.out]; rfl, rfl⟩
    · by_cases h3 : 65 ≤ c.toNat ∧ c.toNat ≤ 70
      · obtain ⟨a, b⟩ := h3
        have hw : Hid ((worth c : Int) = (c.toNat : Int) - 65 + 10) := by show _ = _; unfold worth; rw [if_neg h1, if_neg h2, if_pos ⟨a, b⟩]; omega
        have a0 : (48 : Int) ≤ (c.toNat : Int) := by omega
        have a1 : ¬ (c.toNat : Int) ≤ 57 := by omega
        have a2 : ¬ (97 : Int) ≤ (c.toNat : Int) := by omega
        have a' : (65 : Int) ≤ (c.toNat : Int) := by omega
        have b' : (c.toNat : Int) ≤ 70 := by omega
        clear a b h1 h2
        go_enter Tryd.func50, Tryd.ntmps50
        go_wp2
        go_ret
        exact ⟨by rw [hw.out]; rfl, rfl⟩
      · have hw : Hid ((worth c : Int) = 99) := by show _ = _; unfold worth; rw [if_neg h1, if_neg h2, if_neg h3]; rfl
        clear hc
        have G1 : (¬ (48 : Int) ≤ (c.toNat : Int)) ∨ ((48 : Int) ≤ (c.toNat : Int) ∧ ¬ (c.toNat : Int) ≤ 57) := by omega
        have G2 : (¬ (97 : Int) ≤ (c.toNat : Int)) ∨ ((97 : Int) ≤ (c.toNat : Int) ∧ ¬ (c.toNat : Int) ≤ 102) := by omega
        have G3 : (¬ (65 : Int) ≤ (c.toNat : Int)) ∨ ((65 : Int) ≤ (c.toNat : Int) ∧ ¬ (c.toNat : Int) ≤ 70) := by omega
        clear h1 h2 h3
        rcases G1 with a1 | ⟨a1, b1⟩ <;> rcases G2 with a2 | ⟨a2, b2⟩ <;> rcases G3 with a3 | ⟨a3, b3⟩
        all_goals first
          | (exfalso; omega)
          | (go_enter Tryd.func50, Tryd.ntmps50
             go_wp2
             go_ret
             exact ⟨by rw [hw.out]; rfl, rfl⟩)
#print axioms worth_any
end Go.Proofs.YtmobeppmdakjmaaDoor
