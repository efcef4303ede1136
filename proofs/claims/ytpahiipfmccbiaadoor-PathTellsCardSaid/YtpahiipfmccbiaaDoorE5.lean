/- Walks: the law PathTells, every input. -/
import Derived.Test.YtpahiipfmccbiaaDoorH1
namespace Go.Proofs.YtpahiipfmccbiaaDoor
open Go.RowKit

set_option maxHeartbeats 1000000 in
set_option maxRecDepth 100000 in
theorem tells_long (s : List UInt8) (l : List Int) (name : List UInt8) (p : List (List UInt8)) (A A' : Option Addr) (c c' : Nat) (w : World) (hm : Mx 0 w) (hA' : Rd w w.heap.size A' (strV p))
    (hs : s.length ≤ 9223372036854775807) (hl : l.length ≤ 9223372036854775807) (hn : name.length ≤ 9223372036854775807) (hpl : p.length ≤ 9223372036854775807)
    (h : 100 < s.length ∨ 300 < l.length ∨ 20 < name.length ∨ fewB p = false) :
    Calls Tryd.prog 5 #[.string ⟨s.toArray⟩, .slice A l.length c, .string ⟨name.toArray⟩, .slice A' p.length c'] w fun e w' => e = .returned (.bool true) ∧ Below w.heap.size w w' := by
  have hsz1 := size_arr s
  have hsz2 := size_arr name
  by_cases h1 : 100 < s.length
  · have f1 : (100 : Int) < (s.length : Int) := by omega
    clear h h1
    go_enter Tryd.func5, Tryd.ntmps5
    go_wp2_with (go_at_call 8; refine (awake_any w hm).mono ?_; rintro e w' ⟨rfl, hb⟩)
    go_ret
    exact ⟨rfl, hb⟩
  by_cases h2 : 300 < l.length
  · have f1 : ¬ (100 : Int) < (s.length : Int) := by omega
    have f2 : (300 : Int) < (l.length : Int) := by omega
    clear h h1 h2
    go_enter Tryd.func5, Tryd.ntmps5
    go_wp2_with (go_at_call 8; refine (awake_any w hm).mono ?_; rintro e w' ⟨rfl, hb⟩)
    go_ret
    exact ⟨rfl, hb⟩
  by_cases h3 : 20 < name.length
  · have f1 : ¬ (100 : Int) < (s.length : Int) := by omega
    have f2 : ¬ (300 : Int) < (l.length : Int) := by omega
    have f3 : (20 : Int) < (name.length : Int) := by omega
    clear h h1 h2 h3
    go_enter Tryd.func5, Tryd.ntmps5
    go_wp2_with (go_at_call 8; refine (awake_any w hm).mono ?_; rintro e w' ⟨rfl, hb⟩)
    go_ret
    exact ⟨rfl, hb⟩
  · have f1 : ¬ (100 : Int) < (s.length : Int) := by omega
    have f2 : ¬ (300 : Int) < (l.length : Int) := by omega
    have f3 : ¬ (20 : Int) < (name.length : Int) := by omega
    have Hf : Hid (fewB p = false) := by
      show _ = _
      rcases h with h | h | h | h
      · exact absurd h h1
      · exact absurd h h2
      · exact absurd h h3
      · exact h
    clear h h1 h2 h3
    go_enter Tryd.func5, Tryd.ntmps5
    go_wp2_with (first | (go_at_call 14; refine (few_is A' c' p false Hf.out w _ hA' hpl).mono ?_; rintro e w1 ⟨rfl, rfl⟩) | (go_at_call 8; refine (awake_any w hm).mono ?_; rintro e w' ⟨rfl, hb⟩))
    go_ret
    exact ⟨rfl, hb⟩

theorem tells_law (s : List UInt8) (l : List Int) (name : List UInt8) (p : List (List UInt8)) (A A' : Option Addr) (c c' : Nat) (w : World) (hm : Mx 0 w) (hA : Rd w w.heap.size A (runV l)) (hA' : Rd w w.heap.size A' (strV p))
    (hc : l.length ≤ c) (hc' : p.length ≤ c') (hs : s.length ≤ 9223372036854775807) (hl : l.length ≤ 9223372036854775807) (hn : name.length ≤ 9223372036854775807) (hpl : p.length ≤ 9223372036854775807) :
    Calls Tryd.prog 5 #[.string ⟨s.toArray⟩, .slice A l.length c, .string ⟨name.toArray⟩, .slice A' p.length c'] w fun e w' => e = .returned (.bool true) ∧ Below w.heap.size w w' := by
  by_cases h : s.length ≤ 100 ∧ l.length ≤ 300 ∧ name.length ≤ 20 ∧ fewB p = true
  · exact tells_main s l name p A A' c c' w hm hA hA' hc hc' h.1 h.2.1 h.2.2.1 h.2.2.2
  · refine tells_long s l name p A A' c c' w hm hA' hs hl hn hpl ?_
    cases hf : fewB p with
    | false => exact .inr (.inr (.inr rfl))
    | true => rw [hf] at h; simp only [and_true] at h; omega
#print axioms tells_law
end Go.Proofs.YtpahiipfmccbiaaDoor
