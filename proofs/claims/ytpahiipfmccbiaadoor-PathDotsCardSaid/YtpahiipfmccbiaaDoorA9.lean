/- Walks: the first separator of a text (IndexFunc with Walk's own predicate); the iterator over parts. -/
import Derived.Test.YtpahiipfmccbiaaDoorA7
import Derived.Test.YtpahiipfmccbiaaDoorA8
import Derived.RangeFuncNested
import Derived.RangeFuncBound
import Derived.RangeFuncCalls
import Derived.RangeFuncLeaves
import Derived.Shelf.Abstract
import Derived.Shelf.RegionOpen
import Derived.OwnWalkIn
import Derived.TacticsInMore
import Derived.LoopNIn
import Derived.LoopIn
namespace Go.Proofs.YtpahiipfmccbiaaDoor
open Go.RowKit

set_option maxHeartbeats 400000 in
theorem sep_any (sp : Bool) (r : Int) (sb : Nat) (w : World) (hc : w.cell? ⟨sb, 0, none⟩ = some (.bool sp)) :
    Calls Tryd.prog 38 #[.int .i32 r, .pointer (some ⟨sb, 0, none⟩)] w fun e w' => e = .returned (.bool (isSep sp r)) ∧ w = w' := by
  by_cases h0 : r = 47
  · subst h0
    have hs : Hid (isSep sp 47 = true) := by show _ = _; simp [isSep]
    go_enter Tryd.func38, Tryd.ntmps38
    go_wp2
    go_ret
    exact ⟨ret_bool hs.out.symm, rfl⟩
  · have f0 : (r == 47) = false := by simpa using h0
    have hs : Hid (isSep sp r = (sp && (r == 92))) := by show _ = _; simp [isSep, f0]
    clear h0
    cases sp
    · go_enter Tryd.func38, Tryd.ntmps38
      go_wp2
      go_ret
      exact ⟨ret_bool hs.out.symm, rfl⟩
    · go_enter Tryd.func38, Tryd.ntmps38
      go_wp2
      go_ret
      exact ⟨ret_bool hs.out.symm, rfl⟩

/-- Where the first separator stands; -1: there is none. -/
def sepIdx (sp : Bool) (rs : List Int) : Int := match rs.findIdx? (isSep sp) with
  | some k => k
  | none => -1

set_option maxHeartbeats 1000000 in
theorem indexFunc_any (sp : Bool) (sb : Nat) (A : Option Addr) (c : Nat) (rs : List Int) (w : World) (B : Nat) (hr : Rd w B A (runV rs)) (hc : w.cell? ⟨sb, 0, none⟩ = some (.bool sp)) (hl : rs.length ≤ 4294967296) :
    Calls Tryd.prog 58 #[.slice A rs.length c, .func (.func 38) #[] #[.pointer (some ⟨sb, 0, none⟩)]] w fun e w' => e = .returned (.int .i64 (sepIdx sp rs)) ∧ w = w' := by
  go_enter Tryd.func58, Tryd.ntmps58
  go_wp2
  go_loop [8] (fun i => ∃ k : Nat, k ≤ rs.length ∧ i = .int .i64 k ∧ Hid (∀ j (h : j < rs.length), j < k → isSep sp rs[j] = false)) (fun i => rs.length - (intOf i).toNat)
  case atStart => exact ⟨0, Nat.zero_le _, rfl, fun j _ h => absurd h (Nat.not_lt_zero _)⟩
  case round =>
    obtain ⟨k, hk, rfl, hno⟩ := hrel
    by_cases hlt : k < rs.length
    · obtain ⟨b, off, rfl, _, hcell⟩ := hr k _ (runV_get (List.getElem?_eq_getElem hlt))
      have Hr := Lib.hid hr
      clear hr
      by_cases hs : isSep sp rs[k] = true
      · have hfin : Hid (sepIdx sp rs = k) := by
          show _ = _
          have : rs.findIdx? (isSep sp) = some k := List.findIdx?_eq_some_iff_getElem.2 ⟨hlt, hs, fun j hj => by rw [hno.out j (by omega) hj]; decide⟩
          rw [sepIdx, this]
        go_wp2_with (go_at_call 38; refine (sep_any sp _ sb w hc).mono ?_; rintro e w' ⟨rfl, rfl⟩)
        go_ret
        exact ⟨ret_int hfin.out.symm, rfl⟩
      · have hs2 : isSep sp rs[k] = false := by simpa using hs
        clear hs
        go_wp2_with (go_at_call 38; refine (sep_any sp _ sb w hc).mono ?_; rintro e w' ⟨rfl, rfl⟩)
        refine ⟨⟨k + 1, by omega, by go_num, fun j h hj => ?_⟩, by simp [intOf]; omega⟩
        by_cases e : j = k
        · subst e; exact hs2
        · exact hno.out j h (by omega)
    · go_wp2
      go_ret
      refine ⟨ret_int ?_, rfl⟩
      have : rs.findIdx? (isSep sp) = none := by
        rw [List.findIdx?_eq_none_iff]
        intro x hx
        obtain ⟨j, hj, rfl⟩ := List.getElem_of_mem hx
        exact hno.out j hj (by omega)
      rw [sepIdx, this]
end Go.Proofs.YtpahiipfmccbiaaDoor
