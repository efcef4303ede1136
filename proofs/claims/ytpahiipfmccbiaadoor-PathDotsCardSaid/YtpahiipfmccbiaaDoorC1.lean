/- Walks: the chapter's examples (awake), by the walk through a text (walks). -/
import Derived.Test.YtpahiipfmccbiaaDoorB2
import Derived.Test.YtpahiipfmccbiaaDoorA2
import Derived.Test.YtpahiipfmccbiaaDoorP4
namespace Go.Proofs.YtpahiipfmccbiaaDoor
open Go.RowKit

theorem below_drewN {B : Nat} {w w' : World} (h : Below B w w') (n : Nat) : Below B w (w'.drewN n) := h.trans ⟨rfl, rfl, rfl, Nat.le_refl _, fun _ _ => rfl⟩

/-- '[]rune(s)', with its room. -/
theorem conv_runes2 (s : List UInt8) (w : World) (h : s.length ≤ 70368744177664) : ∃ (cap : Nat) (row : Array Value),
    (convert 9 22 (.string ⟨s.toArray⟩)).run Tryd.prog w = .ok (.slice (some ⟨w.heap.size, 0, none⟩) (runes s).length cap) (w.alloc (.cells row 21)).drew ∧
    Rd (w.alloc (.cells row 21)).drew (w.heap.size + 1) (some ⟨w.heap.size, 0, none⟩) (runV (runes s)) ∧ (runes s).length ≤ cap := by
  have e : Conv.runesFrom ⟨s.toArray⟩ (⟨s.toArray⟩ : ByteArray).size 0 #[] = (runV (runes s)).toArray := by rw [runesFrom_eq, List.drop_zero, runes, size_str]; simp
  have e2 : (runV (runes s)).toArray.size = (runes s).length := by simp [runV]
  have hl := runes_le s
  have hrun := run_runes_of_string (P := Tryd.prog) w 9 22 21 ⟨s.toArray⟩ Tryd.underlying9 Tryd.underlying22 Tryd.underlying21 (by rw [e, e2]; omega)
  rw [e, e2] at hrun
  refine ⟨_, _, hrun, fun k u hu => ⟨w.heap.size, 0, rfl, Nat.lt_succ_self _, ?_⟩, grownCap_ge _ _ _ _⟩
  show (w.alloc _).cell? _ = _
  rw [World.cell?_alloc_at _ _ _ _ rfl, Nat.zero_add, Array.getElem?_append_left (by simpa using (List.getElem?_eq_some_iff.1 hu).1)]
  simpa using hu

set_option maxHeartbeats 1000000 in
set_option maxRecDepth 100000 in
theorem walks_any (sc tx : List UInt8) (ws : List (List UInt8)) (A : Option Addr) (c : Nat) (w : World) (B : Nat) (hA : Rd w B A (strV ws)) (hB : B ≤ w.heap.size)
    (hsc : sc.length ≤ 1048576) (htx : tx.length ≤ 524288) (hws : ws.length ≤ 4294967296) (hm : Mx 0 w) :
    Calls Tryd.prog 28 #[.string ⟨sc.toArray⟩, .string ⟨tx.toArray⟩, .slice A ws.length c] w fun e w' => e = .returned (.bool (walk sc [] (runes tx) == ws)) ∧ Below w.heap.size w w' := by
  obtain ⟨cap, row, hrun, hrd, hcap⟩ := conv_runes2 tx w (by omega)
  have hrl := runes_le tx
  have hb0 : Below w.heap.size w (w.alloc (.cells row 21)).drew := ((Below.refl _ w).alloc (Nat.le_refl _) _).drew
  have hsz : (w.alloc (.cells row 21)).drew.heap.size = w.heap.size + 1 := by simp
  have hwalk := walk_any sc none 0 [] (some ⟨w.heap.size, 0, none⟩) cap (runes tx) (w.alloc (.cells row 21)).drew (w.heap.size + 1) (Rd.nil _ _ _) hrd (by rw [hsz]; exact Nat.le_refl _) (by simp) (by omega) hcap hsc (fun s h => by simp at h) (hm.below hb0)
  have Hw := Lib.hid hwalk
  have Hb0 := Lib.hid hb0
  have Hsz := Lib.hid hsz
  clear hwalk hrd hb0 hsz hcap hrl
  have HA := Lib.hid hA
  clear hA
  go_enter Tryd.func28, Tryd.ntmps28
  go_wp2_with (go_at_call 12; refine Hw.out.mono ?_)
  rintro e w' ⟨v', rfl, ho, hb⟩
  obtain ⟨A', c', rfl⟩ := own_slice ho
  have hbb : Below w.heap.size w w' := Hb0.out.trans (hb.mono (by have := Hsz.out; omega))
  have hwl : (walk sc [] (runes tx)).length ≤ 4294967296 := by
    have := walk_len sc [] (runes tx); have := runes_le tx; simp only [List.length_nil] at *; omega
  have ht := texts_any A' A c' c (walk sc [] (runes tx)) ws w' _ B (Rd.of_own ho) (HA.out.below (hbb.mono hB)) hwl hws
  have Ht := Lib.hid ht
  have Hbb := Lib.hid hbb
  clear ht hbb hb ho hwl
  go_wp2_with (go_at_call 13; refine Ht.out.mono ?_)
  rintro e w'' ⟨rfl, n, rfl⟩
  go_wp2
  go_ret
  exact ⟨rfl, below_drewN Hbb.out n⟩
end Go.Proofs.YtpahiipfmccbiaaDoor
