/- Walks: a path's text as code points (joined); what is not in a text (strings.Contains). -/
import Derived.Test.YtpahiipfmccbiaaDoorC3
import Derived.Test.YtpahiipfmccbiaaDoorS1
import Derived.Test.YtpahiipfmccbiaaDoorP7
import Derived.Lib.IndexAny
namespace Go.Proofs.YtpahiipfmccbiaaDoor
open Go.RowKit

theorem contains_no (l : List UInt8) (c : UInt8) (h : l.contains c = false) (w : World) :
    Calls Tryd.prog 24 #[.string ⟨l.toArray⟩, .string ⟨#[c]⟩] w fun e w' => e = .returned (.bool false) ∧ w = w' := by
  refine (Tryd.strings_Contains_one ⟨l.toArray⟩ c w).mono ?_
  rintro e w' ⟨rfl, rfl⟩
  refine ⟨ret_bool ?_, rfl⟩
  have h1 := Lib.contains_iff_indexByte l c
  rw [h] at h1
  exact h1.symm

theorem join_any (g : Nat) (c : Nat) (xs : List (List UInt8)) (w : World) (hr : Rd w w.heap.size (some ⟨g, 0, none⟩) (strV xs)) (hne : xs ≠ []) (hl : xs.length ≤ 4294967296) (hc : xs.length ≤ c) (hj : (Lib.join xs [47]).length ≤ 1048576) :
    Calls Tryd.prog 47 #[.slice (some ⟨g, 0, none⟩) xs.length c, .string ⟨#[47]⟩] w fun e w' => e = .returned (.string ⟨(Lib.join xs [47]).toArray⟩) ∧ Below w.heap.size w w' := by
  have hm : (xs.map fun l => (⟨l.toArray⟩ : ByteArray)).map (·.data.toList) = xs := by rw [List.map_map]; simp [Function.comp_def]
  have hb : g < w.heap.size := by
    obtain ⟨s, t, rfl⟩ := List.exists_cons_of_ne_nil hne
    obtain ⟨b, off, e, hb, _⟩ := hr 0 _ rfl
    injection e with e
    injection e with e1
    omega
  have h := Tryd.strings_Join g 0 c (xs.map fun l => ⟨l.toArray⟩) ⟨#[47]⟩ w (fun j x hx => ?_) hb (by rw [List.length_map]; omega) (by rw [List.length_map]; exact hc) (by rw [hm]; show (Lib.join xs [47]).length ≤ _; omega)
  · rw [hm, List.length_map] at h
    exact h
  · rw [Nat.zero_add]
    have := hr.cell (k := j) (u := .string x) (by
      rw [List.getElem?_map] at hx
      obtain ⟨l, hl, rfl⟩ := Option.map_eq_some_iff.1 hx
      exact strV_get hl)
    rwa [Nat.zero_add] at this

set_option maxHeartbeats 1000000 in
set_option maxRecDepth 100000 in
theorem joined_any (g : Nat) (c : Nat) (xs : List (List UInt8)) (w : World) (hr : Rd w w.heap.size (some ⟨g, 0, none⟩) (strV xs)) (hne : xs ≠ []) (hl : xs.length ≤ 4294967296) (hc : xs.length ≤ c) (hj : (Lib.join xs [47]).length ≤ 1048576) :
    Calls Tryd.prog 25 #[.slice (some ⟨g, 0, none⟩) xs.length c] w fun e w' => ∃ A' c', e = .returned (.slice A' (runes (Lib.join xs [47])).length c') ∧ Rd w' w'.heap.size A' (runV (runes (Lib.join xs [47]))) ∧ (runes (Lib.join xs [47])).length ≤ c' ∧ Below w.heap.size w w' := by
  have Hj := Lib.hid (join_any g c xs w hr hne hl hc hj)
  clear hr
  go_enter Tryd.func25, Tryd.ntmps25
  go_wp2_with (go_at_call 47; refine Hj.out.mono ?_)
  rintro e w1 ⟨rfl, hb1⟩
  obtain ⟨cap, row, hrun, hrd, hcap⟩ := conv_runes2 (Lib.join xs [47]) w1 (by omega)
  have Hrd := Lib.hid hrd
  clear hrd
  go_wp2
  go_ret
  exact ⟨_, _, rfl, Hrd.out.more (by simp), hcap, (hb1.alloc hb1.size _).drew⟩
end Go.Proofs.YtpahiipfmccbiaaDoor
