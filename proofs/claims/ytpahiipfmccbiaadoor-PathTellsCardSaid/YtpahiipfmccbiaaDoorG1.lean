/- Walks: a text that begins with a drive, by the program and by the reference; a special scheme and a plain drive, by the reference. -/
import Derived.Test.YtpahiipfmccbiaaDoorG0
import Derived.Test.YtpahiipfmccbiaaDoorG2
namespace Go.Proofs.YtpahiipfmccbiaaDoor
open Go.RowKit

theorem drive_eq (A : Option Addr) (c : Nat) (rs : List Int) (n : Nat) (hn : rs.length = n) (b : Bool) (h : drive rs = b) (w : World) (B : Nat) (hr : Rd w B A (runV rs)) :
    Calls Tryd.prog 15 #[.slice A n c] w fun e w' => e = .returned (.bool b) ∧ w = w' := by
  subst h hn; exact drive_any A c rs w B hr
theorem rd_take_runs {w : World} {B : Nat} {A : Option Addr} {rs : List Int} (h : Rd w B A (runV rs)) (n : Nat) : Rd w B A (runV (rs.take n)) := by
  have := h.take n
  rwa [runV, ← List.map_take] at this

theorem begins_short {rs : List Int} (h : rs.length < 2) : begins rs = false := by
  match rs, h with
  | [], _ => rfl
  | [a], _ => rfl
theorem begins_two {rs : List Int} (h : rs.length = 2) : begins rs = drive rs := by
  match rs, h with
  | [a, b], _ => simp [begins]
theorem begins_more {rs : List Int} (h : 2 < rs.length) : begins rs = (drive (rs.take 2) && four.contains rs[2]) := by
  match rs, h with
  | a :: b :: c :: t, _ => rfl
theorem begins_no {rs : List Int} (h : drive (rs.take 2) = false) : begins rs = false := by simp [begins, h]

set_option maxHeartbeats 1000000 in
set_option maxRecDepth 100000 in
theorem begins_any (A : Option Addr) (c : Nat) (rs : List Int) (w : World) (B : Nat) (hr : Rd w B A (runV rs)) (hl : rs.length ≤ 4294967296) (hc : rs.length ≤ c) :
    Calls Tryd.prog 20 #[.slice A rs.length c] w fun e w' => e = .returned (.bool (begins rs)) ∧ Below w.heap.size w w' := by
  by_cases h2 : rs.length < 2
  · have hb := Lib.hid (begins_short h2)
    go_enter Tryd.func20, Tryd.ntmps20
    go_wp2
    go_ret
    exact ⟨ret_bool hb.out.symm, Below.refl _ _⟩
  have hrt := Lib.hid (rd_take_runs hr 2)
  have htl : (rs.take 2).length = 2 := by rw [List.length_take]; omega
  have Htl := Lib.hid htl
  have h2' : 2 ≤ rs.length := by omega
  cases hd : drive (rs.take 2) with
  | false =>
    have hb := Lib.hid (begins_no hd)
    have Hd := Lib.hid hd
    clear hd htl hr
    go_enter Tryd.func20, Tryd.ntmps20
    go_wp2_with (go_at_call 15; refine (drive_eq _ _ _ _ Htl.out _ Hd.out _ _ hrt.out).mono ?_; rintro e w' ⟨rfl, rfl⟩)
    all_goals go_ret
    all_goals exact ⟨ret_bool hb.out.symm, Below.refl _ _⟩
  | true =>
    by_cases he : rs.length = 2
    · have ht : rs.take 2 = rs := List.take_of_length_le (by omega)
      have hb : Hid (begins rs = true) := by show _ = _; rw [begins_two he, ← ht]; exact hd
      have he' : ((rs.length : Int) == 2) = true := by rw [he]; rfl
      have Hd := Lib.hid hd
      clear hd htl hr ht he
      go_enter Tryd.func20, Tryd.ntmps20
      go_wp2_with (go_at_call 15; refine (drive_eq _ _ _ _ Htl.out _ Hd.out _ _ hrt.out).mono ?_; rintro e w' ⟨rfl, rfl⟩)
      all_goals go_ret
      all_goals exact ⟨ret_bool hb.out.symm, Below.refl _ _⟩
    · have h3 : 2 < rs.length := by omega
      have he' : ((rs.length : Int) == 2) = false := len_ne he
      have hb : Hid (begins rs = four.contains rs[2]) := by show _ = _; rw [begins_more h3, hd, Bool.true_and]
      obtain ⟨b, off, rfl, _, hc2⟩ := hr 2 _ (runV_get (List.getElem?_eq_getElem h3))
      have Hd := Lib.hid hd
      clear hd htl hr he
      go_enter Tryd.func20, Tryd.ntmps20
      go_wp2_with (first | (go_at_call 15; refine (drive_eq _ _ _ _ Htl.out _ Hd.out _ _ hrt.out).mono ?_; rintro e w' ⟨rfl, rfl⟩) | (go_at_call 42; refine (containsRune_any _ _).mono ?_; rintro e w' ⟨rfl, hbw⟩))
      all_goals go_ret
      all_goals exact ⟨ret_bool (by rw [hb.out]; simp), hbw⟩

set_option maxHeartbeats 1000000 in
set_option maxRecDepth 100000 in
theorem refBegins_any (A : Option Addr) (c : Nat) (rs : List Int) (w : World) (B : Nat) (hr : Rd w B A (runV rs)) (hl : rs.length ≤ 4294967296) (hc : rs.length ≤ c) :
    Calls Tryd.prog 21 #[.slice A rs.length c] w fun e w' => e = .returned (.bool (begins rs)) ∧ w = w' := by
  by_cases h2 : rs.length < 2
  · have hb := Lib.hid (begins_short h2)
    go_enter Tryd.func21, Tryd.ntmps21
    go_wp2
    go_ret
    exact ⟨ret_bool hb.out.symm, rfl⟩
  have hrt := Lib.hid (rd_take_runs hr 2)
  have htl : (rs.take 2).length = 2 := by rw [List.length_take]; omega
  have Htl := Lib.hid htl
  have h2' : 2 ≤ rs.length := by omega
  cases hd : drive (rs.take 2) with
  | false =>
    have hb := Lib.hid (begins_no hd)
    have Hd := Lib.hid hd
    clear hd htl hr
    go_enter Tryd.func21, Tryd.ntmps21
    go_wp2_with (go_at_call 19; refine (refDrive_eq2 _ _ _ _ Htl.out _ Hd.out _ _ hrt.out).mono ?_; rintro e w' ⟨rfl, rfl⟩)
    all_goals go_ret
    all_goals exact ⟨ret_bool hb.out.symm, rfl⟩
  | true =>
    by_cases he : rs.length = 2
    · have ht : rs.take 2 = rs := List.take_of_length_le (by omega)
      have hb : Hid (begins rs = true) := by show _ = _; rw [begins_two he, ← ht]; exact hd
      have he' : ((rs.length : Int) == 2) = true := by rw [he]; rfl
      have Hd := Lib.hid hd
      clear hd htl hr ht he
      go_enter Tryd.func21, Tryd.ntmps21
      go_wp2_with (go_at_call 19; refine (refDrive_eq2 _ _ _ _ Htl.out _ Hd.out _ _ hrt.out).mono ?_; rintro e w' ⟨rfl, rfl⟩)
      all_goals go_ret
      all_goals exact ⟨ret_bool hb.out.symm, rfl⟩
    · have h3 : 2 < rs.length := by omega
      have he' : ((rs.length : Int) == 2) = false := len_ne he
      have hb : Hid (begins rs = four.contains rs[2]) := by show _ = _; rw [begins_more h3, hd, Bool.true_and]
      obtain ⟨b, off, rfl, _, hc2⟩ := hr 2 _ (runV_get (List.getElem?_eq_getElem h3))
      have Hd := Lib.hid hd
      clear hd htl hr he
      go_enter Tryd.func21, Tryd.ntmps21
      go_wp2_with (go_at_call 19; refine (refDrive_eq2 _ _ _ _ Htl.out _ Hd.out _ _ hrt.out).mono ?_; rintro e w' ⟨rfl, rfl⟩)
      all_goals go_ret
      all_goals (refine ⟨ret_bool ?_, rfl⟩; rw [hb.out, Bool.eq_iff_iff]; simp [four] at *; try omega)
end Go.Proofs.YtpahiipfmccbiaaDoor
