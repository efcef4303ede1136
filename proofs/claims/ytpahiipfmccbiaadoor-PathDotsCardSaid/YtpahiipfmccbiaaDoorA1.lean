/- Walks: letters, drives, dots coded or not (plain, Single, Double), the beginning with a drive. -/
import Derived.Test.YtpahiipfmccbiaaDoorM1
import Derived.Test.YtpahiipfmccbiaaDoorP1
namespace Go.Proofs.YtpahiipfmccbiaaDoor
open Go.RowKit

set_option maxHeartbeats 400000 in
theorem letter_any (r : Int) (w : World) : Calls Tryd.prog 40 #[.int .i32 r] w fun e w' => e = .returned (.bool (letB r)) ∧ w = w' := by
  go_enter Tryd.func40, Tryd.ntmps40
  go_wp2
  all_goals go_ret
  all_goals (refine ⟨ret_bool ?_, rfl⟩; rw [Bool.eq_iff_iff]; simp [letB]; try omega)

theorem len_ne {n : Nat} (h : n ≠ 2) : ((n : Int) == 2) = false := by simp; omega
theorem len_neq {n : Nat} (h : n ≠ 2) : ((n : Int) != 2) = true := by simp; omega
theorem drive_len {rs : List Int} (h : rs.length ≠ 2) : drive rs = false := by
  unfold drive
  split
  · simp at h
  · rfl

set_option maxHeartbeats 400000 in
theorem drive_any (A : Option Addr) (c : Nat) (rs : List Int) (w : World) (B : Nat) (hr : Rd w B A (runV rs)) :
    Calls Tryd.prog 15 #[.slice A rs.length c] w fun e w' => e = .returned (.bool (drive rs)) ∧ w = w' := by
  by_cases h2 : rs.length = 2
  · match rs, h2, hr with
    | [a, b], _, hr =>
      obtain ⟨b', off, rfl, _, h0⟩ := hr 0 _ rfl
      have h1 := hr.cell (k := 1) rfl
      rw [Nat.add_zero] at h0
      clear hr
      go_enter Tryd.func15, Tryd.ntmps15
      go_wp2_with (go_at_call 40; refine (letter_any _ _).mono ?_; rintro e w' ⟨rfl, rfl⟩)
      all_goals go_ret
      all_goals (refine ⟨ret_bool ?_, rfl⟩; simp [drive, *])
  · have hd := Lib.hid (drive_len h2)
    have h2' := len_ne h2
    clear hr h2
    go_enter Tryd.func15, Tryd.ntmps15
    go_wp2
    go_ret
    exact ⟨ret_bool hd.out.symm, rfl⟩

set_option maxHeartbeats 400000 in
theorem refDrive_any (A : Option Addr) (c : Nat) (rs : List Int) (w : World) (B : Nat) (hr : Rd w B A (runV rs)) :
    Calls Tryd.prog 19 #[.slice A rs.length c] w fun e w' => e = .returned (.bool (drive rs)) ∧ w = w' := by
  by_cases h2 : rs.length = 2
  · match rs, h2, hr with
    | [a, b], _, hr =>
      obtain ⟨b', off, rfl, _, h0⟩ := hr 0 _ rfl
      have h1 := hr.cell (k := 1) rfl
      rw [Nat.add_zero] at h0
      clear hr
      go_enter Tryd.func19, Tryd.ntmps19
      go_wp2
      all_goals go_ret
      all_goals (refine ⟨ret_bool ?_, rfl⟩; rw [Bool.eq_iff_iff]; simp [drive, letB] at *; try omega)
  · have hd := Lib.hid (drive_len h2)
    have h2' := len_neq h2
    clear hr h2
    go_enter Tryd.func19, Tryd.ntmps19
    go_wp2
    go_ret
    exact ⟨ret_bool hd.out.symm, rfl⟩

theorem size_str (l : List UInt8) : (⟨l.toArray⟩ : ByteArray).size = l.length := by simp [ByteArray.size]

set_option maxHeartbeats 400000 in
theorem plain_any (s : ByteArray) (w : World) (hs : s.size ≤ 1073741824) (hm : Mx 0 w) :
    Calls Tryd.prog 34 #[.string s] w fun e w' => e = .returned (.string ⟨(plainS s.data.toList).toArray⟩) ∧ Below w.heap.size w w' := by
  obtain ⟨m, hmc⟩ := hm.2
  have hc1 := countB_le3 s 101
  go_enter Tryd.func34, Tryd.ntmps34
  go_wp2_with fail
  refine (Tryd.strings_ReplaceAll s ⟨#[37, 50, 101]⟩ ⟨#[46]⟩ m w (by omega) hmc (by decide) (by show _ + _ * 1 ≤ _; omega)).mono ?_
  rintro e w1 ⟨rfl, hb1⟩
  obtain ⟨m1, hm1⟩ := (hm.below hb1).2
  have hlen := rep_length 101 _ s.data.toList (Nat.le_refl _)
  rw [← replaceAll_rep] at hlen
  have hsz : (⟨(Lib.replaceAll s.data.toList [37, 50, 101] [46]).toArray⟩ : ByteArray).size ≤ s.size := by rw [size_str]; simpa using hlen
  have hc2 := countB_le3 ⟨(Lib.replaceAll s.data.toList [37, 50, 101] [46]).toArray⟩ 69
  go_wp2_with fail
  refine (Tryd.strings_ReplaceAll ⟨(Lib.replaceAll s.data.toList [37, 50, 101] [46]).toArray⟩ ⟨#[37, 50, 69]⟩ ⟨#[46]⟩ m1 w1 (by omega) hm1 (by decide) (by show _ + _ * 1 ≤ _; omega)).mono ?_
  rintro e w2 ⟨rfl, hb2⟩
  go_wp2
  go_ret
  exact ⟨by simp [plainS], hb1.trans (hb2.mono hb1.size)⟩


set_option maxHeartbeats 400000 in
theorem single_any (s : ByteArray) (w : World) (hs : s.size ≤ 1073741824) (hm : Mx 0 w) :
    Calls Tryd.prog 10 #[.string s] w fun e w' => e = .returned (.bool (single s.data.toList)) ∧ Below w.heap.size w w' := by
  go_enter Tryd.func10, Tryd.ntmps10
  go_wp2_with (go_at_call 34; refine (plain_any s w hs hm).mono ?_)
  rintro e w1 ⟨rfl, hb1⟩
  go_wp2
  go_ret
  exact ⟨ret_bool rfl, hb1⟩
set_option maxHeartbeats 400000 in
theorem double_any (s : ByteArray) (w : World) (hs : s.size ≤ 1073741824) (hm : Mx 0 w) :
    Calls Tryd.prog 11 #[.string s] w fun e w' => e = .returned (.bool (double s.data.toList)) ∧ Below w.heap.size w w' := by
  go_enter Tryd.func11, Tryd.ntmps11
  go_wp2_with (go_at_call 34; refine (plain_any s w hs hm).mono ?_)
  rintro e w1 ⟨rfl, hb1⟩
  go_wp2
  go_ret
  exact ⟨ret_bool rfl, hb1⟩
end Go.Proofs.YtpahiipfmccbiaaDoor
