/- Walks: a special scheme and a plain drive, by the reference. -/
import Derived.Test.YtpahiipfmccbiaaDoorC3
namespace Go.Proofs.YtpahiipfmccbiaaDoor
open Go.RowKit

theorem refDrive_eq2 (A : Option Addr) (c : Nat) (rs : List Int) (n : Nat) (hn : rs.length = n) (b : Bool) (h : drive rs = b) (w : World) (B : Nat) (hr : Rd w B A (runV rs)) :
    Calls Tryd.prog 19 #[.slice A n c] w fun e w' => e = .returned (.bool b) ∧ w = w' := by
  subst h hn; exact refDrive_any A c rs w B hr
/-- A scheme's own port, as the reference has it. -/
def portZ (s : List UInt8) : Int :=
  if s == [102, 116, 112] then 21 else if s == [104, 116, 116, 112] then 80 else if s == [119, 115] then 80 else if s == [104, 116, 116, 112, 115] then 443 else if s == [119, 115, 115] then 443 else if s == fileN then -1 else -2
theorem portZ_special (s : List UInt8) : (portZ s != -2) = special s := by
  unfold portZ special
  repeat' split
  all_goals (simp_all [fileN]; try decide)

set_option maxHeartbeats 1000000 in
theorem port_any (s : List UInt8) (w : World) : Calls Tryd.prog 60 #[.string ⟨s.toArray⟩] w fun e w' => e = .returned (.int .i64 (portZ s)) ∧ w = w' := by
  go_enter Tryd.func60, Tryd.ntmps60
  go_wp2
  all_goals go_ret
  all_goals (refine ⟨ret_int ?_, rfl⟩; simp [portZ, fileN] at *; try simp_all)

set_option maxHeartbeats 1000000 in
theorem refSpecial_any (s : List UInt8) (w : World) : Calls Tryd.prog 44 #[.string ⟨s.toArray⟩] w fun e w' => e = .returned (.bool (special s)) ∧ w = w' := by
  have h := Lib.hid (portZ_special s)
  go_enter Tryd.func44, Tryd.ntmps44
  go_wp2_with (go_at_call 60; refine (port_any _ _).mono ?_; rintro e w' ⟨rfl, rfl⟩)
  all_goals go_ret
  all_goals exact ⟨ret_bool h.out, rfl⟩

set_option maxHeartbeats 1000000 in
set_option maxRecDepth 100000 in
theorem refPlain_any (s : List UInt8) (w : World) (hs : s.length ≤ 70368744177664) : Calls Tryd.prog 43 #[.string ⟨s.toArray⟩] w fun e w' => e = .returned (.bool (plainDrive s)) ∧ Below w.heap.size w w' := by
  have hsz := size_arr s
  by_cases h2 : s.length = 2
  · obtain ⟨a, b, rfl⟩ : ∃ a b, s = [a, b] := by
      match s, h2 with
      | [a, b], _ => exact ⟨a, b, rfl⟩
    obtain ⟨cap, row, hrun, hrd, hcap⟩ := conv_runes2 [a, b] w hs
    have Hrd := Lib.hid hrd
    cases hd : drive (runes [a, b]) with
    | false =>
      have hp : Hid (plainDrive [a, b] = false) := plainDrive_false hd
      have Hd := Lib.hid hd
      clear hd hrd
      go_enter Tryd.func43, Tryd.ntmps43
      go_wp2_with (go_at_call 19; refine (refDrive_eq2 _ _ _ _ rfl _ Hd.out _ _ Hrd.out).mono ?_; rintro e w' ⟨rfl, rfl⟩)
      all_goals go_ret
      all_goals exact ⟨ret_bool hp.out.symm, ((Below.refl _ w).alloc (Nat.le_refl _) _).drew⟩
    | true =>
      have hp : Hid (plainDrive [a, b] = (b == 58)) := by show _ = _; simp [plainDrive, hd]
      have Hd := Lib.hid hd
      clear hd hrd
      go_enter Tryd.func43, Tryd.ntmps43
      go_wp2_with (go_at_call 19; refine (refDrive_eq2 _ _ _ _ rfl _ Hd.out _ _ Hrd.out).mono ?_; rintro e w' ⟨rfl, rfl⟩)
      all_goals go_ret
      all_goals refine ⟨ret_bool ?_, ((Below.refl _ w).alloc (Nat.le_refl _) _).drew⟩
      all_goals (rw [hp.out])
      all_goals show ((b.toNat : Int) == 58) = (b == 58)
      all_goals by_cases hb : b = 58
      all_goals first | (subst hb; rfl) | exact (byte_ne hb).trans (beq_eq_false_iff_ne.2 hb).symm
  · have hp : Hid (plainDrive s = false) := by
      show _ = _
      cases hd : drive (runes s) with
      | false => exact plainDrive_false hd
      | true => obtain ⟨a, b', rfl, _, _⟩ := drive_bytes hd; exact absurd rfl h2
    have h2' : ((s.length : Int) == 2) = false := len_ne h2
    clear h2
    go_enter Tryd.func43, Tryd.ntmps43
    go_wp2
    go_ret
    exact ⟨ret_bool hp.out.symm, Below.refl _ _⟩
end Go.Proofs.YtpahiipfmccbiaaDoor
