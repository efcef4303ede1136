/- Walk: the reference's Parse. (Printed by refparse.py.) -/
import Derived.Test.YtmobeppmdakjmaaDoorE5
import Derived.Test.YtmobeppmdakjmaaDoorD4
namespace Go.Proofs.YtmobeppmdakjmaaDoor
open Go.RowKit

theorem number4_le {s : List UInt8} {n : Nat} (h : number4 s = some n) : n ≤ 4294967296 := by
  unfold number4 at h
  split at h
  · cases h
  · split at h
    · injection h with h; omega
    · cases h
/-- Where the reference's Parse stands ahead of part k. -/
def Mid (s : List UInt8) (P : List (List UInt8)) (k out : Nat) : Prop := (k < P.length → parse4 s = addr4 4 k out (P.drop k) ∧ out < 256 ^ k) ∧ (k = P.length → parse4 s = some out ∧ out < 4294967296)
theorem mid_zero {s : List UInt8} (h : (parts4 s).length ≤ 4) : Mid s (parts4 s) 0 0 := by
  refine ⟨fun _ => ⟨?_, by decide⟩, fun h' => absurd h'.symm (by have := List.length_pos_iff.2 (parts4_ne s); omega)⟩
  unfold parse4
  rw [if_neg (by omega)]; rfl
theorem mid_none {s : List UInt8} {P : List (List UInt8)} {k out : Nat} (h : Mid s P k out) (hk : k < P.length) (hn : number4 P[k] = none) : parse4 s = none := by
  rw [(h.1 hk).1, List.drop_eq_getElem_cons hk]
  cases P.drop (k + 1) with
  | nil => simp only [addr4, hn]
  | cons a t => simp only [addr4, hn]
theorem drop_more {P : List (List UInt8)} {k : Nat} (hk : k + 1 < P.length) : ∃ a t, P.drop (k + 1) = a :: t := ⟨_, _, List.drop_eq_getElem_cons hk⟩
theorem mid_step {s : List UInt8} {P : List (List UInt8)} {k out n : Nat} (h : Mid s P k out) (hk : k + 1 < P.length) (hP : P.length ≤ 4) (hn : number4 P[k] = some n) (hs : n < 256) : Mid s P (k + 1) (out * 256 + n) ∧ out < 16777216 := by
  obtain ⟨h1, h2⟩ := h.1 (by omega)
  have h3 : 256 ^ k ≤ 256 ^ 2 := Nat.pow_le_pow_right (by decide) (by omega)
  refine ⟨⟨fun _ => ⟨?_, ?_⟩, fun e => by omega⟩, by omega⟩
  · rw [h1, List.drop_eq_getElem_cons (show k < P.length by omega)]
    obtain ⟨a, t, e⟩ := drop_more hk
    rw [e, addr4, hn]
    · simp only [if_pos hs]
    · simp
  · rw [Nat.pow_succ]; omega
theorem mid_big {s : List UInt8} {P : List (List UInt8)} {k out n : Nat} (h : Mid s P k out) (hk : k + 1 < P.length) (hn : number4 P[k] = some n) (hs : ¬ n < 256) : parse4 s = none := by
  rw [(h.1 (by omega)).1, List.drop_eq_getElem_cons (show k < P.length by omega)]
  obtain ⟨a, t, e⟩ := drop_more hk
  rw [e, addr4, hn]
  · simp only [if_neg hs]
  · simp
theorem mid_last {s : List UInt8} {P : List (List UInt8)} {k out n m : Nat} (h : Mid s P k out) (hk : k + 1 = P.length) (hn : number4 P[k] = some n) (hm : m = 256 ^ (4 - k)) (hk4 : k ≤ 3) (hs : n < m) : Mid s P (k + 1) (out * m + n) ∧ out * m + n < 4294967296 := by
  obtain ⟨h1, h2⟩ := h.1 (by omega)
  have hb : out * m + n < 4294967296 := by
    have q : k = 0 ∨ k = 1 ∨ k = 2 ∨ k = 3 := by omega
    rcases q with rfl | rfl | rfl | rfl <;> simp only [Nat.reducePow, Nat.reduceSub] at hm h2 <;> subst hm <;> omega
  refine ⟨⟨fun e => by omega, fun _ => ⟨?_, hb⟩⟩, hb⟩
  rw [h1, List.drop_eq_getElem_cons (show k < P.length by omega), List.drop_of_length_le (show P.length ≤ k + 1 by omega)]
  simp only [addr4, hn]
  rw [← hm, if_pos hs]
theorem mid_over {s : List UInt8} {P : List (List UInt8)} {k out n m : Nat} (h : Mid s P k out) (hk : k + 1 = P.length) (hn : number4 P[k] = some n) (hm : m = 256 ^ (4 - k)) (hs : ¬ n < m) : parse4 s = none := by
  rw [(h.1 (by omega)).1, List.drop_eq_getElem_cons (show k < P.length by omega), List.drop_of_length_le (show P.length ≤ k + 1 by omega)]
  simp only [addr4, hn]
  rw [← hm, if_neg hs]

set_option maxHeartbeats 4000000 in
set_option maxRecDepth 100000 in
theorem refParse_any (s : List UInt8) (hl : s.length ≤ 1000000) (w : World) :
    Calls Tryd.prog 16 #[.string ⟨s.toArray⟩] w fun e w' => e = .returned (parseV (parse4 s)) ∧ Below w.heap.size w w' := by
  have Hp := Lib.hid (refParts_any s hl w)
  by_cases h4 : 4 < (parts4 s).length
  · have e : Hid (parse4 s = none) := by show _ = _; unfold parse4; exact if_pos h4
    have f1 : (4 : Int) < ((parts4 s).length : Int) := by omega
    clear h4
    go_enter Tryd.func16, Tryd.ntmps16
    go_wp2_with (go_at_call 53; refine Hp.out.mono ?_)
    rintro e' w1 ⟨A, c, rfl, hrd, hc, hb1⟩
    go_wp2
    go_ret2
    rw [e.out]
    exact ⟨rfl, hb1⟩
  have hm0 := Lib.hid (mid_zero (s := s) (by omega))
  have hmem : ∀ p ∈ parts4 s, p.length ≤ 1000000 := fun p hp => by have := parts4_mem hp; omega
  have hpos := List.length_pos_iff.2 (parts4_ne s)
  generalize parts4 s = P at *
  have f1 : ¬ (4 : Int) < (P.length : Int) := by omega
  have hP4 : P.length ≤ 4 := by omega
  clear h4
  go_enter Tryd.func16, Tryd.ntmps16
  go_wp2_with (go_at_call 53; refine Hp.out.mono ?_)
  rintro e w1 ⟨A, c, rfl, hrd, hc, hb1⟩
  have Hrd := Lib.hid hrd
  obtain ⟨b, off, rfl, _, _⟩ := hrd 0 _ (strV_get (List.getElem?_eq_getElem hpos))
  clear hrd
  go_wp2
  go_loopw [5, 6] (fun o i wr => ∃ k out : Nat, k ≤ P.length ∧ o = .int .u64 (out : Int) ∧ i = .int .i64 (k : Int) ∧ wr = w1 ∧ Hid (Mid s P k out)) (fun _ i _ => P.length - (intOf i).toNat)
  case atStart => exact ⟨0, 0, Nat.zero_le _, rfl, rfl, rfl, hm0.out⟩
  case round =>
    obtain ⟨k, out, hk, rfl, rfl, rfl, hmid⟩ := hrel
    by_cases hlt : k < P.length
    · have i1 : (k : Int) < (P.length : Int) := by omega
      have hcell : wr.cell? ⟨b, off + k, none⟩ = some (.string ⟨P[k].toArray⟩) := Hrd.out.cell (strV_get (List.getElem?_eq_getElem hlt))
      obtain ⟨p, hp⟩ : ∃ p, P[k] = p := ⟨_, rfl⟩
      obtain ⟨o, hno⟩ : ∃ o, number4 p = o := ⟨_, rfl⟩
      have hp6 : p.length ≤ 1000000 := by rw [← hp]; exact hmem _ (List.getElem_mem hlt)
      have Hn := Lib.hid (fun W => refnum_is p o hno hp6 W)
      have HN : Hid (number4 P[k] = o) := by show _ = _; rw [hp, hno]
      rw [hp] at hcell
      have hno' := Lib.hid hno
      clear hp hno hmem
      cases o with
      | none =>
        have e : Hid (parse4 s = none) := mid_none hmid.out hlt HN.out
        go_wp2_with fail
        refine (Hn.out _).mono ?_
        rintro e' w2 ⟨rfl, rfl⟩
        simp only [numV]
        go_wp2
        go_ret2
        rw [e.out]
        exact ⟨rfl, hb1⟩
      | some n =>
        have hn4 := number4_le hno'.out
        by_cases hke : k + 1 = P.length
        · have g1 : ((k : Int) == (P.length : Int) - 1) = true := by rw [beq_iff_eq]; omega
          go_wp2_with fail
          refine (Hn.out _).mono ?_
          rintro e' w2 ⟨rfl, rfl⟩
          simp only [numV]
          go_wp2
          go_loopw [9, 10] (fun m j w3 => ∃ j' m' : Nat, k + 1 ≤ j' ∧ j' ≤ 4 ∧ m = .int .u64 (m' : Int) ∧ j = .int .i64 (j' : Int) ∧ w3 = wr ∧ m' ≤ 4294967296 ∧ Hid (m' = 256 ^ (j' - k))) (fun _ j _ => 4 - (intOf j).toNat)
          case atStart => exact ⟨k + 1, 256, Nat.le_refl _, by omega, rfl, (by first | rfl | (congr 1; omega)), by trivial, by omega, (show 256 = 256 ^ (k + 1 - k) from by rw [Nat.add_sub_cancel_left])⟩
          case round =>
            obtain ⟨j, m, hj1, hj4, rfl, rfl, rfl, hmb, hm⟩ := hrel
            by_cases hj : j < 4
            · have i2 : (j : Int) < 4 := by omega
              have hm2 : Hid (m * 256 = 256 ^ (j + 1 - k)) := by
                show _ = _
                have : j + 1 - k = (j - k) + 1 := by omega
                rw [this, Nat.pow_succ, ← hm.out]
              have hmb2 : m * 256 ≤ 4294967296 := by
                rw [hm2.out]
                exact Nat.le_trans (Nat.pow_le_pow_right (by decide) (show j + 1 - k ≤ 4 by omega)) (by decide)
              go_wp2
              exact ⟨⟨j + 1, m * 256, by omega, by omega, (by first | rfl | (congr 1; omega)), (by first | rfl | (congr 1; omega)), by trivial, hmb2, hm2.out⟩, by simp [intOf]; omega⟩
            · have i2 : ¬ (j : Int) < 4 := by omega
              have hm3 : m = 256 ^ (4 - k) := by rw [hm.out]; have : j = 4 := by omega
                                                 rw [this]
              by_cases hs : n < m
              · have i3 : ¬ (m : Int) ≤ (n : Int) := by omega
                have hmd := Lib.hid (mid_last hmid.out hke HN.out hm3 (by omega) hs)
                have hbd := hmd.out.2
                have hbd0 : out * m < 4294967296 := by omega
                have hbi : (out : Int) * (m : Int) < 4294967296 := by rw [← Int.natCast_mul]; omega
                have hbi0 : 0 ≤ (out : Int) * (m : Int) := by rw [← Int.natCast_mul]; omega
                clear hbd hbd0 hm3 hs
                go_wp2
                refine ⟨⟨k + 1, out * m + n, by omega, (by first | rfl | (congr 1; push_cast; omega)), (by first | rfl | (congr 1; omega)), by trivial, hmd.out.1⟩, by simp [intOf]; omega⟩
              · have i3 : (m : Int) ≤ (n : Int) := by omega
                have e : Hid (parse4 s = none) := mid_over hmid.out hke HN.out hm3 hs
                clear hm3 hs
                go_wp2
                go_ret2
                rw [e.out]
                exact ⟨rfl, hb1⟩
        · have g1 : ((k : Int) == (P.length : Int) - 1) = false := by rw [beq_eq_false_iff_ne]; omega
          by_cases hs : n < 256
          · have i3 : ¬ (256 : Int) ≤ (n : Int) := by omega
            have hmd := Lib.hid (mid_step hmid.out (by omega) hP4 HN.out hs)
            have hbd := hmd.out.2
            clear hs
            go_wp2_with fail
            refine (Hn.out _).mono ?_
            rintro e' w2 ⟨rfl, rfl⟩
            simp only [numV]
            go_wp2
            exact ⟨⟨k + 1, out * 256 + n, by omega, (by first | rfl | (congr 1; omega)), (by first | rfl | (congr 1; omega)), by trivial, hmd.out.1⟩, by simp [intOf]; omega⟩
          · have i3 : (256 : Int) ≤ (n : Int) := by omega
            have e : Hid (parse4 s = none) := mid_big hmid.out (by omega) HN.out hs
            clear hs
            go_wp2_with fail
            refine (Hn.out _).mono ?_
            rintro e' w2 ⟨rfl, rfl⟩
            simp only [numV]
            go_wp2
            go_ret2
            rw [e.out]
            exact ⟨rfl, hb1⟩
    · have hkk : k = P.length := by omega
      have i1 : ¬ (k : Int) < (P.length : Int) := by omega
      obtain ⟨e, hb⟩ := hmid.out.2 hkk
      have He := Lib.hid e
      clear e hmem
      go_wp2
      go_ret2
      rw [He.out]
      exact ⟨by first | rfl | (simp [parseV]; omega), hb1⟩
#print axioms refParse_any
end Go.Proofs.YtmobeppmdakjmaaDoor
