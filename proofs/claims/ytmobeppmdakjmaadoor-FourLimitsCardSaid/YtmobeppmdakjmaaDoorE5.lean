/- Walk: the reference's Ends. -/
import Derived.Test.YtmobeppmdakjmaaDoorE4
namespace Go.Proofs.YtmobeppmdakjmaaDoor
open Go.RowKit

theorem worth_dig (c : UInt8) : decide (worth c < 10) = decide (48 ≤ c.toNat ∧ c.toNat ≤ 57) := by
  have := c.toNat_lt
  rw [decide_eq_decide]
  constructor
  · intro h; have := worth_ten h; exact ⟨this.1, this.2.1⟩
  · intro h; unfold worth; rw [if_pos h]; omega
theorem digits10_snoc {p : List UInt8} {k : Nat} (h : k < p.length) : digitsB 10 (p.take (k + 1)) = (digitsB 10 (p.take k) && decide (48 ≤ p[k].toNat ∧ p[k].toNat ≤ 57)) := by
  rw [take_snoc h]
  unfold digitsB
  rw [List.all_append]
  simp only [List.all_cons, List.all_nil, Bool.and_true]
  rw [worth_dig]
theorem refnum_is (s : List UInt8) (o : Option Nat) (h : number4 s = o) (hl : s.length ≤ 1000000) (w : World) :
    Calls Tryd.prog 14 #[.string ⟨s.toArray⟩] w fun e w' => e = .returned (numV o) ∧ w = w' := by
  subst h; exact refnum_any s hl w

set_option maxHeartbeats 2000000 in
set_option maxRecDepth 100000 in
theorem refEnds_any (s : List UInt8) (hl : s.length ≤ 1000000) (w : World) :
    Calls Tryd.prog 18 #[.string ⟨s.toArray⟩] w fun e w' => e = .returned (.bool (ends4 s)) ∧ Below w.heap.size w w' := by
  have Hp := Lib.hid (refParts_any s hl w)
  have hne := parts4_ne s
  have hpl := parts4_len s
  have hpos : 0 < (parts4 s).length := List.length_pos_iff.2 hne
  have hk : (parts4 s).length - 1 < (parts4 s).length := by omega
  have hlast : (parts4 s).getLast? = some (parts4 s)[(parts4 s).length - 1] := by rw [List.getLast?_eq_getElem?, List.getElem?_eq_getElem hk]
  have hml := parts4_mem (List.getElem_mem hk)
  have He : Hid (ends4 s = ((parts4 s)[(parts4 s).length - 1] != [] && ((number4 (parts4 s)[(parts4 s).length - 1]).isSome || digitsB 10 (parts4 s)[(parts4 s).length - 1]))) := by
    show _ = _
    unfold ends4
    rw [hlast]
  have Hc : Hid (∀ (W : World) (A : Option Addr), Rd W W.heap.size A (strV (parts4 s)) → ∃ b off, A = some ⟨b, off, none⟩ ∧ W.cell? ⟨b, off + ((parts4 s).length - 1), none⟩ = some (.string ⟨(parts4 s)[(parts4 s).length - 1].toArray⟩)) := by
    intro W A hr
    obtain ⟨b, off, rfl, _, hc⟩ := hr _ _ (strV_get (List.getElem?_eq_getElem hk))
    exact ⟨b, off, rfl, hc⟩
  generalize (parts4 s)[(parts4 s).length - 1] = p at *
  clear hne hlast
  obtain ⟨o, hno⟩ : ∃ o, number4 p = o := ⟨_, rfl⟩
  have Hn := Lib.hid hno
  rw [hno] at He
  clear hno
  have hpz := size_str p
  have hp6 : p.length ≤ 1000000 := by omega
  go_enter Tryd.func18, Tryd.ntmps18
  go_wp2_with (go_at_call 53; refine Hp.out.mono ?_)
  rintro e w1 ⟨A, c, rfl, hrd, hc, hb1⟩
  obtain ⟨b, off, rfl, hcell⟩ := Hc.out w1 A hrd
  clear hrd
  by_cases h0 : p = []
  · have hf : Hid (ends4 s = false) := by show _ = _; rw [He.out, h0]; rfl
    have f0 : (p == ([] : List UInt8)) = true := by rw [h0]; rfl
    clear h0
    go_wp2
    go_ret
    rw [hf.out]
    exact ⟨rfl, hb1⟩
  have hf : Hid (ends4 s = (o.isSome || digitsB 10 p)) := by
    show _ = _
    rw [He.out]
    have : (p != []) = true := by simpa using h0
    rw [this]; rfl
  have f0 : (p == ([] : List UInt8)) = false := by rw [beq_eq_false_iff_ne]; exact h0
  clear h0
  go_wp2
  go_loopw [5, 6] (fun d i wr => ∃ k : Nat, k ≤ p.length ∧ d = .bool (digitsB 10 (p.take k)) ∧ i = .int .i64 (k : Int) ∧ wr = w1) (fun _ i _ => p.length - (intOf i).toNat)
  case atStart => exact ⟨0, Nat.zero_le _, rfl, rfl, rfl⟩
  case round =>
    obtain ⟨k, hk, rfl, rfl, rfl⟩ := hrel
    by_cases hlt : k < p.length
    · have f1 : (k : Int) < (p.length : Int) := by omega
      have hs := Lib.hid (digits10_snoc hlt)
      have hgb : (⟨p.toArray⟩ : ByteArray)[k]'(by rw [hpz]; exact hlt) = p[k] := rfl
      rw [← hgb] at hs
      clear hgb
      cases hd : digitsB 10 (p.take k) with
      | false =>
        have hs2 : Hid (digitsB 10 (p.take (k + 1)) = false) := by show _ = _; rw [hs.out, hd]; rfl
        go_wp2
        exact ⟨⟨k + 1, by omega, by rw [hs2.out], by go_num, by trivial⟩, by simp [intOf]; omega⟩
      | true =>
        by_cases ha : 48 ≤ ((⟨p.toArray⟩ : ByteArray)[k]'(by rw [hpz]; exact hlt)).toNat
        · have fa : (48 : Int) ≤ (((⟨p.toArray⟩ : ByteArray)[k]'(by rw [hpz]; exact hlt)).toNat : Int) := by omega
          by_cases hb : ((⟨p.toArray⟩ : ByteArray)[k]'(by rw [hpz]; exact hlt)).toNat ≤ 57
          · have fb : (((⟨p.toArray⟩ : ByteArray)[k]'(by rw [hpz]; exact hlt)).toNat : Int) ≤ 57 := by omega
            have hs2 : Hid (digitsB 10 (p.take (k + 1)) = true) := by show _ = _; rw [hs.out, hd]; simp [ha, hb]
            clear ha hb
            go_wp2
            exact ⟨⟨k + 1, by omega, by rw [hs2.out], by go_num, by trivial⟩, by simp [intOf]; omega⟩
          · have fb : ¬ (((⟨p.toArray⟩ : ByteArray)[k]'(by rw [hpz]; exact hlt)).toNat : Int) ≤ 57 := by omega
            have hs2 : Hid (digitsB 10 (p.take (k + 1)) = false) := by show _ = _; rw [hs.out, hd]; simp [ha, hb]
            clear ha hb
            go_wp2
            exact ⟨⟨k + 1, by omega, by rw [hs2.out], by go_num, by trivial⟩, by simp [intOf]; omega⟩
        · have fa : ¬ (48 : Int) ≤ (((⟨p.toArray⟩ : ByteArray)[k]'(by rw [hpz]; exact hlt)).toNat : Int) := by omega
          have hs2 : Hid (digitsB 10 (p.take (k + 1)) = false) := by show _ = _; rw [hs.out, hd]; simp [ha]
          clear ha
          go_wp2
          exact ⟨⟨k + 1, by omega, by rw [hs2.out], by go_num, by trivial⟩, by simp [intOf]; omega⟩
    · have hkk : k = p.length := by omega
      have f1 : ¬ (k : Int) < (p.length : Int) := by omega
      have hd : digitsB 10 (p.take k) = digitsB 10 p := by rw [hkk, List.take_length]
      rw [hd]
      clear hd
      obtain ⟨d, hdd⟩ : ∃ d, digitsB 10 p = d := ⟨_, rfl⟩
      rw [hdd]
      have hf2 : Hid (ends4 s = (o.isSome || d)) := by show _ = _; rw [hf.out, hdd]
      clear hdd
      go_wp2_with fail
      refine (refnum_is p o Hn.out hp6 _).mono ?_
      rintro e w2 ⟨rfl, rfl⟩
      cases o <;> cases d
      all_goals
        simp only [numV]
        go_wp2
        go_ret
        rw [hf2.out]
        exact ⟨rfl, hb1⟩
#print axioms refEnds_any
end Go.Proofs.YtmobeppmdakjmaaDoor
