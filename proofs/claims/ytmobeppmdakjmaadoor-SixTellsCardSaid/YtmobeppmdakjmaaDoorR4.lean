/- Plain: where the run of noughts stands, and how often '::' is shown. No program in sight. -/
import Derived.Test.YtmobeppmdakjmaaDoorR3
import Derived.Test.YtmobeppmdakjmaaDoorQ3
import Derived.Lib.CountLaws
namespace Go.Proofs.YtmobeppmdakjmaaDoor

theorem noughts_get : ∀ (l : List Nat) (i : Nat), i < noughts l → l[i]? = some 0
  | [], i, h => by simp [noughts] at h
  | n :: t, i, h => by
    by_cases h0 : n = 0
    · cases i with
      | zero => rw [h0]; rfl
      | succ i =>
        rw [noughts_cons_zero h0] at h
        rw [List.getElem?_cons_succ]
        exact noughts_get t i (by omega)
    · rw [noughts_cons_ne h0] at h
      omega
theorem noughts_stop : ∀ (l : List Nat), l[noughts l]? ≠ some 0
  | [] => by simp
  | n :: t => by
    by_cases h0 : n = 0
    · rw [noughts_cons_zero h0, List.getElem?_cons_succ]
      exact noughts_stop t
    · rw [noughts_cons_ne h0]
      simpa using h0
theorem noughts_many : ∀ (l : List Nat) (m : Nat), (∀ i, i < m → l[i]? = some 0) → m ≤ noughts l
  | [], m, h => by
    rcases Nat.eq_zero_or_pos m with rfl | hp
    · exact Nat.zero_le _
    · have := h 0 hp
      cases this
  | n :: t, m, h => by
    cases m with
    | zero => exact Nat.zero_le _
    | succ m =>
      have h0 : n = 0 := by simpa using h 0 (Nat.succ_pos m)
      rw [noughts_cons_zero h0]
      have := noughts_many t m (fun i hi => by simpa using h (i + 1) (by omega))
      omega
/-- What the run of noughts is. -/
structure Runs (x : List Nat) (k n : Nat) : Prop where
  many : n = 0 ∧ k = 0 ∨ 2 ≤ n
  in_ : k + n ≤ 8
  all_ : ∀ i, k ≤ i → i < k + n → x[i]? = some 0
  ahead : 0 < n → ∀ i, i + 1 = k → x[i]? ≠ some 0
  behind : 0 < n → x[k + n]? ≠ some 0
  best : ∀ a m, 2 ≤ m → (∀ i, a ≤ i → i < a + m → x[i]? = some 0) → m < n ∨ m = n ∧ k ≤ a
theorem run6_runs {x : List Nat} (h8 : x.length = 8) : Runs x (run6 x).1 (run6 x).2 := by
  have hb := run6_best x
  have hle := run6_bound h8
  have hbest : ∀ a m, 2 ≤ m → (∀ i, a ≤ i → i < a + m → x[i]? = some 0) → m < (run6 x).2 ∨ m = (run6 x).2 ∧ (run6 x).1 ≤ a := by
    intro a m hm ha
    have h1 : m ≤ noughts (x.drop a) := noughts_many _ m (fun i hi => by rw [List.getElem?_drop]; exact ha (a + i) (by omega) (by omega))
    have hax : a < x.length := by
      have := ha a (Nat.le_refl _) (by omega)
      exact (List.getElem?_eq_some_iff.1 this).1
    rcases hb.2 a hax (by omega) with h2 | ⟨h2, h3⟩
    · exact .inl (by omega)
    · rcases Nat.lt_or_ge m (run6 x).2 with h4 | h4
      · exact .inl h4
      · exact .inr ⟨by omega, h3⟩
  rcases hb.1 with h | ⟨h1, h2, h3⟩
  · have e1 : (run6 x).1 = 0 := by rw [h]
    have e2 : (run6 x).2 = 0 := by rw [h]
    refine ⟨.inl ⟨e2, e1⟩, hle, fun i h4 h5 => by omega, fun h4 => by omega, fun h4 => by omega, hbest⟩
  · refine ⟨.inr h1, hle, fun i h4 h5 => ?_, fun _ i hi he => ?_, fun _ => ?_, hbest⟩
    · have := noughts_get (x.drop (run6 x).1) (i - (run6 x).1) (by omega)
      rw [List.getElem?_drop] at this
      rwa [show (run6 x).1 + (i - (run6 x).1) = i by omega] at this
    · have hix : i < x.length := (List.getElem?_eq_some_iff.1 he).1
      have hd : noughts (x.drop i) = (run6 x).2 + 1 := by
        rw [List.drop_eq_getElem_cons hix, noughts_cons_zero (by
          rw [List.getElem?_eq_getElem hix] at he
          injection he), hi, h3]
      rcases hb.2 i hix (by omega) with h4 | ⟨h4, _⟩ <;> omega
    · have := noughts_stop (x.drop (run6 x).1)
      rwa [List.getElem?_drop, h3] at this
/-- What is shown, without the case of noughts alone. -/
theorem show6_want {x : List Nat} (_h8 : x.length = 8) : show6 x = if (run6 x).2 = 0 then Lib.join (full6 [] x) [58] else Lib.join ((full6 [] x).take (run6 x).1) [58] ++ [58, 58] ++ Lib.join ((full6 [] x).drop ((run6 x).1 + (run6 x).2)) [58] := by
  rw [full6_nil, ← List.map_take, ← List.map_drop]
  unfold show6 joinH
  by_cases hz : x = [0, 0, 0, 0, 0, 0, 0, 0]
  · rw [if_pos hz, hz]
    decide +kernel
  · rw [if_neg hz]
theorem cut_count (s : List UInt8) : Lib.count s [58, 58] = match (cut6 s).2 with
    | none => 0
    | some t => 1 + Lib.count t [58, 58] := by
  have h := cut_is s
  have hge := Lib.index_ge s [58, 58]
  unfold Lib.cut at h
  by_cases hi : 0 ≤ Lib.index s [58, 58]
  · rw [if_pos hi] at h
    simp only [Prod.mk.injEq] at h
    cases hc : (cut6 s).2 with
    | none => rw [hc] at h; simp at h
    | some t =>
      rw [hc] at h
      have h2 := Lib.count_hit (s := s) (sub := [58, 58]) (i := (Lib.index s [58, 58]).toNat) (by simp) (by omega)
      rw [h2, h.2.1]
      rfl
  · rw [if_neg hi] at h
    simp only [Prod.mk.injEq] at h
    cases hc : (cut6 s).2 with
    | none => exact Lib.count_miss (by omega)
    | some t => rw [hc] at h; simp at h
theorem cut_join {P : List (List UInt8)} (h : Good P) : cut6 (Lib.join P [58]) = (Lib.join P [58], none) := by
  have := cut6_join [] P h
  rw [List.append_nil] at this
  rw [this]
  show (Lib.join P [58] ++ [], none) = _
  rw [List.append_nil]
theorem cut_gap {P : List (List UInt8)} (h : Good P) (t : List UInt8) : cut6 (Lib.join P [58] ++ [58, 58] ++ t) = (Lib.join P [58], some t) := by
  have hc := cut6_join (58 :: 58 :: t) P h
  have hz : cut6 (58 :: 58 :: t) = ([], some t) := by
    rw [cut6, if_pos ⟨rfl, rfl⟩]
    rfl
  rw [hz, List.append_nil] at hc
  rw [List.append_assoc]
  exact hc
theorem count_join {P : List (List UInt8)} (h : Good P) : Lib.count (Lib.join P [58]) [58, 58] = 0 := by
  rw [cut_count, cut_join h]
theorem count_gap {P Q : List (List UInt8)} (h : Good P) (g : Good Q) : Lib.count (Lib.join P [58] ++ [58, 58] ++ Lib.join Q [58]) [58, 58] = 1 := by
  rw [cut_count, cut_gap h]
  show 1 + Lib.count (Lib.join Q [58]) [58, 58] = 1
  rw [count_join g]
theorem full6_good (nz : List Nat) {x : List Nat} (hx : ∀ n ∈ x, n < 65536) : Good (full6 nz x) := good_of_map (full6_map nz hx)
theorem Good.take {P : List (List UInt8)} (h : Good P) (k : Nat) : Good (P.take k) := fun p hp => h p (List.mem_of_mem_take hp)
theorem Good.drop {P : List (List UInt8)} (h : Good P) (k : Nat) : Good (P.drop k) := fun p hp => h p (List.mem_of_mem_drop hp)
/-- '::' stands just where the run is. -/
theorem show6_count {x : List Nat} (h8 : x.length = 8) (hx : ∀ n ∈ x, n < 65536) : Lib.count (show6 x) [58, 58] = min (run6 x).2 1 := by
  have hg := full6_good [] hx
  rw [show6_want h8]
  by_cases h0 : (run6 x).2 = 0
  · rw [if_pos h0, count_join hg, h0]
    rfl
  · rw [if_neg h0, count_gap (hg.take _) (hg.drop _)]
    omega
#print axioms show6_count
#print axioms show6_want
#print axioms run6_runs
end Go.Proofs.YtmobeppmdakjmaaDoor
