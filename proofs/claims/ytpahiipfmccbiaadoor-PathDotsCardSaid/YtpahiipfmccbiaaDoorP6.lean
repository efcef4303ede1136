/- Plain law: a text's dots, counted, are what replacing their codes leaves. -/
import Derived.Test.YtpahiipfmccbiaaDoorA2
import Derived.Test.YtpahiipfmccbiaaDoorP1
namespace Go.Proofs.YtpahiipfmccbiaaDoor

theorem rep_46 (c : UInt8) (t : List UInt8) : rep c (46 :: t) = 46 :: rep c t := rep_miss c 46 t rfl
theorem rep_head (c a : UInt8) (t x : List UInt8) (ha : a ≠ 46) (h : rep c t = a :: x) : ∃ t', t = a :: t' ∧ x = rep c t' := by
  match t, h with
  | [], h => simp [rep] at h
  | b :: t, h =>
    by_cases hp : ([37, 50, c] : List UInt8).isPrefixOf (b :: t) = true
    · obtain ⟨t', ht⟩ := List.isPrefixOf_iff_prefix.1 hp
      rw [← ht, List.cons_append, List.cons_append, List.cons_append, List.nil_append, rep_hit] at h
      injection h with h1 h2
      exact absurd h1.symm ha
    · rw [rep_miss c b t (Bool.eq_false_iff.2 hp)] at h
      injection h with h1 h2
      exact ⟨t, by rw [h1], h2.symm⟩

theorem dots_rep : ∀ (n : Nat) (l : List UInt8), l.length ≤ n → (∀ k, dotsN l = some k → rep 69 (rep 101 l) = List.replicate k 46) ∧ (dotsN l = none → ∃ x ∈ rep 69 (rep 101 l), x ≠ 46)
  | _, [], _ => ⟨fun k h => by simp only [dotsN, Option.some.injEq] at h; subst h; rfl, fun h => by simp [dotsN] at h⟩
  | 0, _ :: _, h => by simp at h
  | n + 1, a :: t, h => by
    have step : ∀ t' : List UInt8, t'.length ≤ n → dotsN (a :: t) = (dotsN t').map (· + 1) → rep 69 (rep 101 (a :: t)) = 46 :: rep 69 (rep 101 t') →
        (∀ k, dotsN (a :: t) = some k → rep 69 (rep 101 (a :: t)) = List.replicate k 46) ∧ (dotsN (a :: t) = none → ∃ x ∈ rep 69 (rep 101 (a :: t)), x ≠ 46) := by
      intro t' hl h1 h2
      obtain ⟨i1, i2⟩ := dots_rep n t' hl
      rw [h1, h2]
      refine ⟨fun k hk => ?_, fun hk => ?_⟩
      · obtain ⟨j, hj, rfl⟩ := Option.map_eq_some_iff.1 hk
        rw [i1 j hj, List.replicate_succ]
      · obtain ⟨x, hx, hne⟩ := i2 (by simpa using hk)
        exact ⟨x, List.mem_cons_of_mem _ hx, hne⟩
    by_cases h46 : a = 46
    · subst h46
      exact step t (by simpa using h) (dotsN_46 t) (by rw [rep_46, rep_46])
    · by_cases h1 : ∃ t', a :: t = 37 :: 50 :: 101 :: t'
      · obtain ⟨t', ht⟩ := h1
        refine step t' (by have := congrArg List.length ht; simp at this h; omega) ?_ ?_
        · rw [ht]; exact dotsN_code 101 t' (.inl rfl)
        · rw [ht, rep_hit, rep_46]
      · by_cases h2 : ∃ t', a :: t = 37 :: 50 :: 69 :: t'
        · obtain ⟨t', ht⟩ := h2
          refine step t' (by have := congrArg List.length ht; simp at this h; omega) ?_ ?_
          · rw [ht]; exact dotsN_code 69 t' (.inr rfl)
          · rw [ht, rep_miss 101 37 _ (by simp [List.isPrefixOf]), rep_miss 101 50 _ (by simp [List.isPrefixOf]), rep_miss 101 69 _ (by simp [List.isPrefixOf]), rep_hit]
        · have m1 : ([37, 50, 101] : List UInt8).isPrefixOf (a :: t) = false := by
            rw [Bool.eq_false_iff]
            intro hp
            obtain ⟨t', ht⟩ := List.isPrefixOf_iff_prefix.1 hp
            exact h1 ⟨t', ht.symm⟩
          have m2 : ([37, 50, 69] : List UInt8).isPrefixOf (a :: rep 101 t) = false := by
            rw [Bool.eq_false_iff]
            intro hp
            obtain ⟨t', ht⟩ := List.isPrefixOf_iff_prefix.1 hp
            injection ht with e1 e2
            obtain ⟨u, rfl, e3⟩ := rep_head 101 50 t _ (by decide) e2.symm
            obtain ⟨u', rfl, _⟩ := rep_head 101 69 u _ (by decide) e3.symm
            exact h2 ⟨u', by rw [← e1]⟩
          have hr : rep 69 (rep 101 (a :: t)) = a :: rep 69 (rep 101 t) := by rw [rep_miss _ _ _ m1, rep_miss _ _ _ m2]
          have hd : dotsN (a :: t) = none := by
            match t, h1, h2 with
            | [], _, _ => exact dotsN_short a [] h46 (by simp)
            | [b], _, _ => exact dotsN_short a [b] h46 (by simp)
            | b :: c :: t, h1, h2 =>
              refine dotsN_three a b c t h46 ?_
              by_cases a1 : a = 37
              · by_cases a2 : b = 50
                · subst a1 a2
                  refine .inr (.inr ⟨fun e => h1 ⟨t, by rw [e]⟩, fun e => h2 ⟨t, by rw [e]⟩⟩)
                · exact .inr (.inl a2)
              · exact .inl a1
          refine ⟨fun k hk => (by rw [hd] at hk; cases hk), fun _ => ⟨a, by rw [hr]; exact List.mem_cons_self .., h46⟩⟩

theorem single_dots (l : List UInt8) : single l = (dotsZ l == 1) := by
  obtain ⟨h1, h2⟩ := dots_rep _ l (Nat.le_refl _)
  unfold single dotsZ
  rw [plainS_rep]
  cases hd : dotsN l with
  | some k =>
    rw [h1 k hd]
    match k with
    | 0 => rfl
    | 1 => rfl
    | k + 2 =>
      have e1 : (List.replicate (k + 2) (46 : UInt8) == [46]) = false := by simp [List.replicate_succ]
      have e2 : (((k + 2 : Nat) : Int) == 1) = false := by rw [beq_eq_false_iff_ne]; omega
      rw [e1]; exact e2.symm
  | none =>
    obtain ⟨x, hx, hne⟩ := h2 hd
    have : (rep 69 (rep 101 l) == [46]) = false := by
      rw [beq_eq_false_iff_ne]
      intro e
      rw [e] at hx
      exact hne (by simpa using hx)
    rw [this]; rfl
theorem double_dots (l : List UInt8) : double l = (dotsZ l == 2) := by
  obtain ⟨h1, h2⟩ := dots_rep _ l (Nat.le_refl _)
  unfold double dotsZ
  rw [plainS_rep]
  cases hd : dotsN l with
  | some k =>
    rw [h1 k hd]
    match k with
    | 0 => rfl
    | 1 => rfl
    | 2 => rfl
    | k + 3 =>
      have e1 : (List.replicate (k + 3) (46 : UInt8) == [46, 46]) = false := by simp [List.replicate_succ]
      have e2 : (((k + 3 : Nat) : Int) == 2) = false := by rw [beq_eq_false_iff_ne]; omega
      rw [e1]; exact e2.symm
  | none =>
    obtain ⟨x, hx, hne⟩ := h2 hd
    have : (rep 69 (rep 101 l) == [46, 46]) = false := by
      rw [beq_eq_false_iff_ne]
      intro e
      rw [e] at hx
      exact hne (by simpa using hx)
    rw [this]; rfl
#print axioms double_dots
end Go.Proofs.YtpahiipfmccbiaaDoor
