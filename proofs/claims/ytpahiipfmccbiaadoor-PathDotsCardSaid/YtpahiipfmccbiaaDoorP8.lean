/- Plain law of PathDots: which texts are dots. -/
import Derived.Test.YtpahiipfmccbiaaDoorP6
import Derived.Shelf.Strings.CaseAny
namespace Go.Proofs.YtpahiipfmccbiaaDoor

/-- The ways to say a dot. -/
def dotL : List (List UInt8) := [[46], [37, 50, 101], [37, 50, 69]]
theorem dot_all : ∀ x ∈ dotL, ∀ y ∈ dotL, single x = true ∧ double x = false ∧ double (x ++ y) = true ∧ single (x ++ y) = false ∧ double (x ++ y ++ x) = false := by decide
theorem dots_nil : single [] = false ∧ double [] = false := by decide
theorem dotsN_dot (x : List UInt8) (hx : x ∈ dotL) (t : List UInt8) : dotsN (x ++ t) = (dotsN t).map (· + 1) := by
  simp only [dotL, List.mem_cons, List.not_mem_nil, or_false] at hx
  rcases hx with rfl | rfl | rfl
  · exact dotsN_46 t
  · exact dotsN_code 101 t (.inl rfl)
  · exact dotsN_code 69 t (.inr rfl)
theorem dotsN_odd (c : UInt8) (hc : c ≠ 46) : dotsN [c] = none := dotsN_short c [] hc (by simp)
theorem no_single {l : List UInt8} (h : dotsN l = none) : single l = false := by rw [single_dots, dotsZ, h]; rfl
theorem no_double {l : List UInt8} (h : dotsN l = none) : double l = false := by rw [double_dots, dotsZ, h]; rfl
theorem odd_all (c : UInt8) (hc : c ≠ 46) (x y : List UInt8) (hx : x ∈ dotL) (hy : y ∈ dotL) : single [c] = false ∧ double (x ++ [c]) = false ∧ double ([c] ++ y) = false ∧ single (x ++ [c]) = false := by
  have h1 := dotsN_odd c hc
  have h2 : dotsN (x ++ [c]) = none := by rw [dotsN_dot x hx, h1]; rfl
  have h3 : dotsN ([c] ++ y) = none := by
    simp only [dotL, List.mem_cons, List.not_mem_nil, or_false] at hy
    rcases hy with rfl | rfl | rfl
    · exact dotsN_short c [46] hc (by simp)
    · exact dotsN_three c 37 50 [101] hc (.inr (.inl (by decide)))
    · exact dotsN_three c 37 50 [69] hc (.inr (.inl (by decide)))
  exact ⟨no_single h1, no_double h2, no_double h3, no_single h2⟩

theorem dotsN_inv {a : UInt8} {t : List UInt8} {k : Nat} (h : dotsN (a :: t) = some k) : ∃ x t' j, x ∈ dotL ∧ a :: t = x ++ t' ∧ dotsN t' = some j ∧ k = j + 1 := by
  by_cases ha : a = 46
  · subst ha
    rw [dotsN_46] at h
    obtain ⟨j, hj, rfl⟩ := Option.map_eq_some_iff.1 h
    exact ⟨[46], t, j, by decide, rfl, hj, rfl⟩
  · match t, h with
    | [], h => rw [dotsN_short a [] ha (by simp)] at h; cases h
    | [b], h => rw [dotsN_short a [b] ha (by simp)] at h; cases h
    | b :: c :: t, h =>
      by_cases hc : a = 37 ∧ b = 50 ∧ (c = 101 ∨ c = 69)
      · obtain ⟨rfl, rfl, hc⟩ := hc
        rw [dotsN_code c t hc] at h
        obtain ⟨j, hj, rfl⟩ := Option.map_eq_some_iff.1 h
        rcases hc with rfl | rfl
        · exact ⟨[37, 50, 101], t, j, by decide, rfl, hj, rfl⟩
        · exact ⟨[37, 50, 69], t, j, by decide, rfl, hj, rfl⟩
      · rw [dotsN_three a b c t ha (by
          by_cases h1 : a = 37
          · by_cases h2 : b = 50
            · right; right
              exact ⟨fun e => hc ⟨h1, h2, .inl e⟩, fun e => hc ⟨h1, h2, .inr e⟩⟩
            · exact .inr (.inl h2)
          · exact .inl h1)] at h
        cases h
theorem lower_append (a b : List UInt8) : Lib.toLowerA (a ++ b) = Lib.toLowerA a ++ Lib.toLowerA b := by simp [Lib.toLowerA]
theorem dots_lower : ∀ (n : Nat) (l : List UInt8), l.length ≤ n → ∀ k, dotsN l = some k → (∀ b ∈ l, b.toNat < 128) ∧ rep 101 (Lib.toLowerA l) = List.replicate k 46
  | _, [], _, k, h => by
    simp only [dotsN, Option.some.injEq] at h
    subst h
    exact ⟨fun b hb => by simp at hb, rfl⟩
  | 0, _ :: _, h, _, _ => by simp at h
  | n + 1, a :: t, hl, k, h => by
    obtain ⟨x, t', j, hx, he, hj, rfl⟩ := dotsN_inv h
    have hlt : t'.length ≤ n := by
      have := congrArg List.length he
      have hxl : 1 ≤ x.length := by
        simp only [dotL, List.mem_cons, List.not_mem_nil, or_false] at hx
        rcases hx with rfl | rfl | rfl <;> simp
      simp only [List.length_cons, List.length_append] at this hl
      omega
    obtain ⟨i1, i2⟩ := dots_lower n t' hlt j hj
    rw [he, lower_append, List.replicate_succ, ← i2]
    simp only [dotL, List.mem_cons, List.not_mem_nil, or_false] at hx
    rcases hx with rfl | rfl | rfl
    · refine ⟨fun b hb => ?_, rep_46 101 _⟩
      rcases List.mem_append.1 hb with hb | hb
      · obtain rfl : b = 46 := by simpa using hb
        decide
      · exact i1 b hb
    · refine ⟨fun b hb => ?_, rep_hit 101 _⟩
      rcases List.mem_append.1 hb with hb | hb
      · simp only [List.mem_cons, List.not_mem_nil, or_false] at hb
        rcases hb with rfl | rfl | rfl <;> decide
      · exact i1 b hb
    · refine ⟨fun b hb => ?_, rep_hit 101 _⟩
      rcases List.mem_append.1 hb with hb | hb
      · simp only [List.mem_cons, List.not_mem_nil, or_false] at hb
        rcases hb with rfl | rfl | rfl <;> decide
      · exact i1 b hb
theorem dotsZ_some {l : List UInt8} {k : Nat} (h : dotsZ l = k) : dotsN l = some k := by
  unfold dotsZ at h
  split at h
  · rename_i n hn
    rw [hn]; congr 1; omega
  · omega
/-- What a dot becomes, made small and without codes. -/
theorem single_lower {l : List UInt8} (h : single l = true) : Lib.replaceAll (Lib.toLowerD l) [37, 50, 101] [46] = [46] := by
  rw [single_dots] at h
  obtain ⟨h1, h2⟩ := dots_lower _ l (Nat.le_refl _) 1 (dotsZ_some (by simpa using h))
  rw [Lib.toLowerD_ascii l h1, replaceAll_rep, h2]
  rfl
theorem double_lower {l : List UInt8} (h : double l = true) : Lib.replaceAll (Lib.toLowerD l) [37, 50, 101] [46] = [46, 46] := by
  rw [double_dots] at h
  obtain ⟨h1, h2⟩ := dots_lower _ l (Nat.le_refl _) 2 (dotsZ_some (by simpa using h))
  rw [Lib.toLowerD_ascii l h1, replaceAll_rep, h2]
  rfl
#print axioms double_lower
end Go.Proofs.YtpahiipfmccbiaaDoor
