/- Plain law: replacing the code of a dot, byte by byte (rep) is the library's replaceAll. -/
import Derived.Test.YtpahiipfmccbiaaDoorP0
namespace Go.Proofs.YtpahiipfmccbiaaDoor

/-- Each %2x (x: the byte c) made a dot, from the left. -/
def rep (c : UInt8) : List UInt8 → List UInt8
  | [] => []
  | a :: t => match a, t with
    | 37, 50 :: d :: t' => if d = c then 46 :: rep c t' else 37 :: rep c (50 :: d :: t')
    | a, t => a :: rep c t

theorem rep_hit (c : UInt8) (t : List UInt8) : rep c (37 :: 50 :: c :: t) = 46 :: rep c t := by
  conv => lhs; unfold rep
  simp
theorem rep_miss (c a : UInt8) (t : List UInt8) (h : ([37, 50, c] : List UInt8).isPrefixOf (a :: t) = false) : rep c (a :: t) = a :: rep c t := by
  conv => lhs; unfold rep
  split
  · split
    · rename_i hd; subst hd; simp [List.isPrefixOf] at h
    · rfl
  · rfl

theorem rep_length (c : UInt8) : ∀ (n : Nat) (l : List UInt8), l.length ≤ n → (rep c l).length ≤ l.length
  | _, [], _ => by simp [rep]
  | 0, _ :: _, h => by simp at h
  | n + 1, a :: t, h => by
    by_cases hp : ([37, 50, c] : List UInt8).isPrefixOf (a :: t) = true
    · obtain ⟨t', ht⟩ := List.isPrefixOf_iff_prefix.1 hp
      rw [← ht]
      simp only [List.cons_append, List.nil_append, rep_hit, List.length_cons]
      have := rep_length c n t' (by have := congrArg List.length ht; simp at this h; omega)
      omega
    · rw [rep_miss _ _ _ (Bool.eq_false_iff.2 hp)]
      have := rep_length c n t (by simpa using h)
      simp; omega

theorem index_prefix {l sub : List UInt8} (h : sub.isPrefixOf l = true) : Lib.index l sub = 0 := by
  cases l with
  | nil => cases sub with
    | nil => rfl
    | cons a t => simp [List.isPrefixOf] at h
  | cons a t => rw [Lib.index, if_pos h]
theorem index_cons_miss {a : UInt8} {t sub : List UInt8} (h : sub.isPrefixOf (a :: t) = false) : Lib.index (a :: t) sub = if Lib.index t sub == -1 then -1 else Lib.index t sub + 1 := by
  rw [Lib.index, if_neg (by rw [h]; decide)]
theorem replaceK_cons_miss {a : UInt8} {t old new : List UInt8} (h : old.isPrefixOf (a :: t) = false) (k : Nat) : Lib.replaceK old new k (a :: t) = a :: Lib.replaceK old new k t := by
  cases k with
  | zero => rfl
  | succ k =>
    have hi := index_cons_miss h
    by_cases hm : Lib.index t old = -1
    · rw [Lib.replaceK, Lib.replaceK, hi, hm]; rfl
    · have hge := Lib.index_ge t old
      have e : Lib.index (a :: t) old = ((Lib.index t old).toNat + 1 : Nat) := by
        rw [hi, if_neg (by simpa using hm)]; omega
      rw [Lib.replaceK_hit _ _ _ _ _ e, Lib.replaceK_hit old new k t (Lib.index t old).toNat (by omega)]
      simp [Nat.add_right_comm]
theorem count_cons_miss {a : UInt8} {t old : List UInt8} (hne : old ≠ []) (h : old.isPrefixOf (a :: t) = false) : Lib.count (a :: t) old = Lib.count t old := by
  have hi := index_cons_miss h
  by_cases hm : Lib.index t old = -1
  · rw [Lib.count_miss hm, Lib.count_miss (by rw [hi, hm]; rfl)]
  · have hge := Lib.index_ge t old
    have e : Lib.index (a :: t) old = ((Lib.index t old).toNat + 1 : Nat) := by
      rw [hi, if_neg (by simpa using hm)]; omega
    have e1 := Lib.count_hit hne e
    have e2 := Lib.count_hit (s := t) (i := (Lib.index t old).toNat) hne (by omega)
    rw [e1, e2]
    simp [Nat.add_right_comm]

theorem replaceK_rep (c : UInt8) : ∀ (n : Nat) (l : List UInt8), l.length ≤ n → ∀ k, Lib.count l [37, 50, c] ≤ k → Lib.replaceK [37, 50, c] [46] k l = rep c l
  | _, [], _, k, _ => by
    cases k with
    | zero => rfl
    | succ k => rw [Lib.replaceK]; rfl
  | 0, _ :: _, h, _, _ => by simp at h
  | n + 1, a :: t, h, k, hk => by
    by_cases hp : ([37, 50, c] : List UInt8).isPrefixOf (a :: t) = true
    · have hi : Lib.index (a :: t) [37, 50, c] = (0 : Nat) := index_prefix hp
      rw [Lib.count_hit (by simp) hi] at hk
      obtain ⟨t', ht⟩ := List.isPrefixOf_iff_prefix.1 hp
      obtain ⟨k', rfl⟩ : ∃ k', k = k' + 1 := ⟨k - 1, by omega⟩
      rw [Lib.replaceK_hit _ _ _ _ _ hi]
      have hd : (a :: t).drop (0 + ([37, 50, c] : List UInt8).length) = t' := by rw [← ht]; rfl
      rw [hd] at hk ⊢
      have hlen : t'.length ≤ n := by have := congrArg List.length ht; simp at this h; omega
      rw [replaceK_rep c n t' hlen k' (by omega), ← ht]
      simp only [List.cons_append, List.nil_append, rep_hit, List.take_zero]
    · have hp' : ([37, 50, c] : List UInt8).isPrefixOf (a :: t) = false := Bool.eq_false_iff.2 hp
      rw [replaceK_cons_miss hp', rep_miss _ _ _ hp', replaceK_rep c n t (by simpa using h) k (by rw [← count_cons_miss (by simp) hp']; exact hk)]

/-- The library's replaceAll, at the code of a dot. -/
theorem replaceAll_rep (c : UInt8) (l : List UInt8) : Lib.replaceAll l [37, 50, c] [46] = rep c l := by
  unfold Lib.replaceAll Lib.replace
  rw [if_neg (by simp)]
  exact replaceK_rep c _ l (Nat.le_refl _) _ (by simp [Lib.replaceNum])
theorem plainS_rep (l : List UInt8) : plainS l = rep 69 (rep 101 l) := by rw [plainS, replaceAll_rep, replaceAll_rep]
theorem countB_le3 (s : ByteArray) (c : UInt8) : Lib.countB s ⟨#[37, 50, c]⟩ ≤ s.size := by
  have := Lib.countB_mul_le ⟨#[37, 50, c]⟩ (by simp [ByteArray.size]) s.size s (Nat.le_refl _)
  have h3 : (⟨#[37, 50, c]⟩ : ByteArray).size = 3 := rfl
  rw [h3] at this
  omega

#print axioms plainS_rep
end Go.Proofs.YtpahiipfmccbiaaDoor
