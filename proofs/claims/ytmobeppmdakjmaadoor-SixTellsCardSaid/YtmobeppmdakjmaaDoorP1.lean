/- Plain laws of numbers' texts: leading noughts; the library's parse at base ten. -/
import Derived.Test.YtmobeppmdakjmaaDoorP0
import Derived.Lib.ParseIntB
import Derived.Shelf.Strings.Trim
namespace Go.Proofs.YtmobeppmdakjmaaDoor

theorem worth_nought : worth 48 = 0 := by decide
theorem numB_trim (b : Nat) : ∀ (l : List UInt8), numB b 0 (Lib.trimLeftB l 48) = numB b 0 l
  | [] => rfl
  | c :: t => by
    unfold Lib.trimLeftB
    by_cases h : c = 48
    · subst h
      rw [List.dropWhile_cons, if_pos (by decide)]
      have := numB_trim b t
      unfold Lib.trimLeftB at this
      rw [this, numB, worth_nought]
      simp
    · rw [List.dropWhile_cons, if_neg (by simpa using h)]
theorem trim_digits {b : Nat} {l : List UInt8} (h : digitsB b l = true) : digitsB b (Lib.trimLeftB l 48) = true := by
  unfold digitsB at h ⊢
  rw [List.all_eq_true] at h ⊢
  exact fun c hc => h c ((List.dropWhile_sublist _).subset hc)
theorem trim_len (l : List UInt8) : (Lib.trimLeftB l 48).length ≤ l.length := (List.dropWhile_sublist _).length_le

theorem worth_ten {c : UInt8} (h : worth c < 10) : 48 ≤ c.toNat ∧ c.toNat ≤ 57 ∧ worth c = c.toNat - 48 := by
  unfold worth at h ⊢
  split at h
  · rename_i hd
    rw [if_pos hd]
    exact ⟨hd.1, hd.2, rfl⟩
  · split at h
    · omega
    · split at h <;> omega
theorem parse_ok (M : Nat) (hM : M ≤ 4294967295) : ∀ (l : List UInt8) (acc : Nat), digitsB 10 l = true → numB 10 acc l ≤ M → Lib.parseUintM M acc l = .ok (numB 10 acc l)
  | [], acc, _, _ => rfl
  | c :: t, acc, hd, h => by
    simp only [digitsB, List.all_cons, Bool.and_eq_true, decide_eq_true_eq] at hd
    obtain ⟨h1, h2, h3⟩ := worth_ten hd.1
    rw [numB, h3] at h
    have hge := numB_ge 10 (by decide) t (acc * 10 + (c.toNat - 48))
    rw [Lib.parseUintM, if_pos ⟨h1, h2⟩, if_neg (by omega), if_neg (by omega), numB, h3]
    exact parse_ok M hM t _ hd.2 h
theorem parse_range (M : Nat) (hM : M ≤ 4294967295) : ∀ (l : List UInt8) (acc : Nat), acc ≤ M → digitsB 10 l = true → M < numB 10 acc l → Lib.parseUintM M acc l = .range
  | [], acc, ha, _, h => by rw [numB] at h; omega
  | c :: t, acc, ha, hd, h => by
    simp only [digitsB, List.all_cons, Bool.and_eq_true, decide_eq_true_eq] at hd
    obtain ⟨h1, h2, h3⟩ := worth_ten hd.1
    rw [numB, h3] at h
    rw [Lib.parseUintM, if_pos ⟨h1, h2⟩, if_neg (by omega)]
    by_cases hc : M < acc * 10 + (c.toNat - 48)
    · rw [if_pos hc]
    · rw [if_neg hc]
      exact parse_range M hM t _ (by omega) hd.2 h
theorem parseB_ok {l : List UInt8} (hne : l ≠ []) (hd : digitsB 10 l = true) (h : numB 10 0 l ≤ 4294967295) : Lib.parseUintB 32 l = .ok (numB 10 0 l) := by
  rw [Lib.parseUintB, if_neg hne]
  exact parse_ok _ (by decide) l 0 hd h
theorem parseB_range {l : List UInt8} (hne : l ≠ []) (hd : digitsB 10 l = true) (h : 4294967295 < numB 10 0 l) : Lib.parseUintB 32 l = .range := by
  rw [Lib.parseUintB, if_neg hne]
  exact parse_range _ (by decide) l 0 (Nat.zero_le _) hd h

theorem base4_cases (s : List UInt8) : (base4 s).2 = 8 ∨ (base4 s).2 = 10 ∨ (base4 s).2 = 16 := by
  unfold base4
  split
  · split
    · exact .inr (.inr rfl)
    · exact .inl rfl
  · exact .inr (.inl rfl)
theorem base4_len (s : List UInt8) : (base4 s).1.length ≤ s.length := by
  unfold base4
  split
  · split
    · simp; omega
    · simp
  · exact Nat.le_refl _
/-- What Number hands back, by what is left when leading noughts are gone. -/
theorem number4_none {s : List UInt8} (h : s = [] ∨ digitsB (base4 s).2 (base4 s).1 = false) : number4 s = none := by
  unfold number4
  rcases h with h | h
  · rw [if_pos h]
  · split
    · rfl
    · rw [if_neg (by rw [h]; decide)]
theorem number4_some {s : List UInt8} (hs : s ≠ []) (h : digitsB (base4 s).2 (base4 s).1 = true) : number4 s = some (min (numB (base4 s).2 0 (Lib.trimLeftB (base4 s).1 48)) 4294967296) := by
  unfold number4
  rw [if_neg hs, if_pos h, numB_trim]
#print axioms number4_some
end Go.Proofs.YtmobeppmdakjmaaDoor
