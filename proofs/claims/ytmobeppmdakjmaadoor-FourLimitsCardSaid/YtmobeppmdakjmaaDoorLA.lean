/- Plain law: the parts of FourLimits, and what its texts say. -/
import Derived.Test.YtmobeppmdakjmaaDoorL4
import Derived.Lib.Bytealg
namespace Go.Proofs.YtmobeppmdakjmaaDoor

/-- The first n bytes of an address, the last one ahead. -/
def bytesOf (x n : Nat) : List Nat := (List.range n).map fun j => x / 2 ^ (8 * j) % 256
theorem bytesOf_succ (x j : Nat) : bytesOf x (j + 1) = bytesOf x j ++ [x / 2 ^ (8 * j) % 256] := by unfold bytesOf; rw [List.range_succ, List.map_append]; rfl
theorem bytesOf_len (x n : Nat) : (bytesOf x n).length = n := by simp [bytesOf]
theorem bytesOf_lt (x n : Nat) : ∀ b ∈ bytesOf x n, b < 256 := by
  intro b hb
  simp only [bytesOf, List.mem_map] at hb
  obtain ⟨j, _, rfl⟩ := hb
  exact Nat.mod_lt _ (by decide)
/-- The parts. -/
def partsOf (x n : Nat) : List (List UInt8) := (bytesOf x n).map dec
theorem partsOf_len (x n : Nat) : (partsOf x n).length = n := by rw [partsOf, List.length_map, bytesOf_len]
theorem partsOf_free (x n : Nat) : ∀ p ∈ partsOf x n, (46 : UInt8) ∉ p := by
  intro p hp
  obtain ⟨b, hb, rfl⟩ := List.mem_map.1 hp
  exact byte_free b (bytesOf_lt x n b hb)
theorem partsOf_ne (x n : Nat) : ∀ p ∈ partsOf x n, p ≠ [] := by
  intro p hp
  obtain ⟨b, _, rfl⟩ := List.mem_map.1 hp
  exact byte_pos b
theorem partsOf_short (x n : Nat) : ∀ p ∈ partsOf x n, p.length ≤ 30 := by
  intro p hp
  obtain ⟨b, _, rfl⟩ := List.mem_map.1 hp
  have := dec_len b
  omega
theorem lens_le : ∀ (l : List (List UInt8)), (∀ p ∈ l, p.length ≤ 30) → Lib.lens l ≤ 30 * l.length
  | [], _ => by simp [Lib.lens]
  | p :: t, h => by
    have h1 := h p (by simp)
    have h2 := lens_le t (fun q hq => h q (by simp [hq]))
    simp only [Lib.lens, List.map_cons, List.sum_cons, List.length_cons] at h2 ⊢
    omega
theorem join_short (l : List (List UInt8)) (h : ∀ p ∈ l, p.length ≤ 30) (hl : l.length ≤ 10) : (Lib.join l [46]).length ≤ 1000000 := by
  cases l with
  | nil => simp [Lib.join_nil]
  | cons p t =>
    rw [Lib.join_length]
    have := lens_le (p :: t) h
    simp only [List.length_cons, List.length_nil] at *
    omega
/-- One part put in the place of another. -/
def withP (x n k : Nat) (p : List UInt8) : List UInt8 := Lib.join ((partsOf x n).set k p) [46]
theorem withP_short (x n k : Nat) (hn : n ≤ 4) (p : List UInt8) (hp : p.length ≤ 30) : (withP x n k p).length ≤ 1000000 := by
  refine join_short _ (fun q hq => ?_) (by rw [List.length_set, partsOf_len]; omega)
  rcases List.mem_or_eq_of_mem_set hq with h | rfl
  · exact partsOf_short x n q h
  · exact hp
def roomOf (n k : Nat) : Nat := if k + 1 = n then 256 ^ (5 - n) else 256
theorem withP_none {x n k : Nat} (hk : k < n) (hn : n ≤ 4) {p : List UInt8} (hp : (46 : UInt8) ∉ p) (hp0 : p ≠ [] ∨ k + 1 < n)
    (hb : number4 p = none ∨ ∃ v, number4 p = some v ∧ roomOf n k ≤ v) : parse4 (withP x n k p) = none := by
  have hl := partsOf_len x n
  refine lim_none (by rw [hl]; exact hk) (by rw [hl]; exact hn) (partsOf_free x n) (partsOf_ne x n) hp (by rw [hl]; exact hp0) ?_
  rw [hl]
  rcases hb with h | ⟨v, h1, h2⟩
  · exact .inl h
  · refine .inr ⟨v, h1, ?_⟩
    unfold roomOf at h2
    by_cases e : k + 1 = n
    · rw [if_pos e] at h2
      have e2 : 5 - n = 4 - k := by omega
      rw [e2] at h2
      exact .inr ⟨h2, e⟩
    · rw [if_neg e] at h2
      exact .inl ⟨h2, by omega⟩
theorem room_le (n k : Nat) (hn : 1 ≤ n) : 256 ≤ roomOf n k ∧ roomOf n k ≤ 4294967296 ∨ n ≥ 5 := by
  unfold roomOf
  by_cases h5 : 5 ≤ n
  · exact .inr h5
  · left
    have q : n = 1 ∨ n = 2 ∨ n = 3 ∨ n = 4 := by omega
    split
    · rcases q with rfl | rfl | rfl | rfl <;> decide
    · decide
theorem withP_big {x n k v : Nat} (hk : k < n) (hn : n ≤ 4) (hv : roomOf n k ≤ v) : parse4 (withP x n k (Lib.decDigits v)) = none := by
  refine withP_none hk hn (dec_free v) (.inl (dec_ne v)) (.inr ⟨_, number4_dec v, ?_⟩)
  have := room_le n k (by omega)
  omega
theorem withP_some {x n k v : Nat} (hk : k < n) (hn : n ≤ 4) (hv : v < roomOf n k) : ∃ y, parse4 (withP x n k (Lib.decDigits v)) = some y := by
  have hl := bytesOf_len x n
  have hr := room_le n k (by omega)
  refine lim_some (by rw [hl]; exact hk) (by rw [hl]; exact hn) (bytesOf_lt x n) (by omega) ?_ ?_
  · rw [hl]
    intro h
    unfold roomOf at hv
    rwa [if_neg (by omega)] at hv
  · rw [hl]
    intro h
    unfold roomOf at hv
    rw [if_pos h] at hv
    have e2 : 5 - n = 4 - k := by omega
    rwa [e2] at hv
theorem withP_nines {x n k : Nat} (hk : k < n) (hn : n ≤ 4) : parse4 (withP x n k [57, 57, 57, 57, 57, 57, 57, 57, 57, 57, 57, 57, 57, 57, 57, 57, 57, 57, 57, 57, 57, 57, 57]) = none := by
  refine withP_none hk hn (by decide) (.inl (by simp)) (.inr ⟨_, nines, ?_⟩)
  have := room_le n k (by omega)
  omega
theorem withP_empty {x n k : Nat} (hk : k < n) (hn : n ≤ 4) (h : n = 1 ∨ k + 1 < n) : parse4 (withP x n k []) = none := by
  rcases h with rfl | h
  · obtain rfl : k = 0 := by omega
    have : withP x 1 0 [] = [] := rfl
    rw [this]
    decide
  · exact withP_none hk hn (by simp) (.inr h) (.inl rfl)
theorem withP_odd {x n k : Nat} (hk : k < n) (hn : n ≤ 4) {c : UInt8} (h : c ∉ [48, 49, 50, 51, 52, 53, 54, 55, 56, 57, 97, 98, 99, 100, 101, 102, 65, 66, 67, 68, 69, 70, 120, 88, 46]) : parse4 (withP x n k [49, c]) = none :=
  withP_none hk hn (one_odd c h).2 (.inl (by simp)) (.inl (one_odd c h).1)
theorem digits_len (v : Nat) (h : v < 18446744073709551616) : (Lib.decDigits v).length ≤ 30 := by
  rw [Lib.decDigits_length]
  rcases Nat.eq_zero_or_pos v with rfl | hp
  · rw [Lib.nDigits_small (by decide)]; decide
  · have := Lib.numDigits_eq v hp h
    split at this <;> omega
theorem index_odd (c : UInt8) (h : Lib.indexByte [48, 49, 50, 51, 52, 53, 54, 55, 56, 57, 97, 98, 99, 100, 101, 102, 65, 66, 67, 68, 69, 70, 120, 88, 46] c < 0) : c ∉ [48, 49, 50, 51, 52, 53, 54, 55, 56, 57, 97, 98, 99, 100, 101, 102, 65, 66, 67, 68, 69, 70, 120, 88, 46] := by
  have key : ∀ n : Fin 256, Lib.indexByte [48, 49, 50, 51, 52, 53, 54, 55, 56, 57, 97, 98, 99, 100, 101, 102, 65, 66, 67, 68, 69, 70, 120, 88, 46] (UInt8.ofNat n.1) < 0 → UInt8.ofNat n.1 ∉ [48, 49, 50, 51, 52, 53, 54, 55, 56, 57, 97, 98, 99, 100, 101, 102, 65, 66, 67, 68, 69, 70, 120, 88, 46] := by decide +kernel
  have := key ⟨c.toNat, c.toNat_lt⟩
  simp only [UInt8.ofNat_toNat] at this
  exact this h
theorem five_of (x n : Nat) (hn1 : 1 ≤ n) : parse4 (Lib.join (partsOf x n ++ [[49], [49], [49], [49]]) [46]) = none :=
  five_none (by intro e; have := partsOf_len x n; rw [e] at this; simp at this; omega) (partsOf_free x n)
theorem five_short (x n : Nat) (hn4 : n ≤ 4) : (Lib.join (partsOf x n ++ [[49], [49], [49], [49]]) [46]).length ≤ 1000000 := by
  refine join_short _ (fun q hq => ?_) (by rw [List.length_append, partsOf_len]; simp; omega)
  rcases List.mem_append.1 hq with h | h
  · exact partsOf_short x n q h
  · simp at h; subst h; decide
#print axioms withP_some
#print axioms withP_odd
#print axioms five_of
end Go.Proofs.YtmobeppmdakjmaaDoor
