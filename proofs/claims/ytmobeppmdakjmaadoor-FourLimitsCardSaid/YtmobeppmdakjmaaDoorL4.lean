/- Plain law: a part that is one too great is none, and so on (FourLimits). -/
import Derived.Test.YtmobeppmdakjmaaDoorL2
namespace Go.Proofs.YtmobeppmdakjmaaDoor

theorem byte_pos (n : Nat) : dec n ≠ [] := byte_ne' n
/-- One part of some put in the place of another. -/
theorem lim_none {l : List (List UInt8)} {k : Nat} (hk : k < l.length) (hn : l.length ≤ 4) (hf : ∀ p ∈ l, (46 : UInt8) ∉ p) (hne : ∀ p ∈ l, p ≠ []) {p : List UInt8} (hp : (46 : UInt8) ∉ p) (hp0 : p ≠ [] ∨ k + 1 < l.length)
    (hb : number4 p = none ∨ ∃ v, number4 p = some v ∧ (256 ≤ v ∧ k + 1 < l.length ∨ 256 ^ (4 - k) ≤ v ∧ k + 1 = l.length)) : parse4 (Lib.join (l.set k p) [46]) = none := by
  have hlen : (l.set k p).length = l.length := List.length_set
  have hfs : ∀ q ∈ l.set k p, (46 : UInt8) ∉ q := by
    intro q hq
    rcases List.mem_or_eq_of_mem_set hq with h | rfl
    · exact hf q h
    · exact hp
  have hget : (l.set k p)[k]? = some p := by rw [List.getElem?_set_self hk]
  obtain ⟨z, hz, hzn⟩ : ∃ z, (l.set k p).getLast? = some z ∧ z ≠ [] := by
    rw [List.getLast?_eq_getElem?, hlen]
    by_cases e : l.length - 1 = k
    · rw [e, hget]
      exact ⟨p, rfl, by rcases hp0 with h | h; exact h; omega⟩
    · rw [List.getElem?_set_ne (by omega), List.getElem?_eq_getElem (show l.length - 1 < l.length by omega)]
      exact ⟨_, rfl, hne _ (List.getElem_mem _)⟩
  rw [parse4_join (by intro e; rw [e] at hlen; simp at hlen; omega) hz hzn hfs, hlen, if_neg (by omega)]
  refine addr4_none 4 _ 0 0 k p hget ?_
  rw [hlen]
  rcases hb with h | ⟨v, h1, h2⟩
  · exact .inl h
  · exact .inr ⟨v, h1, by simpa using h2⟩
theorem lim_some {bs : List Nat} {k : Nat} (hk : k < bs.length) (hn : bs.length ≤ 4) (hb : ∀ b ∈ bs, b < 256) {v : Nat} (hv : v < 4294967296) (h1 : k + 1 < bs.length → v < 256) (h2 : k + 1 = bs.length → v < 256 ^ (4 - k)) :
    ∃ x, parse4 (Lib.join ((bs.map dec).set k (Lib.decDigits v)) [46]) = some x := by
  have hlen : ((bs.map dec).set k (Lib.decDigits v)).length = bs.length := by simp
  have hk' : k < (bs.map dec).length := by simpa using hk
  have hfs : ∀ q ∈ (bs.map dec).set k (Lib.decDigits v), (46 : UInt8) ∉ q := by
    intro q hq
    rcases List.mem_or_eq_of_mem_set hq with h | rfl
    · obtain ⟨b, hbm, rfl⟩ := List.mem_map.1 h
      exact byte_free b (hb b hbm)
    · exact dec_free v
  obtain ⟨z, hz, hzn⟩ : ∃ z, ((bs.map dec).set k (Lib.decDigits v)).getLast? = some z ∧ z ≠ [] := by
    have hp : (bs.map dec).set k (Lib.decDigits v) ≠ [] := by intro e; rw [e] at hlen; simp at hlen; omega
    refine ⟨_, List.getLast?_eq_some_getLast hp, ?_⟩
    have := List.getLast_mem hp
    rcases List.mem_or_eq_of_mem_set this with h | e
    · obtain ⟨b, _, e⟩ := List.mem_map.1 h
      rw [← e]; exact byte_pos b
    · rw [e]; exact dec_ne v
  refine ⟨sum4 4 0 0 (bs.set k v), ?_⟩
  rw [parse4_join (by intro e; rw [e] at hlen; simp at hlen; omega) hz hzn hfs, hlen, if_neg (by omega)]
  refine addr4_some 4 _ _ 0 0 (by simp) ?_
  intro i p u hp hu
  rw [hlen]
  by_cases hik : i = k
  · subst hik
    rw [List.getElem?_set_self hk'] at hp
    rw [List.getElem?_set_self hk] at hu
    injection hp with hp
    injection hu with hu
    subst hp hu
    rw [number4_dec]
    exact ⟨by congr 1; omega, h1, by simpa using h2⟩
  · rw [List.getElem?_set_ne (by omega), List.getElem?_map, Option.map_eq_some_iff] at hp
    rw [List.getElem?_set_ne (by omega)] at hu
    obtain ⟨b, hb1, rfl⟩ := hp
    rw [hu] at hb1
    injection hb1 with hb1
    subst hb1
    have h256 := hb u (List.mem_of_getElem? hu)
    refine ⟨number4_byte u h256, fun _ => h256, fun e => Nat.lt_of_lt_of_le h256 ?_⟩
    have : 256 ^ 1 ≤ 256 ^ (4 - (0 + i)) := Nat.pow_le_pow_right (by decide) (by omega)
    simpa using this
theorem five_none {l : List (List UInt8)} (hne : l ≠ []) (hf : ∀ p ∈ l, (46 : UInt8) ∉ p) : parse4 (Lib.join (l ++ [[49], [49], [49], [49]]) [46]) = none := by
  have hp : 0 < l.length := List.length_pos_iff.2 hne
  rw [parse4_join (p := [49]) (by simp) (by simp) (by decide) (by
    intro p hp
    rcases List.mem_append.1 hp with h | h
    · exact hf p h
    · simp at h; subst h; decide), if_pos (by simp; omega)]
theorem nines : number4 [57, 57, 57, 57, 57, 57, 57, 57, 57, 57, 57, 57, 57, 57, 57, 57, 57, 57, 57, 57, 57, 57, 57] = some 4294967296 := by decide +kernel
/-- A byte that is no digit of sixteen, no x, and no point, behind a one. -/
theorem one_odd (c : UInt8) (h : c ∉ [48, 49, 50, 51, 52, 53, 54, 55, 56, 57, 97, 98, 99, 100, 101, 102, 65, 66, 67, 68, 69, 70, 120, 88, 46]) : number4 [49, c] = none ∧ (46 : UInt8) ∉ [49, c] := by
  have key : ∀ n : Fin 256, UInt8.ofNat n.1 ∉ [48, 49, 50, 51, 52, 53, 54, 55, 56, 57, 97, 98, 99, 100, 101, 102, 65, 66, 67, 68, 69, 70, 120, 88, 46] → number4 [49, UInt8.ofNat n.1] = none ∧ (46 : UInt8) ∉ [49, UInt8.ofNat n.1] := by decide +kernel
  have := key ⟨c.toNat, c.toNat_lt⟩
  simp only [UInt8.ofNat_toNat] at this
  exact this h
#print axioms lim_some
#print axioms lim_none
#print axioms one_odd
end Go.Proofs.YtmobeppmdakjmaaDoor
