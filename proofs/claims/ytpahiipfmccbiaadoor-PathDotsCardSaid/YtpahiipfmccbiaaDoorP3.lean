/- Plain law: a walk by the first separator; its bounds. -/
import Derived.Test.YtpahiipfmccbiaaDoorP2
namespace Go.Proofs.YtpahiipfmccbiaaDoor

theorem walkGo_some (name : List UInt8) (sp : Bool) : ∀ (rs cur : List Int) (l : List (List UInt8)) (k : Nat), rs.findIdx? (isSep sp) = some k →
    walkGo name sp cur rs l = walkGo name sp [] (rs.drop (k + 1)) (putP name l (cur ++ rs.take k) false)
  | [], _, _, _, h => by simp at h
  | r :: t, cur, l, k, h => by
    rw [List.findIdx?_cons] at h
    by_cases hs : isSep sp r = true
    · rw [if_pos hs] at h
      injection h with h
      subst h
      rw [walkGo, if_pos hs]
      simp
    · rw [if_neg hs] at h
      rw [walkGo, if_neg hs]
      obtain ⟨j, hj, rfl⟩ := Option.map_eq_some_iff.1 h
      rw [walkGo_some name sp t (cur ++ [r]) l j hj]
      simp
theorem walkGo_none (name : List UInt8) (sp : Bool) : ∀ (rs cur : List Int) (l : List (List UInt8)), rs.findIdx? (isSep sp) = none →
    walkGo name sp cur rs l = putP name l (cur ++ rs) true
  | [], cur, l, _ => by rw [walkGo]; simp
  | r :: t, cur, l, h => by
    rw [List.findIdx?_cons] at h
    by_cases hs : isSep sp r = true
    · rw [if_pos hs] at h; cases h
    · rw [if_neg hs] at h
      rw [walkGo, if_neg hs, walkGo_none name sp t (cur ++ [r]) l (by simpa using h)]
      simp

theorem shorten_mem {name : List UInt8} {l : List (List UInt8)} {s : List UInt8} (h : s ∈ shorten name l) : s ∈ l := by
  unfold shorten at h
  split at h
  · exact h
  · split at h
    · exact h
    · simp at h
  · rw [List.dropLast_eq_take] at h; exact List.mem_of_mem_take h
theorem shorten_len (name : List UInt8) (l : List (List UInt8)) : (shorten name l).length ≤ l.length := by
  unfold shorten
  split
  · simp
  · split <;> simp
  · simp
theorem putP_len (name : List UInt8) (l : List (List UInt8)) (p : List Int) (last : Bool) : (putP name l p last).length ≤ l.length + 1 := by
  have := shorten_len name l
  unfold putP
  split
  · split <;> simp <;> omega
  · split
    · split <;> simp
    · split <;> simp
theorem putP_mem {name : List UInt8} {l : List (List UInt8)} {p : List Int} {last : Bool} {s : List UInt8} (h : s ∈ putP name l p last) : s ∈ l ∨ s.length ≤ 2 ∨ s = enc p := by
  unfold putP at h
  split at h
  · split at h
    · rw [List.mem_append] at h
      rcases h with h | h
      · exact .inl (shorten_mem h)
      · simp at h; subst h; right; left; simp
    · exact .inl (shorten_mem h)
  · split at h
    · split at h
      · rw [List.mem_append] at h
        rcases h with h | h
        · exact .inl h
        · simp at h; subst h; right; left; simp
      · exact .inl h
    · split at h
      · rw [List.mem_append] at h
        rcases h with h | h
        · exact .inl h
        · simp at h; subst h; right; left; simp; omega
      · rw [List.mem_append] at h
        rcases h with h | h
        · exact .inl h
        · simp at h; exact .inr (.inr h)
end Go.Proofs.YtpahiipfmccbiaaDoor
