/- Plain law: a walk's bounds. -/
import Derived.Test.YtpahiipfmccbiaaDoorP3
namespace Go.Proofs.YtpahiipfmccbiaaDoor

theorem walkGo_len (name : List UInt8) (sp : Bool) : ∀ (rs cur : List Int) (l : List (List UInt8)), (walkGo name sp cur rs l).length ≤ l.length + rs.length + 1
  | [], cur, l => by rw [walkGo]; have := putP_len name l cur true; simpa using this
  | r :: t, cur, l => by
    rw [walkGo]
    split
    · have h1 := walkGo_len name sp t [] (putP name l cur false)
      have h2 := putP_len name l cur false
      simp only [List.length_cons]
      omega
    · have h1 := walkGo_len name sp t (cur ++ [r]) l
      simp only [List.length_cons]
      omega
theorem walk_len (name : List UInt8) (l : List (List UInt8)) (t : List Int) : (walk name l t).length ≤ l.length + t.length + 1 := walkGo_len _ _ _ _ _
theorem putP_mem2 {name : List UInt8} {l : List (List UInt8)} {p : List Int} {last : Bool} {s : List UInt8} {m : Nat} (hl : ∀ s ∈ l, s.length ≤ m) (he : (enc p).length ≤ m) (h2 : 2 ≤ m) (h : s ∈ putP name l p last) : s.length ≤ m := by
  rcases putP_mem h with h | h | h
  · exact hl _ h
  · omega
  · subst h; exact he
/-- A bound on each code point's code. -/
theorem walkGo_mem (name : List UInt8) (sp : Bool) (m : Nat) (h2 : 2 ≤ m) : ∀ (rs cur : List Int) (l : List (List UInt8)), (∀ s ∈ l, s.length ≤ m) → (enc cur).length + (enc rs).length ≤ m → ∀ s ∈ walkGo name sp cur rs l, s.length ≤ m
  | [], cur, l, hl, he, s, h => by
    rw [walkGo] at h
    exact putP_mem2 hl (by omega) h2 h
  | r :: t, cur, l, hl, he, s, h => by
    have e1 : (enc (r :: t)).length = (enc [r]).length + (enc t).length := by simp [enc]
    have e2 : (enc (cur ++ [r])).length = (enc cur).length + (enc [r]).length := by simp [enc]
    rw [walkGo] at h
    split at h
    · refine walkGo_mem name sp m h2 t [] _ (fun s hs => putP_mem2 hl (by omega) h2 hs) ?_ s h
      have : (enc []).length = 0 := rfl
      omega
    · exact walkGo_mem name sp m h2 t _ l hl (by omega) s h
end Go.Proofs.YtpahiipfmccbiaaDoor
