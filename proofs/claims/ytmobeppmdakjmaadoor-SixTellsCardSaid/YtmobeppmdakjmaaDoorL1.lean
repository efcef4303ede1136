/- Plain laws of addresses in parts: a text that is joined of parts has these parts; what numerals say; when parts say an address. -/
import Derived.Test.YtmobeppmdakjmaaDoorP2
import Derived.Test.YtmobeppmdakjmaaDoorP1
import Derived.Lib.ItoaNum
namespace Go.Proofs.YtmobeppmdakjmaaDoor

theorem splitC_free (c : UInt8) : ∀ (l cur : List UInt8), c ∉ l → splitC c cur l = [cur ++ l]
  | [], cur, _ => by simp [splitC]
  | a :: t, cur, h => by
    rw [splitC, if_neg (fun e => h (by simp [e])), splitC_free c t _ (fun e => h (by simp [e]))]
    simp
theorem splitC_app (c : UInt8) : ∀ (l cur r : List UInt8), c ∉ l → splitC c cur (l ++ c :: r) = (cur ++ l) :: splitC c [] r
  | [], cur, r, _ => by simp [splitC]
  | a :: t, cur, r, h => by
    rw [List.cons_append, splitC, if_neg (fun e => h (by simp [e])), splitC_app c t _ r (fun e => h (by simp [e]))]
    simp
theorem join_cons2 (x y : List UInt8) (r : List (List UInt8)) (c : UInt8) : Lib.join (x :: y :: r) [c] = x ++ c :: Lib.join (y :: r) [c] := by
  rw [Lib.join_cons, Lib.join_cons]
  simp [Lib.joinTail]
/-- A text that is joined of parts has these parts. -/
theorem splitC_join (c : UInt8) : ∀ (ps : List (List UInt8)), ps ≠ [] → (∀ p ∈ ps, c ∉ p) → splitC c [] (Lib.join ps [c]) = ps
  | [], h, _ => absurd rfl h
  | [p], _, hf => by rw [Lib.join_one, splitC_free c p [] (hf p (by simp))]; rfl
  | p :: q :: r, _, hf => by
    rw [join_cons2, splitC_app c p [] _ (hf p (by simp)), splitC_join c (q :: r) (by simp) (fun x hx => hf x (List.mem_cons_of_mem _ hx))]
    rfl
theorem splitC_snoc (c : UInt8) : ∀ (s cur : List UInt8), splitC c cur (s ++ [c]) = splitC c cur s ++ [[]]
  | [], cur => by simp [splitC]
  | a :: t, cur => by
    rw [List.cons_append, splitC, splitC]
    split
    · rw [splitC_snoc c t []]; rfl
    · rw [splitC_snoc c t]
theorem splitC_two (c : UInt8) : ∀ (a s cur : List UInt8), splitC c cur (a ++ c :: s) = splitC c cur a ++ splitC c [] s
  | [], s, cur => by simp [splitC]
  | b :: t, s, cur => by
    rw [List.cons_append, splitC, splitC]
    split
    · rw [splitC_two c t s []]; rfl
    · rw [splitC_two c t s]
theorem parts4_snoc (s : List UInt8) : parts4 (s ++ [46]) = splitD [] s := by
  have h : splitD [] (s ++ [46]) = splitD [] s ++ [[]] := by rw [← splitC_46, ← splitC_46, splitC_snoc]
  have hne : splitD [] s ≠ [] := by rw [← splitC_46]; exact splitC_ne 46 s []
  have hp : 0 < (splitD [] s).length := List.length_pos_iff.2 hne
  unfold parts4
  dsimp only
  rw [h, if_pos ⟨by simp; omega, by simp⟩]
  simp
/-- A last piece that is empty: the text ends in a point, or there is nothing behind the last one. -/
theorem splitC_last (c : UInt8) : ∀ (s cur : List UInt8), (splitC c cur s).getLast? = some [] → (s = [] ∧ cur = []) ∨ ∃ t, s = t ++ [c]
  | [], cur, h => by
    left
    simpa [splitC] using h
  | a :: t, cur, h => by
    right
    rw [splitC] at h
    split at h
    · rename_i e
      subst e
      have hne := splitC_ne a t []
      rw [List.getLast?_cons_of_ne_nil hne] at h
      rcases splitC_last a t [] h with ⟨rfl, _⟩ | ⟨u, rfl⟩
      · exact ⟨[], rfl⟩
      · exact ⟨a :: u, rfl⟩
    · rcases splitC_last c t _ h with ⟨_, h2⟩ | ⟨u, rfl⟩
      · simp at h2
      · exact ⟨a :: u, rfl⟩
/-- The text without a point at its end. -/
def trimDot (s : List UInt8) : List UInt8 := if s.getLast? = some 46 then s.dropLast else s
theorem parts4_trim (s : List UInt8) : parts4 s = splitD [] (trimDot s) := by
  unfold trimDot
  split
  · rename_i h
    obtain ⟨t, rfl⟩ : ∃ t, s = t ++ [46] := ⟨s.dropLast, by
      have hne : s ≠ [] := by rintro rfl; cases h
      rw [List.getLast?_eq_some_getLast hne] at h
      injection h with h
      have e := List.dropLast_concat_getLast hne
      rw [h] at e
      exact e.symm⟩
    rw [parts4_snoc]
    simp
  · rename_i h
    unfold parts4
    dsimp only
    rw [if_neg]
    rintro ⟨h1, h2⟩
    rw [← splitC_46] at h2
    rcases splitC_last 46 s [] h2 with ⟨rfl, _⟩ | ⟨t, rfl⟩
    · simp [splitD] at h1
    · exact h (by simp)
theorem trimDot_snoc (s : List UInt8) : trimDot (s ++ [46]) = s := by simp [trimDot]
theorem join_last : ∀ (ps : List (List UInt8)) (p : List UInt8), ps ≠ [] → ps.getLast? = some p → p ≠ [] → (Lib.join ps [46]).getLast? = p.getLast?
  | [], _, h, _, _ => absurd rfl h
  | [q], p, _, h, _ => by simp at h; subst h; rw [Lib.join_one]
  | q :: r :: t, p, _, h, hp => by
    rw [List.getLast?_cons_cons] at h
    have ih := join_last (r :: t) p (by simp) h hp
    rw [join_cons2, List.getLast?_append, List.getLast?_cons, ih]
    rw [List.getLast?_eq_some_getLast hp]
    rfl
theorem trimDot_join {ps : List (List UInt8)} {p : List UInt8} (hne : ps ≠ []) (h : ps.getLast? = some p) (hp : p ≠ []) (hf : ∀ p ∈ ps, (46 : UInt8) ∉ p) : trimDot (Lib.join ps [46]) = Lib.join ps [46] := by
  unfold trimDot
  rw [if_neg]
  rw [join_last ps p hne h hp]
  intro e
  exact hf p (List.mem_of_getLast? h) (List.mem_of_getLast? e)
/-- The parts of a text that is joined of parts, the last of which is not empty. -/
theorem parts4_join {ps : List (List UInt8)} {p : List UInt8} (hne : ps ≠ []) (h : ps.getLast? = some p) (hp : p ≠ []) (hf : ∀ p ∈ ps, (46 : UInt8) ∉ p) : parts4 (Lib.join ps [46]) = ps := by
  rw [parts4_trim, trimDot_join hne h hp hf, ← splitC_46, splitC_join 46 ps hne hf]

/-- Numerals of ten. -/
theorem worth_ofdig (d : Nat) (h : d < 10) : worth (UInt8.ofNat (48 + d)) = d := by
  have : ∀ d : Fin 10, worth (UInt8.ofNat (48 + d.1)) = d.1 := by decide +kernel
  exact this ⟨d, h⟩
theorem numB_app (b : Nat) : ∀ (l m : List UInt8) (n : Nat), numB b n (l ++ m) = numB b (numB b n l) m
  | [], _, _ => rfl
  | c :: t, m, n => by rw [List.cons_append, numB, numB, numB_app b t m]
theorem dec_num (n : Nat) : numB 10 0 (Lib.decDigits n) = n := by
  induction n using Nat.strongRecOn with
  | _ n ih =>
    rw [Lib.decDigits]
    by_cases h : n < 10
    · rw [dif_pos h, numB, numB, worth_ofdig n h]; omega
    · rw [dif_neg h, numB_app, ih (n / 10) (by omega), numB, numB, worth_ofdig _ (by omega)]; omega
theorem dec_digits (n : Nat) : digitsB 10 (Lib.decDigits n) = true := by
  induction n using Nat.strongRecOn with
  | _ n ih =>
    rw [Lib.decDigits]
    by_cases h : n < 10
    · rw [dif_pos h]
      unfold digitsB
      rw [List.all_cons, worth_ofdig n h, List.all_nil, decide_eq_true h]
      rfl
    · rw [dif_neg h]
      have := ih (n / 10) (by omega)
      unfold digitsB at this ⊢
      rw [List.all_append, this, List.all_cons, worth_ofdig (n % 10) (by omega), List.all_nil, decide_eq_true (show n % 10 < 10 by omega)]
      rfl
theorem dec_ne (n : Nat) : Lib.decDigits n ≠ [] := by
  rw [Lib.decDigits]
  split <;> simp
theorem digs_free {b : Nat} (hb : b ≤ 16) {l : List UInt8} (h : digitsB b l = true) (c : UInt8) (hc : 16 ≤ worth c) : c ∉ l := by
  intro hm
  unfold digitsB at h
  rw [List.all_eq_true] at h
  have := h c hm
  simp at this
  omega
theorem dec_free (n : Nat) : (46 : UInt8) ∉ Lib.decDigits n := digs_free (by decide) (dec_digits n) 46 (by decide)
theorem dec_head (n : Nat) : 0 < n → ∃ c t, Lib.decDigits n = c :: t ∧ c ≠ 48 := by
  induction n using Nat.strongRecOn with
  | _ n ih =>
    intro hp
    rw [Lib.decDigits]
    by_cases h : n < 10
    · rw [dif_pos h]
      refine ⟨_, [], rfl, ?_⟩
      intro e
      have := worth_ofdig n h
      rw [e, worth_nought] at this
      omega
    · rw [dif_neg h]
      obtain ⟨c, t, e, hc⟩ := ih (n / 10) (by omega) (by omega)
      exact ⟨c, t ++ [UInt8.ofNat (48 + n % 10)], by rw [e]; rfl, hc⟩
theorem base4_ten {c : UInt8} {t : List UInt8} (h : c ≠ 48) : base4 (c :: t) = (c :: t, 10) := by
  unfold base4
  split
  · rename_i e
    injection e with e1 _
    exact absurd e1 h
  · rfl
/-- What a numeral of ten says. -/
theorem number4_dec (n : Nat) : number4 (Lib.decDigits n) = some (min n 4294967296) := by
  have hb : base4 (Lib.decDigits n) = (Lib.decDigits n, 10) := by
    rcases Nat.eq_zero_or_pos n with rfl | hp
    · rw [Lib.decDigits, dif_pos (by decide)]; rfl
    · obtain ⟨c, t, e, hc⟩ := dec_head n hp
      rw [e, base4_ten hc]
  unfold number4
  rw [if_neg (dec_ne n), hb]
  simp only
  rw [if_pos (dec_digits n), dec_num]

/-- Parts say no address where one is none, or too great. -/
theorem addr4_none (n : Nat) : ∀ (ps : List (List UInt8)) (k out i : Nat) (p : List UInt8), ps[i]? = some p →
    (number4 p = none ∨ ∃ v, number4 p = some v ∧ (256 ≤ v ∧ i + 1 < ps.length ∨ 256 ^ (n - (k + i)) ≤ v ∧ i + 1 = ps.length)) → addr4 n k out ps = none
  | [], _, _, _, _, h, _ => by simp at h
  | [q], k, out, i, p, h, hb => by
    have hi : i = 0 := by
      have := (List.getElem?_eq_some_iff.1 h).1
      simp at this; omega
    subst hi
    simp at h
    subst h
    rw [addr4]
    rcases hb with h0 | ⟨v, h0, h1 | h1⟩
    · rw [h0]
    · simp at h1
    · rw [h0]
      simp only
      rw [if_neg (by simp at h1; omega)]
  | q :: r :: t, k, out, i, p, h, hb => by
    rw [addr4]
    cases i with
    | zero =>
      simp at h
      subst h
      rcases hb with h0 | ⟨v, h0, h1 | h1⟩
      · rw [h0]
      · rw [h0]
        simp only
        rw [if_neg (by omega)]
      · simp at h1
    | succ i =>
      have hrec : ∀ o, addr4 n (k + 1) o (r :: t) = none := fun o => by
        refine addr4_none n (r :: t) (k + 1) o i p (by simpa using h) ?_
        rcases hb with h0 | ⟨v, h0, h1⟩
        · exact .inl h0
        · refine .inr ⟨v, h0, ?_⟩
          have e : k + 1 + i = k + (i + 1) := by omega
          rw [e]
          simpa using h1
      split
      · split
        · exact hrec _
        · rfl
      · rfl
    · simp
/-- What parts say that are all in their bounds. -/
def sum4 (n : Nat) : Nat → Nat → List Nat → Nat
  | _, out, [] => out
  | k, out, [v] => out * 256 ^ (n - k) + v
  | k, out, v :: t => sum4 n (k + 1) (out * 256 + v) t
theorem addr4_some (n : Nat) : ∀ (ps : List (List UInt8)) (vs : List Nat) (k out : Nat), ps.length = vs.length → (∀ i p v, ps[i]? = some p → vs[i]? = some v → number4 p = some v ∧ (i + 1 < ps.length → v < 256) ∧ (i + 1 = ps.length → v < 256 ^ (n - (k + i)))) →
    addr4 n k out ps = some (sum4 n k out vs)
  | [], [], _, _, _, _ => rfl
  | [], _ :: _, _, _, h, _ => by simp at h
  | _ :: _, [], _, _, h, _ => by simp at h
  | [p], [v], k, out, _, h => by
    obtain ⟨h1, _, h2⟩ := h 0 p v rfl rfl
    have h2 := h2 rfl
    rw [addr4, h1]
    simp only [sum4]
    rw [if_pos (by simpa using h2)]
  | [_], _ :: _ :: _, _, _, h, _ => by simp at h
  | _ :: _ :: _, [_], _, _, h, _ => by simp at h
  | p :: q :: t, v :: u :: s, k, out, hl, h => by
    obtain ⟨h1, h2, _⟩ := h 0 p v rfl rfl
    have h2 := h2 (by simp)
    rw [addr4, h1]
    · simp only [sum4]
      rw [if_pos h2]
      refine addr4_some n (q :: t) (u :: s) (k + 1) _ (by simpa using hl) ?_
      intro i p' v' hp hv
      have := h (i + 1) p' v' (by simpa using hp) (by simpa using hv)
      have e : k + 1 + i = k + (i + 1) := by omega
      rw [e]
      simpa using this
    · simp
/-- No part says a number of which the text is none. -/
theorem parse4_join {ps : List (List UInt8)} {p : List UInt8} (hne : ps ≠ []) (h : ps.getLast? = some p) (hp : p ≠ []) (hf : ∀ p ∈ ps, (46 : UInt8) ∉ p) : parse4 (Lib.join ps [46]) = if 4 < ps.length then none else addr4 4 0 0 ps := by
  unfold parse4
  rw [parts4_join hne h hp hf]
#print axioms parse4_join
end Go.Proofs.YtmobeppmdakjmaaDoor
