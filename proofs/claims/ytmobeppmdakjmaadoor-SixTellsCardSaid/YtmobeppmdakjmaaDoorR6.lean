/- Plain: the reference's way to an address, byte by byte, says the same. No program in sight. -/
import Derived.Test.YtmobeppmdakjmaaDoorR5
namespace Go.Proofs.YtmobeppmdakjmaaDoor

/-- Up to k digits of sixteen that stand ahead, and what is left. -/
def take16 : Nat → List UInt8 → List UInt8 × List UInt8
  | 0, l => ([], l)
  | _ + 1, [] => ([], [])
  | k + 1, c :: t => if worth c < 16 then (c :: (take16 k t).1, (take16 k t).2) else ([], c :: t)
theorem take16_app : ∀ (k : Nat) (l : List UInt8), (take16 k l).1 ++ (take16 k l).2 = l
  | 0, _ => rfl
  | _ + 1, [] => rfl
  | k + 1, c :: t => by
    rw [take16]
    split
    · exact congrArg (c :: ·) (take16_app k t)
    · rfl
theorem take16_len : ∀ (k : Nat) (l : List UInt8), (take16 k l).1.length ≤ k
  | 0, _ => Nat.le_refl _
  | _ + 1, [] => Nat.zero_le _
  | k + 1, c :: t => by
    rw [take16]
    split
    · exact Nat.succ_le_succ (take16_len k t)
    · exact Nat.zero_le _
theorem take16_digits : ∀ (k : Nat) (l : List UInt8), digitsB 16 (take16 k l).1 = true
  | 0, _ => rfl
  | _ + 1, [] => rfl
  | k + 1, c :: t => by
    rw [take16]
    split
    · rename_i h
      have := take16_digits k t
      unfold digitsB at this ⊢
      rw [List.all_cons, this, decide_eq_true h]
      rfl
    · rfl
theorem take16_stop {e : UInt8} (he : 16 ≤ worth e) (r : List UInt8) : ∀ (k : Nat) (a : List UInt8), a.length ≤ k → digitsB 16 a = true → take16 k (a ++ e :: r) = (a, e :: r)
  | 0, a, h, _ => by
    have : a = [] := List.eq_nil_of_length_eq_zero (by omega)
    subst this
    rfl
  | k + 1, [], _, _ => by rw [List.nil_append, take16, if_neg (by omega)]
  | k + 1, c :: t, h, hd => by
    unfold digitsB at hd
    rw [List.all_cons, Bool.and_eq_true, decide_eq_true_eq] at hd
    rw [List.cons_append, take16, if_pos hd.1, take16_stop he r k t (by simpa using h) hd.2]
theorem take16_all : ∀ (k : Nat) (a : List UInt8), a.length ≤ k → digitsB 16 a = true → take16 k a = (a, [])
  | 0, a, h, _ => by
    have : a = [] := List.eq_nil_of_length_eq_zero (by omega)
    subst this
    rfl
  | k + 1, [], _, _ => rfl
  | k + 1, c :: t, h, hd => by
    unfold digitsB at hd
    rw [List.all_cons, Bool.and_eq_true, decide_eq_true_eq] at hd
    rw [take16, if_pos hd.1, take16_all k t (by simpa using h) hd.2]
/-- The reference's loop. -/
def refGo : Nat → List Nat → Option Nat → List UInt8 → Option (List Nat × Option Nat)
  | 0, acc, sh, _ => some (acc, sh)
  | _ + 1, acc, sh, [] => some (acc, sh)
  | f + 1, acc, sh, c :: t =>
    if acc.length = 8 then none
    else if c = 58 then (if sh.isSome = true then none else refGo f (acc ++ [0]) (some (acc.length + 1)) t)
    else match (take16 4 (c :: t)).2 with
      | [] => some (acc ++ [numB 16 0 (take16 4 (c :: t)).1], sh)
      | e :: r => if e = 46 then (if (take16 4 (c :: t)).1 = [] ∨ 6 < acc.length then none else match inner6 (c :: t) with
          | some q => some (acc ++ q, sh)
          | none => none)
        else if e = 58 then (if r = [] then none else refGo f (acc ++ [numB 16 0 (take16 4 (c :: t)).1]) sh r)
        else none
theorem take16_rest {k : Nat} {l r : List UInt8} {e : UInt8} (h : (take16 k l).2 = e :: r) : r.length + 1 ≤ l.length := by
  have := congrArg List.length (take16_app k l)
  rw [h, List.length_append, List.length_cons] at this
  omega
theorem refGo_fuel : ∀ (f g : Nat) (acc : List Nat) (sh : Option Nat) (l : List UInt8), l.length ≤ f → l.length ≤ g → refGo f acc sh l = refGo g acc sh l
  | 0, 0, _, _, _, _, _ => rfl
  | 0, _ + 1, _, _, l, h, _ => by
    have : l = [] := List.eq_nil_of_length_eq_zero (by omega)
    subst this
    rfl
  | _ + 1, 0, _, _, l, _, h => by
    have : l = [] := List.eq_nil_of_length_eq_zero (by omega)
    subst this
    rfl
  | _ + 1, _ + 1, _, _, [], _, _ => rfl
  | f + 1, g + 1, acc, sh, c :: t, h1, h2 => by
    simp only [List.length_cons] at h1 h2
    rw [refGo, refGo, refGo_fuel f g (acc ++ [0]) (some (acc.length + 1)) t (by omega) (by omega)]
    cases hr : (take16 4 (c :: t)).2 with
    | nil => rfl
    | cons e r =>
      have := take16_rest hr
      simp only [List.length_cons] at this
      simp only [refGo_fuel f g (acc ++ [numB 16 0 (take16 4 (c :: t)).1]) sh r (by omega) (by omega)]
def refRun (acc : List Nat) (sh : Option Nat) (l : List UInt8) : Option (List Nat × Option Nat) := refGo l.length acc sh l
theorem refRun_nil (acc : List Nat) (sh : Option Nat) : refRun acc sh [] = some (acc, sh) := rfl
theorem refRun_cons (acc : List Nat) (sh : Option Nat) (c : UInt8) (t : List UInt8) : refRun acc sh (c :: t) =
    if acc.length = 8 then none
    else if c = 58 then (if sh.isSome = true then none else refRun (acc ++ [0]) (some (acc.length + 1)) t)
    else match (take16 4 (c :: t)).2 with
      | [] => some (acc ++ [numB 16 0 (take16 4 (c :: t)).1], sh)
      | e :: r => if e = 46 then (if (take16 4 (c :: t)).1 = [] ∨ 6 < acc.length then none else match inner6 (c :: t) with
          | some q => some (acc ++ q, sh)
          | none => none)
        else if e = 58 then (if r = [] then none else refRun (acc ++ [numB 16 0 (take16 4 (c :: t)).1]) sh r)
        else none := by
  unfold refRun
  rw [List.length_cons, refGo]
  cases hr : (take16 4 (c :: t)).2 with
  | nil => rfl
  | cons e r =>
    have := take16_rest hr
    simp only [List.length_cons] at this
    simp only [refGo_fuel t.length r.length (acc ++ [numB 16 0 (take16 4 (c :: t)).1]) sh r (by omega) (Nat.le_refl _)]
/-- What the reference lays out of it. -/
def finish6 : Option (List Nat × Option Nat) → Option (List Nat)
  | some (acc, some i) => some (acc.take i ++ List.replicate (8 - acc.length) 0 ++ acc.drop i)
  | some (acc, none) => if acc.length = 8 then some acc else none
  | none => none
def refParse6 : List UInt8 → Option (List Nat)
  | [] => finish6 (refRun [] none [])
  | c :: t => if c = 58 then (if t.head? = some 58 then finish6 (refRun [0] (some 1) t.tail) else none) else finish6 (refRun [] none (c :: t))

theorem inner6_head {l : List UInt8} {q : List Nat} (h : inner6 l = some q) : q.length = 2 ∧ ∃ a r, l = a ++ 46 :: r ∧ a ≠ [] ∧ a.length ≤ 3 ∧ digitsB 16 a = true := by
  have hj := join_split 46 l []
  rw [List.nil_append] at hj
  unfold inner6 at h
  split at h
  · rename_i a b c d hs
    rw [hs, join_cons2] at hj
    split at h
    · rename_i h1 _ _ _
      injection h with h
      refine ⟨by rw [← h]; rfl, a, _, hj.symm, ?_⟩
      unfold dig4 at h1
      split at h1
      · rename_i hc
        refine ⟨hc.1, hc.2.1, ?_⟩
        have h10 := hc.2.2.1
        unfold digitsB at h10 ⊢
        rw [List.all_eq_true] at h10 ⊢
        intro x hx
        have := h10 x hx
        simp only [decide_eq_true_eq] at this ⊢
        omega
      · cases h1
    · cases h
  · cases h
theorem piece6_is {p : List UInt8} {n : Nat} (h : piece6 p = some n) : p ≠ [] ∧ p.length ≤ 4 ∧ digitsB 16 p = true ∧ n = numB 16 0 p := by
  unfold piece6 at h
  split at h
  · rename_i hc
    injection h with h
    exact ⟨hc.1, hc.2.1, hc.2.2, h.symm⟩
  · cases h
theorem piece6_of {p : List UInt8} (h1 : p ≠ []) (h2 : p.length ≤ 4) (h3 : digitsB 16 p = true) : piece6 p = some (numB 16 0 p) := by
  unfold piece6
  rw [if_pos ⟨h1, h2, h3⟩]
/-- The last piece. -/
theorem ref_last {acc : List Nat} (ha : acc.length < 8) (sh : Option Nat) {l : List UInt8} (hl : l ≠ []) (hf : (58 : UInt8) ∉ l) : refRun acc sh l = match inner6 l with
    | some q => if 6 < acc.length then none else some (acc ++ q, sh)
    | none => match piece6 l with
      | some n => some (acc ++ [n], sh)
      | none => none := by
  obtain ⟨c, t, rfl⟩ : ∃ c t, l = c :: t := by
    cases l with
    | nil => exact absurd rfl hl
    | cons c t => exact ⟨c, t, rfl⟩
  have hc : c ≠ 58 := fun e => hf (by rw [e]; exact List.mem_cons_self ..)
  rw [refRun_cons, if_neg (by omega), if_neg hc]
  cases hi : inner6 (c :: t) with
  | some q =>
    obtain ⟨_, a, r, e, h1, h2, h3⟩ := inner6_head hi
    have ht : take16 4 (c :: t) = (a, 46 :: r) := by rw [e]; exact take16_stop (by decide) r 4 a (by omega) h3
    rw [ht]
    simp only [if_true, h1, false_or]
  | none =>
    cases hp : piece6 (c :: t) with
    | some n =>
      obtain ⟨_, h2, h3, h4⟩ := piece6_is hp
      rw [take16_all 4 _ h2 h3, h4]
    | none =>
      have happ := take16_app 4 (c :: t)
      cases hr : (take16 4 (c :: t)).2 with
      | nil =>
        exfalso
        rw [hr, List.append_nil] at happ
        have h2 := take16_len 4 (c :: t)
        have h3 := take16_digits 4 (c :: t)
        rw [happ] at h2 h3
        rw [piece6_of hl h2 h3] at hp
        cases hp
      | cons e r =>
        have h58 : e ≠ 58 := by
          rintro rfl
          apply hf
          rw [← happ, hr]
          exact List.mem_append_right _ (List.mem_cons_self ..)
        simp only [if_neg h58, ite_self]
theorem inner6_colon {l : List UInt8} (h : (58 : UInt8) ∈ l) : inner6 l = none := by
  cases hi : inner6 l with
  | none => rfl
  | some q =>
    have := (inner6_fine hi).2 58 h
    exact absurd this (by decide)
theorem app_first {c : UInt8} : ∀ {a b r s : List UInt8}, c ∉ a → c ∉ b → a ++ c :: r = b ++ c :: s → a = b ∧ r = s
  | [], [], r, s, _, _, h => ⟨rfl, by simpa using h⟩
  | [], y :: b, r, s, _, hb, h => by
    simp only [List.nil_append, List.cons_append, List.cons.injEq] at h
    exact absurd (by rw [h.1]; exact List.mem_cons_self ..) hb
  | x :: a, [], r, s, ha, _, h => by
    simp only [List.nil_append, List.cons_append, List.cons.injEq] at h
    exact absurd (by rw [← h.1]; exact List.mem_cons_self ..) ha
  | x :: a, y :: b, r, s, ha, hb, h => by
    simp only [List.cons_append, List.cons.injEq] at h
    have := app_first (fun e => ha (List.mem_cons_of_mem _ e)) (fun e => hb (List.mem_cons_of_mem _ e)) h.2
    exact ⟨by rw [h.1, this.1], this.2⟩
/-- A piece with a colon behind. -/
theorem ref_piece {acc : List Nat} (ha : acc.length < 8) (sh : Option Nat) {p r : List UInt8} (hl : p ≠ []) (hf : (58 : UInt8) ∉ p) : refRun acc sh (p ++ 58 :: r) = match piece6 p with
    | some n => if r = [] then none else refRun (acc ++ [n]) sh r
    | none => none := by
  obtain ⟨c, t, rfl⟩ : ∃ c t, p = c :: t := by
    cases p with
    | nil => exact absurd rfl hl
    | cons c t => exact ⟨c, t, rfl⟩
  have hc : c ≠ 58 := fun e => hf (by rw [e]; exact List.mem_cons_self ..)
  rw [List.cons_append, refRun_cons, if_neg (by omega), if_neg hc, ← List.cons_append]
  cases hp : piece6 (c :: t) with
  | some n =>
    obtain ⟨_, h2, h3, h4⟩ := piece6_is hp
    rw [take16_stop (by decide) r 4 (c :: t) h2 h3, h4]
    rfl
  | none =>
    have happ := take16_app 4 (c :: t ++ 58 :: r)
    have h2 := take16_len 4 (c :: t ++ 58 :: r)
    have h3 := take16_digits 4 (c :: t ++ 58 :: r)
    have hin : inner6 (c :: t ++ 58 :: r) = none := inner6_colon (List.mem_append_right _ (List.mem_cons_self ..))
    rw [hin]
    cases hr : (take16 4 (c :: t ++ 58 :: r)).2 with
    | nil =>
      exfalso
      rw [hr, List.append_nil] at happ
      rw [happ] at h3
      exact digs_free (by decide) h3 58 (by decide) (List.mem_append_right _ (List.mem_cons_self ..))
    | cons e s =>
      rw [hr] at happ
      by_cases h58 : e = 58
      · exfalso
        subst h58
        have := app_first (digs_free (by decide) h3 58 (by decide)) hf happ
        rw [this.1] at h2 h3
        rw [piece6_of hl h2 h3] at hp
        cases hp
      · simp only [if_neg h58, ite_self]
theorem first_colon : ∀ l : List UInt8, (58 : UInt8) ∉ l ∨ ∃ p r, l = p ++ 58 :: r ∧ (58 : UInt8) ∉ p
  | [] => .inl (by simp)
  | c :: t => by
    by_cases hc : c = 58
    · exact .inr ⟨[], t, by rw [hc]; rfl, by simp⟩
    · rcases first_colon t with h | ⟨p, r, rfl, h⟩
      · exact .inl (fun hm => by
          rcases List.mem_cons.1 hm with e | e
          · exact hc e.symm
          · exact h e)
      · exact .inr ⟨c :: p, r, rfl, fun hm => by
          rcases List.mem_cons.1 hm with e | e
          · exact hc e.symm
          · exact h e⟩
theorem pieces6_pos {last : Bool} : ∀ {P : List (List UInt8)} {l : List Nat}, P ≠ [] → pieces6 last P = some l → 1 ≤ l.length
  | [], _, h, _ => absurd rfl h
  | p :: P, l, _, h => by
    rw [pieces6] at h
    split at h
    · rename_i m hm
      split at hm
      · injection h with h
        rw [← h, (inner6_head hm).1]
        decide
      · cases hm
    · split at h
      · injection h with h
        rw [← h]
        simp
      · cases h
theorem piecesOf_pos {last : Bool} {s : List UInt8} {l : List Nat} (hs : s ≠ []) (h : piecesOf last s = some l) : 1 ≤ l.length := by
  unfold piecesOf at h
  rw [if_neg hs] at h
  exact pieces6_pos (splitC_ne 58 s []) h
theorem piecesOf_one (last : Bool) {l : List UInt8} (hl : l ≠ []) (hf : (58 : UInt8) ∉ l) : piecesOf last l = match (if last = true then inner6 l else none) with
    | some q => some q
    | none => match piece6 l with
      | some n => some [n]
      | none => none := by
  unfold piecesOf
  rw [if_neg hl, splitC_free 58 l [] hf, List.nil_append, pieces6]
  simp only [and_true]
  cases (if last = true then inner6 l else none) with
  | some q => rfl
  | none => cases piece6 l <;> rfl
theorem piecesOf_more (last : Bool) {p r : List UInt8} (hf : (58 : UInt8) ∉ p) : piecesOf last (p ++ 58 :: r) = match piece6 p, pieces6 last (splitC 58 [] r) with
    | some n, some q => some (n :: q)
    | _, _ => none := by
  unfold piecesOf
  rw [if_neg (by simp), splitC_app 58 p [] r hf, List.nil_append, pieces6, if_neg (fun e => splitC_ne 58 r [] e.2)]
  rfl
theorem pieces_split (last : Bool) {r : List UInt8} (hr : r ≠ []) : pieces6 last (splitC 58 [] r) = piecesOf last r := by
  unfold piecesOf
  rw [if_neg hr]
theorem pieces6_void (last : Bool) : pieces6 last (splitC 58 [] []) = none := by cases last <;> decide
theorem piecesOf_colon (last : Bool) (t : List UInt8) : piecesOf last (58 :: t) = none := by
  have := piecesOf_more last (p := []) (r := t) (by simp)
  rw [List.nil_append] at this
  rw [this]
  rfl
theorem ref_behind : ∀ (n : Nat) (l : List UInt8) (acc : List Nat) (i : Nat), l.length ≤ n → acc.length ≤ 8 → refRun acc (some i) l = match piecesOf true l with
    | some q => if acc.length + q.length ≤ 8 then some (acc ++ q, some i) else none
    | none => none
  | n, [], acc, i, _, ha => by
    rw [refRun_nil]
    show _ = if acc.length + 0 ≤ 8 then some (acc ++ [], some i) else none
    rw [if_pos (by omega), List.append_nil]
  | 0, _ :: _, _, _, h, _ => by simp at h
  | n + 1, c :: t, acc, i, h, ha => by
    by_cases h8 : acc.length = 8
    · have e : refRun acc (some i) (c :: t) = none := by rw [refRun_cons, if_pos h8]
      rw [e]
      cases hp : piecesOf true (c :: t) with
      | none => rfl
      | some q =>
        have := piecesOf_pos (by simp) hp
        simp only
        rw [if_neg (by omega)]
    by_cases hc : c = 58
    · subst hc
      rw [piecesOf_colon, refRun_cons, if_neg h8, if_pos rfl]
      rfl
    rcases first_colon (c :: t) with hf | ⟨p, r, e, hf⟩
    · rw [ref_last (by omega) (some i) (by simp) hf, piecesOf_one true (by simp) hf]
      simp only [if_true]
      cases hi : inner6 (c :: t) with
      | some q =>
        have := (inner6_head hi).1
        simp only
        by_cases h6 : 6 < acc.length
        · rw [if_pos h6, if_neg (by omega)]
        · rw [if_neg h6, if_pos (by omega)]
      | none =>
        simp only
        cases piece6 (c :: t) with
        | none => rfl
        | some m =>
          simp only [List.length_cons, List.length_nil]
          rw [if_pos (by omega)]
    · have hp : p ≠ [] := by
        rintro rfl
        simp only [List.nil_append, List.cons.injEq] at e
        exact hc e.1
      rw [e, ref_piece (by omega) (some i) hp hf, piecesOf_more true hf]
      have hlen := congrArg List.length e
      simp only [List.length_append, List.length_cons] at hlen h
      cases hq : piece6 p with
      | none => rfl
      | some m =>
        simp only
        by_cases hr : r = []
        · subst hr
          rw [if_pos rfl, pieces6_void]
        · rw [if_neg hr, pieces_split true hr, ref_behind n r (acc ++ [m]) i (by omega) (by rw [List.length_append, List.length_cons, List.length_nil]; omega)]
          cases piecesOf true r with
          | none => rfl
          | some q =>
            simp only [List.length_append, List.length_cons, List.length_nil]
            by_cases h9 : acc.length + (0 + 1) + q.length ≤ 8
            · rw [if_pos h9, if_pos (by omega), List.append_assoc]
              rfl
            · rw [if_neg h9, if_neg (by omega)]
theorem ref_ahead : ∀ (n : Nat) (l : List UInt8) (acc : List Nat), l.length ≤ n → l ≠ [] → l.head? ≠ some 58 → acc.length ≤ 8 → refRun acc none l = match (cut6 l).2 with
    | none => (match piecesOf true (cut6 l).1 with
      | some a => if acc.length + a.length ≤ 8 then some (acc ++ a, none) else none
      | none => none)
    | some t => (match piecesOf false (cut6 l).1, piecesOf true t with
      | some a, some b => if acc.length + a.length + 1 + b.length ≤ 8 then some (acc ++ a ++ [0] ++ b, some (acc.length + a.length + 1)) else none
      | _, _ => none)
  | 0, l, acc, h, hl, _, _ => absurd (List.eq_nil_of_length_eq_zero (by omega)) hl
  | n + 1, l, acc, h, hl, hh, ha => by
    obtain ⟨c, t, rfl⟩ : ∃ c t, l = c :: t := by
      cases l with
      | nil => exact absurd rfl hl
      | cons c t => exact ⟨c, t, rfl⟩
    have hc : c ≠ 58 := by simpa using hh
    have hcn : (cut6 (c :: t)).1 ≠ [] := by rw [cut6, if_neg (fun e => hc e.1)]; simp
    by_cases h8 : acc.length = 8
    · have e : refRun acc none (c :: t) = none := by rw [refRun_cons, if_pos h8]
      rw [e]
      cases (cut6 (c :: t)).2 with
      | none =>
        simp only
        cases hp : piecesOf true (cut6 (c :: t)).1 with
        | none => rfl
        | some q =>
          have := piecesOf_pos hcn hp
          simp only
          rw [if_neg (by omega)]
      | some u =>
        simp only
        cases piecesOf false (cut6 (c :: t)).1 with
        | none => rfl
        | some q =>
          cases piecesOf true u with
          | none => rfl
          | some b =>
            simp only
            rw [if_neg (by omega)]
    rcases first_colon (c :: t) with hf | ⟨p, r, e, hf⟩
    · have hcut := cut6_free [] (c :: t) hf
      rw [List.append_nil] at hcut
      have e1 : (cut6 (c :: t)).1 = c :: t := by rw [hcut]; show c :: t ++ [] = _; rw [List.append_nil]
      have e2 : (cut6 (c :: t)).2 = none := by rw [hcut]; rfl
      rw [e2, e1, ref_last (by omega) none (by simp) hf, piecesOf_one true (by simp) hf]
      simp only [if_true]
      cases hi : inner6 (c :: t) with
      | some q =>
        have := (inner6_head hi).1
        simp only
        by_cases h6 : 6 < acc.length
        · rw [if_pos h6, if_neg (by omega)]
        · rw [if_neg h6, if_pos (by omega)]
      | none =>
        simp only
        cases piece6 (c :: t) with
        | none => rfl
        | some m =>
          simp only [List.length_cons, List.length_nil]
          rw [if_pos (by omega)]
    · have hp : p ≠ [] := by
        rintro rfl
        simp only [List.nil_append, List.cons.injEq] at e
        exact hc e.1
      have hlen := congrArg List.length e
      simp only [List.length_append, List.length_cons] at hlen h
      have hcut := cut6_free (58 :: r) p hf
      rw [e, ref_piece (by omega) none hp hf, hcut]
      cases r with
      | nil =>
        have e1 : cut6 [58] = ([58], none) := rfl
        rw [e1]
        simp only
        rw [piecesOf_more true hf, pieces6_void]
        cases piece6 p <;> rfl
      | cons d r =>
        by_cases hd : d = 58
        · subst hd
          have e1 : cut6 (58 :: 58 :: r) = ([], some r) := by rw [cut6, if_pos ⟨rfl, rfl⟩]; rfl
          rw [e1]
          simp only [List.append_nil]
          rw [piecesOf_one false hp hf]
          simp only [Bool.false_eq_true, if_false]
          cases hq : piece6 p with
          | none => rfl
          | some m =>
            simp only
            rw [if_neg (by simp), refRun_cons]
            by_cases h7 : (acc ++ [m]).length = 8
            · rw [if_pos h7]
              rw [List.length_append, List.length_cons, List.length_nil] at h7
              cases piecesOf true r with
              | none => rfl
              | some b =>
                simp only [List.length_cons, List.length_nil]
                rw [if_neg (by omega)]
            · rw [if_neg h7, if_pos rfl, if_neg (by simp)]
              rw [List.length_append, List.length_cons, List.length_nil] at h7
              rw [ref_behind r.length r _ _ (Nat.le_refl _) (by simp only [List.length_append, List.length_cons, List.length_nil]; omega)]
              cases piecesOf true r with
              | none => rfl
              | some b =>
                simp only [List.length_append, List.length_cons, List.length_nil]
        · have e1 := cut6_colon (r := d :: r) (by simpa using hd)
          rw [e1]
          have hrn : (cut6 (d :: r)).1 ≠ [] := by rw [cut6, if_neg (fun e => hd e.1)]; simp
          simp only
          rw [piecesOf_more true hf, piecesOf_more false hf, pieces_split true hrn, pieces_split false hrn]
          cases hq : piece6 p with
          | none =>
            cases (cut6 (d :: r)).2 <;> rfl
          | some m =>
            simp only
            rw [if_neg (by simp), ref_ahead n (d :: r) (acc ++ [m]) (by simp only [List.length_cons] at hlen ⊢; omega) (by simp) (by simpa using hd) (by rw [List.length_append, List.length_cons, List.length_nil]; omega)]
            cases (cut6 (d :: r)).2 with
            | none =>
              simp only
              cases piecesOf true (cut6 (d :: r)).1 with
              | none => rfl
              | some a =>
                simp only [List.length_append, List.length_cons, List.length_nil]
                by_cases h9 : acc.length + (0 + 1) + a.length ≤ 8
                · rw [if_pos h9, if_pos (by omega), List.append_assoc]
                  rfl
                · rw [if_neg h9, if_neg (by omega)]
            | some u =>
              simp only
              cases piecesOf false (cut6 (d :: r)).1 with
              | none => rfl
              | some a =>
                cases piecesOf true u with
                | none => rfl
                | some b =>
                  simp only [List.length_append, List.length_cons, List.length_nil]
                  by_cases h9 : acc.length + (0 + 1) + a.length + 1 + b.length ≤ 8
                  · rw [if_pos h9, if_pos (by omega)]
                    simp only [List.append_assoc, List.cons_append, List.nil_append]
                    congr 3
                    omega
                  · rw [if_neg h9, if_neg (by omega)]
/-- The reference says the same. -/
theorem refParse6_is (s : List UInt8) : refParse6 s = parse6 s := by
  cases s with
  | nil => decide
  | cons c t =>
    rw [refParse6]
    by_cases hc : c = 58
    · subst hc
      rw [if_pos rfl]
      by_cases ht : t.head? = some 58
      · obtain ⟨r, rfl⟩ : ∃ r, t = 58 :: r := by
          cases t with
          | nil => cases ht
          | cons d r =>
            simp only [List.head?_cons, Option.some.injEq] at ht
            exact ⟨r, by rw [ht]⟩
        rw [if_pos ht, List.tail_cons, ref_behind r.length r [0] 1 (Nat.le_refl _) (by simp)]
        have e1 : cut6 (58 :: 58 :: r) = ([], some r) := by rw [cut6, if_pos ⟨rfl, rfl⟩]; rfl
        unfold parse6
        rw [e1]
        simp only
        rw [show piecesOf false [] = some [] from rfl]
        cases piecesOf true r with
        | none => rfl
        | some b =>
          simp only [List.length_cons, List.length_nil]
          by_cases h9 : 0 + 1 + b.length ≤ 8
          · rw [if_pos h9, if_pos (by omega)]
            unfold finish6
            simp only [List.cons_append, List.nil_append, List.length_cons, List.take_succ_cons, List.take_zero, List.drop_succ_cons, List.drop_zero]
            have e2 : 8 - (0 + b.length) = (8 - (b.length + 1)) + 1 := by omega
            rw [e2, List.replicate_succ]
            rfl
          · rw [if_neg h9, if_neg (by omega)]
            rfl
      · rw [if_neg ht]
        unfold parse6
        rw [cut6_colon ht]
        cases (cut6 t).2 with
        | none =>
          simp only
          rw [piecesOf_colon]
        | some u =>
          simp only
          rw [piecesOf_colon]
    · rw [if_neg hc, ref_ahead (c :: t).length (c :: t) [] (Nat.le_refl _) (by simp) (by simpa using hc) (by simp)]
      unfold parse6
      obtain ⟨a, b⟩ := cut6 (c :: t)
      cases b with
      | none =>
        simp only
        cases piecesOf true a with
        | none => rfl
        | some q =>
          simp only [List.length_nil, List.nil_append]
          by_cases h8 : q.length = 8
          · rw [if_pos (by omega), if_pos h8]
            unfold finish6
            simp only [if_pos h8]
          · rw [if_neg h8]
            by_cases h9 : 0 + q.length ≤ 8
            · rw [if_pos h9]
              unfold finish6
              simp only [if_neg h8]
            · rw [if_neg h9]
              rfl
      | some u =>
        simp only
        cases piecesOf false a with
        | none => rfl
        | some q =>
          cases piecesOf true u with
          | none => rfl
          | some b =>
            simp only [List.length_nil, List.nil_append]
            by_cases h9 : 0 + q.length + 1 + b.length ≤ 8
            · rw [if_pos h9, if_pos (by omega)]
              unfold finish6
              simp only
              congr 1
              have h1 : (q ++ [0] ++ b).take (0 + q.length + 1) = q ++ [0] := List.take_left' (by simp)
              have h2 : (q ++ [0] ++ b).drop (0 + q.length + 1) = b := List.drop_left' (by simp)
              rw [h1, h2]
              have e2 : 8 - (q.length + b.length) = (8 - (q ++ [0] ++ b).length) + 1 := by simp; omega
              rw [e2, List.replicate_succ]
              simp
            · rw [if_neg h9, if_neg (by omega)]
              rfl
#print axioms refParse6_is
end Go.Proofs.YtmobeppmdakjmaaDoor
