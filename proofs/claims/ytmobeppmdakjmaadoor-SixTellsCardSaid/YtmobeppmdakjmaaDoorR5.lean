/- Plain: texts that say no address; what a text that says one is made of. No program in sight. -/
import Derived.Test.YtmobeppmdakjmaaDoorR4
namespace Go.Proofs.YtmobeppmdakjmaaDoor

theorem pieces6_bad (last : Bool) : ∀ (P : List (List UInt8)) (p : List UInt8), p ∈ P → piece6 p = none → inner6 p = none → pieces6 last P = none
  | [], _, h, _, _ => by cases h
  | q :: P, p, h, h1, h2 => by
    by_cases he : q = p
    · subst he
      have hi : (if last = true ∧ P = [] then inner6 q else none) = none := by
        split
        · exact h2
        · rfl
      rw [pieces6, hi]
      simp only [h1]
    · have hm : p ∈ P := by
        rcases List.mem_cons.1 h with h | h
        · exact absurd h.symm he
        · exact h
      have hP : P ≠ [] := by rintro rfl; cases hm
      rw [pieces6, if_neg (fun e => hP e.2), pieces6_bad last P p hm h1 h2]
      cases piece6 q <;> rfl
theorem parse6_join_none {P : List (List UInt8)} (h : Good P) (hp : ∀ l, pieces6 true P = some l → l.length ≠ 8) : parse6 (Lib.join P [58]) = none := by
  unfold parse6
  rw [cut_join h]
  show (match piecesOf true (Lib.join P [58]) with | some a => if a.length = 8 then some a else none | none => none) = none
  rw [piecesOf_join true h]
  cases hq : pieces6 true P with
  | none => rfl
  | some l => exact if_neg (hp l hq)
theorem parse6_cut_none {s h : List UInt8} (hc : cut6 s = (h, none)) (hn : h ≠ []) {p : List UInt8} (hp : p ∈ splitC 58 [] h) (h1 : piece6 p = none) (h2 : inner6 p = none) : parse6 s = none := by
  unfold parse6
  rw [hc]
  show (match piecesOf true h with | some a => if a.length = 8 then some a else none | none => none) = none
  have : piecesOf true h = none := by
    unfold piecesOf
    rw [if_neg hn]
    exact pieces6_bad true _ p hp h1 h2
  rw [this]
theorem parse6_gap_none {P Q : List (List UInt8)} {l m : List Nat} (h : Good P) (g : Good Q) (hp : pieces6 false P = some l) (hq : pieces6 true Q = some m) (h8 : 8 ≤ l.length + m.length) : parse6 (Lib.join P [58] ++ [58, 58] ++ Lib.join Q [58]) = none := by
  unfold parse6
  rw [cut_gap h]
  show (match piecesOf false (Lib.join P [58]), piecesOf true (Lib.join Q [58]) with | some a, some b => if a.length + b.length ≤ 7 then some (a ++ List.replicate (8 - (a.length + b.length)) 0 ++ b) else none | _, _ => none) = none
  rw [piecesOf_join false h, piecesOf_join true g, hp, hq]
  exact if_neg (by omega)
theorem piece6_nil : piece6 [] = none := rfl
theorem inner6_nil : inner6 [] = none := by decide
/-- The whole. -/
theorem whole_good {x : List Nat} (_h8 : x.length = 8) (hx : ∀ n ∈ x, n < 65536) : Good (full6 [] x) := full6_good [] hx
theorem whole_ne {x : List Nat} (h8 : x.length = 8) (_hx : ∀ n ∈ x, n < 65536) : full6 [] x ≠ [] := by intro e; have := full6_len [] x; rw [e, h8] at this; cases this
section
variable {x : List Nat} (h8 : x.length = 8) (hx : ∀ n ∈ x, n < 65536)
include h8 hx
theorem whole_cons : ∃ p P, full6 [] x = p :: P ∧ p ≠ [] ∧ (58 : UInt8) ∉ p := by
  cases hf : full6 [] x with
  | nil => exact absurd hf (whole_ne h8 hx)
  | cons p P =>
    have := whole_good h8 hx p (by rw [hf]; exact List.mem_cons_self ..)
    exact ⟨p, P, rfl, this⟩
theorem wrong_behind : parse6 (Lib.join (full6 [] x) [58] ++ [58]) = none := by
  have hg := whole_good h8 hx
  have hc := cut6_join [58] _ hg
  rw [show cut6 [58] = ([58], none) from rfl] at hc
  refine parse6_cut_none hc (by simp) (p := []) ?_ piece6_nil inner6_nil
  rw [splitC_snoc]
  simp
theorem wrong_ahead : parse6 (58 :: Lib.join (full6 [] x) [58]) = none := by
  have hg := whole_good h8 hx
  obtain ⟨p, P, e, hp⟩ := whole_cons h8 hx
  have hh : (Lib.join (full6 [] x) [58]).head? ≠ some 58 := by
    have := head_join (P := P) hp []
    rwa [List.append_nil, ← e] at this
  have hc := cut6_colon hh
  rw [cut_join hg] at hc
  refine parse6_cut_none hc (by simp) (p := []) ?_ piece6_nil inner6_nil
  rw [splitC, if_pos rfl]
  exact List.mem_cons_self ..
theorem wrong_more : parse6 (Lib.join (full6 [] x) [58] ++ [58, 49]) = none := by
  have hm := full6_map [] hx
  have e : Lib.join (full6 [] x) [58] ++ [58, 49] = Lib.join (full6 [] x ++ [[49]]) [58] := by
    obtain ⟨p, P, hf, _⟩ := whole_cons h8 hx
    have key : ∀ (P : List (List UInt8)), P ≠ [] → Lib.join P [58] ++ [58, 49] = Lib.join (P ++ [[49]]) [58] := by
      intro P
      induction P with
      | nil => intro h; exact absurd rfl h
      | cons q P ih =>
        intro _
        cases P with
        | nil => simp [Lib.join]
        | cons r P =>
          have := ih (by simp)
          rw [List.cons_append] at this
          rw [join_cons2, List.cons_append, List.cons_append, join_cons2, ← this]
          simp
    exact key _ (whole_ne h8 hx)
  rw [e]
  have hm9 : (full6 [] x ++ [[49]]).map piece6 = (x ++ [1]).map some := by
    rw [List.map_append, hm, List.map_append]
    congr 1
  refine parse6_join_none (good_of_map hm9) (fun l hl => ?_)
  rw [pieces6_map true _ _ hm9] at hl
  injection hl with hl
  rw [← hl, List.length_append, h8]
  decide
theorem wrong_gap_behind : parse6 (Lib.join (full6 [] x) [58] ++ [58, 58]) = none := by
  have hm := full6_map [] hx
  have := parse6_gap_none (P := full6 [] x) (Q := []) (m := []) (whole_good h8 hx) (fun p hp => by cases hp) (pieces6_map false _ _ hm) rfl (by rw [h8]; simp)
  rw [join_nil, List.append_nil] at this
  exact this
theorem wrong_gap_ahead : parse6 ([58, 58] ++ Lib.join (full6 [] x) [58]) = none := by
  have hm := full6_map [] hx
  have := parse6_gap_none (P := []) (Q := full6 [] x) (l := []) (fun p hp => by cases hp) (whole_good h8 hx) rfl (pieces6_map true _ _ hm) (by rw [h8]; simp)
  rw [join_nil, List.nil_append] at this
  exact this
theorem wrong_set {p : List UInt8} (hp : p ≠ [] ∧ (58 : UInt8) ∉ p) (h1 : piece6 p = none) (h2 : inner6 p = none) {k : Nat} (hk : k < 8) : parse6 (Lib.join ((full6 [] x).set k p) [58]) = none := by
  have hl := full6_len [] x
  refine parse6_join_none (fun q hq => ?_) (fun l hl => ?_)
  · rcases List.mem_or_eq_of_mem_set hq with h | rfl
    · exact whole_good h8 hx q h
    · exact hp
  · rw [pieces6_bad true _ p (List.mem_of_getElem? (by rw [List.getElem?_set_self (by omega)])) h1 h2] at hl
    cases hl
theorem wrong_less {k : Nat} (hk : k < 8) : parse6 (Lib.join ((full6 [] x).take k ++ (full6 [] x).drop (k + 1)) [58]) = none := by
  have hm := full6_map [] hx
  have hm7 : ((full6 [] x).take k ++ (full6 [] x).drop (k + 1)).map piece6 = (x.take k ++ x.drop (k + 1)).map some := by
    rw [List.map_append, map_take hm, map_drop hm, List.map_append]
  refine parse6_join_none (good_of_map hm7) (fun l hl => ?_)
  rw [pieces6_map true _ _ hm7] at hl
  injection hl with hl
  rw [← hl, List.length_append, List.length_take, List.length_drop, h8]
  omega
end
/-- Five digits. -/
def fiveOf (h : List UInt8) : List UInt8 := [48] ++ List.replicate (4 - h.length) 48 ++ h
theorem fiveOf_bad {n : Nat} (hn : n < 65536) : (fiveOf (hexOf n) ≠ [] ∧ (58 : UInt8) ∉ fiveOf (hexOf n)) ∧ piece6 (fiveOf (hexOf n)) = none ∧ inner6 (fiveOf (hexOf n)) = none := by
  have hl := hex_len4 hn
  have hd : digitsB 16 (fiveOf (hexOf n)) = true := by
    unfold fiveOf
    rw [digits_app, digits_app, digits_noughts 16 (by decide), hexOf_digits]
    rfl
  refine ⟨⟨by simp [fiveOf], digs_free (by decide) hd 58 (by decide)⟩, ?_, inner6_free (digs_free (by decide) hd 46 (by decide))⟩
  unfold piece6
  rw [if_neg]
  rintro ⟨_, h4, _⟩
  unfold fiveOf at h4
  simp only [List.length_append, List.length_replicate, List.length_cons, List.length_nil] at h4
  omega
def hexSet : List UInt8 := [48, 49, 50, 51, 52, 53, 54, 55, 56, 57, 97, 98, 99, 100, 101, 102, 65, 66, 67, 68, 69, 70, 58]
theorem odd_bad (c : UInt8) (h : Lib.indexByte hexSet c < 0) : ([c] ≠ [] ∧ (58 : UInt8) ∉ [c]) ∧ piece6 [c] = none ∧ inner6 [c] = none := by
  have key : ∀ n : Fin 256, Lib.indexByte hexSet (UInt8.ofNat n.1) < 0 → ([UInt8.ofNat n.1] ≠ [] ∧ (58 : UInt8) ∉ [UInt8.ofNat n.1]) ∧ piece6 [UInt8.ofNat n.1] = none ∧ inner6 [UInt8.ofNat n.1] = none := by decide +kernel
  have := key ⟨c.toNat, c.toNat_lt⟩
  simp only [UInt8.ofNat_toNat] at this
  exact this h

/-- A text's pieces, joined again. -/
theorem join_split (c : UInt8) : ∀ (l cur : List UInt8), Lib.join (splitC c cur l) [c] = cur ++ l
  | [], cur => by rw [splitC, Lib.join_one, List.append_nil]
  | a :: t, cur => by
    rw [splitC]
    split
    · rename_i e
      subst e
      have ih := join_split a t []
      cases hs : splitC a [] t with
      | nil => exact absurd hs (splitC_ne a t [])
      | cons y r =>
        rw [hs] at ih
        rw [join_cons2, ih, List.nil_append]
    · rw [join_split c t (cur ++ [a])]
      simp
theorem split_free (c : UInt8) : ∀ (l cur : List UInt8), c ∉ cur → ∀ p ∈ splitC c cur l, c ∉ p
  | [], cur, h, p, hp => by
    rw [splitC, List.mem_singleton] at hp
    rw [hp]; exact h
  | a :: t, cur, h, p, hp => by
    rw [splitC] at hp
    split at hp
    · rcases List.mem_cons.1 hp with rfl | hp
      · exact h
      · exact split_free c t [] (by simp) p hp
    · rename_i e
      refine split_free c t (cur ++ [a]) (fun hm => ?_) p hp
      rcases List.mem_append.1 hm with hm | hm
      · exact h hm
      · exact e (List.mem_singleton.1 hm).symm
/-- The bytes of pieces. -/
def Fine (p : List UInt8) : Prop := ∀ c ∈ p, worth c < 16 ∨ c = 46
theorem fine_digits {b : Nat} (hb : b ≤ 16) {p : List UInt8} (h : digitsB b p = true) : Fine p := by
  intro c hc
  unfold digitsB at h
  rw [List.all_eq_true] at h
  have := h c hc
  simp only [decide_eq_true_eq] at this
  exact .inl (by omega)
theorem piece6_fine {p : List UInt8} {n : Nat} (h : piece6 p = some n) : p ≠ [] ∧ Fine p := by
  unfold piece6 at h
  split at h
  · rename_i hc
    exact ⟨hc.1, fine_digits (by decide) hc.2.2⟩
  · cases h
theorem dig4_fine {p : List UInt8} {n : Nat} (h : dig4 p = some n) : Fine p := by
  unfold dig4 at h
  split at h
  · rename_i hc
    exact fine_digits (by decide) hc.2.2.1
  · cases h
theorem mem_join (c : UInt8) : ∀ (P : List (List UInt8)) (d : UInt8), d ∈ Lib.join P [c] → d = c ∨ ∃ p ∈ P, d ∈ p
  | [], d, h => by cases h
  | [p], d, h => by
    rw [Lib.join_one] at h
    exact .inr ⟨p, List.mem_cons_self .., h⟩
  | p :: q :: P, d, h => by
    rw [join_cons2] at h
    rcases List.mem_append.1 h with h | h
    · exact .inr ⟨p, List.mem_cons_self .., h⟩
    · rcases List.mem_cons.1 h with h | h
      · exact .inl h
      · rcases mem_join c (q :: P) d h with h | ⟨r, hr, h⟩
        · exact .inl h
        · exact .inr ⟨r, List.mem_cons_of_mem _ hr, h⟩
theorem inner6_fine {p : List UInt8} {l : List Nat} (h : inner6 p = some l) : p ≠ [] ∧ Fine p := by
  refine ⟨?_, ?_⟩
  · rintro rfl
    rw [inner6_nil] at h
    cases h
  · intro c hc
    have hj := join_split 46 p []
    rw [List.nil_append] at hj
    rw [← hj] at hc
    unfold inner6 at h
    split at h
    · rename_i a b d e hs
      rw [hs] at hc
      split at h
      · rename_i h1 h2 h3 h4
        rcases mem_join 46 _ c hc with hc | ⟨q, hq, hcq⟩
        · exact .inr hc
        · clear hc
          simp only [List.mem_cons, List.not_mem_nil, or_false] at hq
          rcases hq with e1 | e1 | e1 | e1
          · exact dig4_fine h1 c (e1 ▸ hcq)
          · exact dig4_fine h2 c (e1 ▸ hcq)
          · exact dig4_fine h3 c (e1 ▸ hcq)
          · exact dig4_fine h4 c (e1 ▸ hcq)
      · cases h
    · cases h
theorem pieces6_fine (last : Bool) : ∀ (P : List (List UInt8)) (l : List Nat), pieces6 last P = some l → ∀ p ∈ P, p ≠ [] ∧ Fine p
  | [], _, _, p, hp => by cases hp
  | q :: P, l, h, p, hp => by
    rw [pieces6] at h
    split at h
    · rename_i m hm
      split at hm
      · rename_i hc
        rw [hc.2] at hp
        rw [List.mem_singleton.1 hp]
        exact inner6_fine hm
      · cases hm
    · split at h
      · rename_i n r h1 h2
        rcases List.mem_cons.1 hp with rfl | hp
        · exact piece6_fine h1
        · exact pieces6_fine last P r h2 p hp
      · cases h
theorem piecesOf_fine {last : Bool} {s : List UInt8} {l : List Nat} (h : piecesOf last s = some l) : ∃ P, Good P ∧ (∀ p ∈ P, Fine p) ∧ s = Lib.join P [58] := by
  unfold piecesOf at h
  split at h
  · rename_i hs
    exact ⟨[], (fun p hp => absurd hp (by simp)), (fun p hp => absurd hp (by simp)), hs⟩
  · have hf := pieces6_fine last _ _ h
    exact ⟨splitC 58 [] s, fun p hp => ⟨(hf p hp).1, split_free 58 s [] (by simp) p hp⟩, fun p hp => (hf p hp).2, by rw [join_split, List.nil_append]⟩
theorem cut6_is : ∀ (s : List UInt8), s = (match (cut6 s).2 with
    | none => (cut6 s).1
    | some t => (cut6 s).1 ++ [58, 58] ++ t)
  | [] => rfl
  | c :: t => by
    have ih := cut6_is t
    by_cases h : c = 58 ∧ t.head? = some 58
    · rw [cut6, if_pos h]
      obtain ⟨rfl, h⟩ := h
      cases t with
      | nil => cases h
      | cons d r =>
        simp only [List.head?_cons, Option.some.injEq] at h
        subst h
        rfl
    · rw [cut6, if_neg h]
      revert ih
      cases (cut6 t).2 with
      | none => exact fun ih => congrArg (c :: ·) ih
      | some u => exact fun ih => congrArg (c :: ·) ih
/-- What a text that says an address is made of. -/
theorem parse6_made {s : List UInt8} {l : List Nat} (h : parse6 s = some l) : ∃ P, Good P ∧ (∀ p ∈ P, Fine p) ∧ (s = Lib.join P [58] ∨ ∃ Q, Good Q ∧ (∀ p ∈ Q, Fine p) ∧ s = Lib.join P [58] ++ [58, 58] ++ Lib.join Q [58]) := by
  have hs := cut6_is s
  unfold parse6 at h
  generalize cut6 s = ab at h hs
  obtain ⟨a, b⟩ := ab
  cases b with
  | none =>
    simp only at h hs
    split at h
    · rename_i r hr
      obtain ⟨P, h1, h2, h3⟩ := piecesOf_fine hr
      exact ⟨P, h1, h2, .inl (by rw [hs]; exact h3)⟩
    · cases h
  | some t =>
    simp only at h hs
    split at h
    · rename_i r q hr hq
      obtain ⟨P, h1, h2, h3⟩ := piecesOf_fine hr
      obtain ⟨Q, g1, g2, g3⟩ := piecesOf_fine hq
      exact ⟨P, h1, h2, .inr ⟨Q, g1, g2, by rw [hs, h3, g3]⟩⟩
    · cases h
/-- No three colons in a row. -/
def NoTrip : List UInt8 → Prop
  | [] => True
  | c :: t => ¬ (c = 58 ∧ t.head? = some 58 ∧ t.tail.head? = some 58) ∧ NoTrip t
theorem noTrip_free (z : List UInt8) (hz : NoTrip z) : ∀ p : List UInt8, (58 : UInt8) ∉ p → NoTrip (p ++ z)
  | [], _ => hz
  | c :: t, h => ⟨fun e => h (by rw [e.1]; exact List.mem_cons_self ..), noTrip_free z hz t (fun e => h (List.mem_cons_of_mem _ e))⟩
theorem noTrip_join (z : List UInt8) (hz : NoTrip z) : ∀ P : List (List UInt8), Good P → NoTrip (Lib.join P [58] ++ z)
  | [], _ => hz
  | [p], h => by
    rw [Lib.join_one]
    exact noTrip_free z hz p (h p (List.mem_cons_self ..)).2
  | p :: q :: P, h => by
    have hr := noTrip_join z hz (q :: P) (fun x hx => h x (List.mem_cons_of_mem _ hx))
    rw [join_cons2, List.append_assoc]
    refine noTrip_free _ ?_ p (h p (List.mem_cons_self ..)).2
    rw [List.cons_append]
    exact ⟨fun e => head_join (h q (by simp)) z e.2.1, hr⟩
theorem noTrip_gap {Q : List (List UInt8)} (g : Good Q) : NoTrip ([58, 58] ++ Lib.join Q [58]) := by
  have h0 := noTrip_join [] trivial Q g
  rw [List.append_nil] at h0
  have hh : (Lib.join Q [58]).head? ≠ some 58 := by
    cases Q with
    | nil => rw [join_nil]; simp
    | cons p P =>
      have := head_join (P := P) (g p (List.mem_cons_self ..)) []
      rwa [List.append_nil] at this
  exact ⟨fun e => hh e.2.2, fun e => hh e.2.1, h0⟩
theorem noTrip_index : ∀ s : List UInt8, NoTrip s → Lib.index s [58, 58, 58] = -1
  | [], _ => rfl
  | c :: t, h => by
    have ih := noTrip_index t h.2
    rw [Lib.index, if_neg, ih]
    · rfl
    · intro hp
      apply h.1
      cases t with
      | nil => simp [List.isPrefixOf] at hp
      | cons d s =>
        cases s with
        | nil => simp [List.isPrefixOf] at hp
        | cons e r =>
          simp only [List.isPrefixOf, Bool.and_eq_true, beq_iff_eq] at hp
          exact ⟨hp.1.symm, by rw [← hp.2.1]; rfl, by rw [← hp.2.2.1]; rfl⟩
def fineSet : List UInt8 := [48, 49, 50, 51, 52, 53, 54, 55, 56, 57, 97, 98, 99, 100, 101, 102, 65, 66, 67, 68, 69, 70, 58, 46]
theorem fine_set (c : UInt8) (h : worth c < 16 ∨ c = 46 ∨ c = 58) : fineSet.contains c = true := by
  have key : ∀ n : Fin 256, (worth (UInt8.ofNat n.1) < 16 ∨ UInt8.ofNat n.1 = 46 ∨ UInt8.ofNat n.1 = 58) → fineSet.contains (UInt8.ofNat n.1) = true := by decide +kernel
  have := key ⟨c.toNat, c.toNat_lt⟩
  simp only [UInt8.ofNat_toNat] at this
  exact this h
/-- What is read has none but digits, colons and points, one gap at most, and no three colons. -/
theorem parse6_fine {s : List UInt8} {l : List Nat} (h : parse6 s = some l) : Lib.trimS s fineSet = [] ∧ Lib.count s [58, 58] ≤ 1 ∧ Lib.contains s [58, 58, 58] = false := by
  have hin : ∀ P : List (List UInt8), (∀ p ∈ P, Fine p) → ∀ c ∈ Lib.join P [58], fineSet.contains c = true := by
    intro P hP c hc
    rcases mem_join 58 P c hc with hc | ⟨p, hp, hc⟩
    · exact fine_set c (.inr (.inr hc))
    · rcases hP p hp c hc with h | h
      · exact fine_set c (.inl h)
      · exact fine_set c (.inr (.inl h))
  obtain ⟨P, h1, h2, rfl | ⟨Q, g1, g2, rfl⟩⟩ := parse6_made h
  · refine ⟨(trimS_all _ _).2 (List.all_eq_true.2 (hin P h2)), by rw [count_join h1]; exact Nat.zero_le _, ?_⟩
    have := noTrip_join [] trivial P h1
    rw [List.append_nil] at this
    unfold Lib.contains
    rw [noTrip_index _ this]
    decide
  · refine ⟨(trimS_all _ _).2 (List.all_eq_true.2 (fun c hc => ?_)), by rw [count_gap h1 g1]; exact Nat.le_refl _, ?_⟩
    · rcases List.mem_append.1 hc with hc | hc
      · rcases List.mem_append.1 hc with hc | hc
        · exact hin P h2 c hc
        · simp only [List.mem_cons, List.not_mem_nil, or_false, or_self] at hc
          rw [hc]; decide
      · exact hin Q g2 c hc
    · have := noTrip_join _ (noTrip_gap g1) P h1
      rw [← List.append_assoc] at this
      unfold Lib.contains
      rw [noTrip_index _ this]
      decide
#print axioms parse6_fine
#print axioms wrong_set
#print axioms odd_bad
end Go.Proofs.YtmobeppmdakjmaaDoor
