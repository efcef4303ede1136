/- Plain: what texts that are made of pieces say. No program in sight. Plain: the run of noughts; what is shown is read as that address, in upper case too. No program in sight. -/
import Derived.Test.YtmobeppmdakjmaaDoorQ7
import Derived.Test.YtmobeppmdakjmaaDoorQ9
import Derived.Test.YtmobeppmdakjmaaDoorQ2
import Derived.Lib.Case
namespace Go.Proofs.YtmobeppmdakjmaaDoor

theorem piece6_free {p : List UInt8} {n : Nat} (h : piece6 p = some n) : p ≠ [] ∧ (58 : UInt8) ∉ p ∧ (46 : UInt8) ∉ p := by
  unfold piece6 at h
  split at h
  · rename_i hc
    exact ⟨hc.1, digs_free (by decide) hc.2.2 58 (by decide), digs_free (by decide) hc.2.2 46 (by decide)⟩
  · cases h
theorem inner6_free {p : List UInt8} (h : (46 : UInt8) ∉ p) : inner6 p = none := inner_len (by rw [splitC_free 46 p [] h]; simp)
theorem pieces6_map (last : Bool) : ∀ (P : List (List UInt8)) (l : List Nat), P.map piece6 = l.map some → pieces6 last P = some l
  | [], [], _ => rfl
  | [], _ :: _, h => by cases h
  | _ :: _, [], h => by cases h
  | p :: P, n :: l, h => by
    simp only [List.map_cons, List.cons.injEq] at h
    have hi : (if last = true ∧ P = [] then inner6 p else none) = none := by
      split
      · exact inner6_free (piece6_free h.1).2.2
      · rfl
    rw [pieces6, hi]
    simp only [h.1, pieces6_map last P l h.2]
theorem pieces6_tail {tail : List UInt8} {ab : List Nat} (hi : inner6 tail = some ab) : ∀ (P : List (List UInt8)) (l : List Nat), P.map piece6 = l.map some → pieces6 true (P ++ [tail]) = some (l ++ ab)
  | [], [], _ => by
    rw [List.nil_append, pieces6]
    simp [hi]
  | [], _ :: _, h => by cases h
  | _ :: _, [], h => by cases h
  | p :: P, n :: l, h => by
    simp only [List.map_cons, List.cons.injEq] at h
    have hn : (if true = true ∧ P ++ [tail] = [] then inner6 p else none) = none := if_neg (fun h => by simp at h)
    rw [List.cons_append, pieces6, hn]
    simp only [h.1, pieces6_tail hi P l h.2]
    rfl
/-- Parts that may stand between colons. -/
def Good (P : List (List UInt8)) : Prop := ∀ p ∈ P, p ≠ [] ∧ (58 : UInt8) ∉ p
theorem good_of_map : ∀ {P : List (List UInt8)} {l : List Nat}, P.map piece6 = l.map some → Good P
  | [], _, _ => fun _ h => by cases h
  | p :: P, [], h => by cases h
  | p :: P, n :: l, h => by
    simp only [List.map_cons, List.cons.injEq] at h
    intro q hq
    rcases List.mem_cons.1 hq with rfl | hq
    · exact ⟨(piece6_free h.1).1, (piece6_free h.1).2.1⟩
    · exact good_of_map h.2 q hq
theorem Good.snoc {P : List (List UInt8)} (h : Good P) {t : List UInt8} (ht : t ≠ [] ∧ (58 : UInt8) ∉ t) : Good (P ++ [t]) := by
  intro q hq
  rcases List.mem_append.1 hq with hq | hq
  · exact h q hq
  · rw [List.mem_singleton.1 hq]; exact ht
theorem join_nil : Lib.join ([] : List (List UInt8)) [58] = [] := rfl
theorem join_ne {p : List UInt8} {P : List (List UInt8)} (hp : p ≠ []) : Lib.join (p :: P) [58] ≠ [] := by
  cases P with
  | nil => simpa [Lib.join] using hp
  | cons y r => rw [join_cons2]; simp [hp]
theorem piecesOf_join (last : Bool) {P : List (List UInt8)} (h : Good P) : piecesOf last (Lib.join P [58]) = pieces6 last P := by
  cases P with
  | nil => rfl
  | cons p P =>
    unfold piecesOf
    rw [if_neg (join_ne (h p (List.mem_cons_self ..)).1), splitC_join 58 _ (by simp) (fun q hq => (h q hq).2)]
theorem cut6_free (z : List UInt8) : ∀ (p : List UInt8), (58 : UInt8) ∉ p → cut6 (p ++ z) = (p ++ (cut6 z).1, (cut6 z).2)
  | [], _ => rfl
  | c :: t, h => by
    have h1 : c ≠ 58 := fun e => h (by rw [e]; exact List.mem_cons_self ..)
    have h2 := cut6_free z t (fun e => h (List.mem_cons_of_mem _ e))
    rw [List.cons_append, cut6, if_neg (fun e => h1 e.1), h2]
    rfl
theorem cut6_colon {r : List UInt8} (h : r.head? ≠ some 58) : cut6 (58 :: r) = (58 :: (cut6 r).1, (cut6 r).2) := by
  rw [cut6, if_neg (fun e => h e.2)]
theorem head_join {p : List UInt8} {P : List (List UInt8)} (hp : p ≠ [] ∧ (58 : UInt8) ∉ p) (z : List UInt8) : (Lib.join (p :: P) [58] ++ z).head? ≠ some 58 := by
  obtain ⟨c, t, rfl⟩ : ∃ c t, p = c :: t := by
    cases p with
    | nil => exact absurd rfl hp.1
    | cons c t => exact ⟨c, t, rfl⟩
  have hc : c ≠ 58 := fun e => hp.2 (by rw [e]; exact List.mem_cons_self ..)
  cases P with
  | nil => simpa [Lib.join] using hc
  | cons y r => rw [join_cons2]; simpa using hc
theorem cut6_join (z : List UInt8) : ∀ (P : List (List UInt8)), Good P → cut6 (Lib.join P [58] ++ z) = (Lib.join P [58] ++ (cut6 z).1, (cut6 z).2)
  | [], _ => rfl
  | [p], h => by
    have h1 : Lib.join [p] [58] = p := by simp [Lib.join]
    rw [h1]
    exact cut6_free z p (h p (List.mem_cons_self ..)).2
  | p :: q :: P, h => by
    have hr := cut6_join z (q :: P) (fun x hx => h x (List.mem_cons_of_mem _ hx))
    rw [join_cons2, List.append_assoc, cut6_free _ p (h p (List.mem_cons_self ..)).2, List.cons_append, cut6_colon (head_join (h q (by simp)) z), hr]
    simp
/-- Eight pieces say their address. -/
theorem parse6_parts {P : List (List UInt8)} {l : List Nat} (h : Good P) (hp : pieces6 true P = some l) (h8 : l.length = 8) : parse6 (Lib.join P [58]) = some l := by
  have hc := cut6_join [] P h
  rw [List.append_nil] at hc
  unfold parse6
  rw [hc]
  show (match piecesOf true (Lib.join P [58] ++ (cut6 []).1) with | some a => if a.length = 8 then some a else none | none => none) = some l
  rw [show (cut6 []).1 = [] from rfl, List.append_nil, piecesOf_join true h, hp]
  exact if_pos h8
/-- Pieces with a gap say their address. -/
theorem parse6_gap {P Q : List (List UInt8)} {l m : List Nat} (h : Good P) (g : Good Q) (hp : pieces6 false P = some l) (hq : pieces6 true Q = some m) (h7 : l.length + m.length ≤ 7) :
    parse6 (Lib.join P [58] ++ [58, 58] ++ Lib.join Q [58]) = some (l ++ List.replicate (8 - (l.length + m.length)) 0 ++ m) := by
  have hc := cut6_join (58 :: 58 :: Lib.join Q [58]) P h
  have hz : cut6 (58 :: 58 :: Lib.join Q [58]) = ([], some (Lib.join Q [58])) := by
    rw [cut6, if_pos ⟨rfl, rfl⟩]
    rfl
  rw [hz, List.append_nil] at hc
  unfold parse6
  rw [List.append_assoc]
  show (match cut6 (Lib.join P [58] ++ (58 :: 58 :: Lib.join Q [58])) with | (h, none) => _ | (h, some t) => _) = _
  rw [hc]
  show (match piecesOf false (Lib.join P [58]), piecesOf true (Lib.join Q [58]) with | some a, some b => if a.length + b.length ≤ 7 then some (a ++ List.replicate (8 - (a.length + b.length)) 0 ++ b) else none | _, _ => none) = _
  rw [piecesOf_join false h, piecesOf_join true g, hp, hq]
  exact if_pos h7
#print axioms parse6_gap
end Go.Proofs.YtmobeppmdakjmaaDoor
namespace Go.Proofs.YtmobeppmdakjmaaDoor

/-- What is found among the places ahead of i. -/
def Best (x : List Nat) (i : Nat) (am : Nat × Nat) : Prop :=
  (am = (0, 0) ∨ (2 ≤ am.2 ∧ am.1 < i ∧ noughts (x.drop am.1) = am.2)) ∧ ∀ j, j < i → 1 < noughts (x.drop j) → noughts (x.drop j) < am.2 ∨ (noughts (x.drop j) = am.2 ∧ am.1 ≤ j)
theorem runFrom_best (x : List Nat) : ∀ (d i : Nat) (am : Nat × Nat), d + i = x.length → Best x i am → Best x x.length (runFrom i am (x.drop i))
  | 0, i, am, h, hb => by
    have hi : i = x.length := by omega
    subst hi
    rw [List.drop_length]
    exact hb
  | d + 1, i, am, h, hb => by
    rw [runFrom_drop (by omega)]
    refine runFrom_best x d (i + 1) _ (by omega) ?_
    by_cases hc : am.2 < noughts (x.drop i) ∧ 1 < noughts (x.drop i)
    · rw [if_pos hc]
      refine ⟨.inr ⟨hc.2, Nat.lt_succ_self i, rfl⟩, fun j hj h1 => ?_⟩
      rcases Nat.lt_succ_iff_lt_or_eq.1 hj with h2 | rfl
      · rcases hb.2 j h2 h1 with h3 | h3
        · exact .inl (Nat.lt_trans h3 hc.1)
        · exact .inl (by show _ < noughts (x.drop i); omega)
      · exact .inr ⟨rfl, Nat.le_refl _⟩
    · rw [if_neg hc]
      refine ⟨?_, fun j hj h1 => ?_⟩
      · rcases hb.1 with h2 | ⟨h2, h3, h4⟩
        · exact .inl h2
        · exact .inr ⟨h2, Nat.lt_succ_of_lt h3, h4⟩
      · rcases Nat.lt_succ_iff_lt_or_eq.1 hj with h2 | rfl
        · exact hb.2 j h2 h1
        · have hle : noughts (x.drop j) ≤ am.2 := by
            rcases Nat.lt_or_ge am.2 (noughts (x.drop j)) with h3 | h3
            · exact absurd ⟨h3, h1⟩ hc
            · exact h3
          rcases Nat.lt_or_ge (noughts (x.drop j)) am.2 with h3 | h3
          · exact .inl h3
          · refine .inr ⟨by omega, ?_⟩
            rcases hb.1 with h4 | ⟨_, h5, _⟩
            · rw [h4] at hle
              simp only at hle
              omega
            · omega
theorem run6_best (x : List Nat) : Best x x.length (run6 x) := by
  have := runFrom_best x x.length 0 (0, 0) (by omega) ⟨.inl rfl, fun j hj _ => absurd hj (Nat.not_lt_zero j)⟩
  rwa [List.drop_zero] at this
theorem noughts_split : ∀ l : List Nat, l = List.replicate (noughts l) 0 ++ l.drop (noughts l)
  | [] => rfl
  | n :: t => by
    by_cases h : n = 0
    · rw [noughts_cons_zero h, List.replicate_succ, List.cons_append, List.drop_succ_cons, ← noughts_split t, h]
    · rw [noughts_cons_ne h]
      rfl
theorem run6_split (x : List Nat) : x.take (run6 x).1 ++ List.replicate (run6 x).2 0 ++ x.drop ((run6 x).1 + (run6 x).2) = x := by
  rcases (run6_best x).1 with h | ⟨_, _, h⟩
  · rw [h]; simp
  · have h1 := noughts_split (x.drop (run6 x).1)
    rw [h, List.drop_drop] at h1
    rw [List.append_assoc, ← h1, List.take_append_drop]
theorem digs16_len : ∀ (k n : Nat), n < 16 ^ (k + 1) → (digs 14 n).length ≤ k + 1
  | k, n, h => by
    by_cases hs : n < 14 + 2
    · rw [digs_small hs]; simp
    · cases k with
      | zero => simp at h; omega
      | succ k =>
        rw [digs_big hs, List.length_append]
        rw [Nat.pow_succ] at h
        have := digs16_len k (n / (14 + 2)) (by omega)
        simp only [List.length_cons, List.length_nil]
        omega
theorem piece6_hex {n : Nat} (h : n < 65536) : piece6 (hexOf n) = some n := by
  unfold piece6 hexOf
  rw [if_pos ⟨digs_ne 14 n, digs16_len 3 n (by omega), digs_digits 14 (by omega) n⟩]
  exact congrArg some (digs_num 14 (by omega) n)
/-- In upper case. -/
def up (s : List UInt8) : List UInt8 := s.map Lib.upperB
theorem worth_up (c : UInt8) (h : worth c < 16) : worth (Lib.upperB c) = worth c := by
  have hall : ∀ d : Fin 256, worth (UInt8.ofNat d.1) < 16 → worth (Lib.upperB (UInt8.ofNat d.1)) = worth (UInt8.ofNat d.1) := by decide +kernel
  have := hall ⟨c.toNat, c.toNat_lt⟩
  simp only [UInt8.ofNat_toNat] at this
  exact this h
theorem numB_up (b : Nat) : ∀ (l : List UInt8) (n : Nat), digitsB 16 l = true → numB b n (up l) = numB b n l
  | [], _, _ => rfl
  | c :: t, n, h => by
    unfold digitsB at h
    rw [List.all_cons, Bool.and_eq_true, decide_eq_true_eq] at h
    show numB b n (Lib.upperB c :: up t) = _
    rw [numB, numB, worth_up c h.1, numB_up b t _ h.2]
theorem digits_up : ∀ (l : List UInt8), digitsB 16 l = true → digitsB 16 (up l) = true
  | [], _ => rfl
  | c :: t, h => by
    unfold digitsB at h
    rw [List.all_cons, Bool.and_eq_true, decide_eq_true_eq] at h
    have := digits_up t h.2
    unfold digitsB at this ⊢
    show (Lib.upperB c :: up t).all _ = true
    rw [List.all_cons, this, Bool.and_true, decide_eq_true_eq, worth_up c h.1]
    exact h.1
theorem piece6_up {p : List UInt8} {n : Nat} (h : piece6 p = some n) : piece6 (up p) = some n := by
  unfold piece6 at h ⊢
  split at h
  · rename_i hc
    have h1 : up p ≠ [] := by unfold up; simpa using hc.1
    have h2 : (up p).length ≤ 4 := by unfold up; rw [List.length_map]; exact hc.2.1
    rw [if_pos ⟨h1, h2, digits_up p hc.2.2⟩, numB_up 16 p 0 hc.2.2]
    exact h
  · cases h
theorem up_join : ∀ (P : List (List UInt8)), up (Lib.join P [58]) = Lib.join (P.map up) [58]
  | [] => rfl
  | [p] => by simp [Lib.join]
  | p :: q :: P => by
    have h := up_join (q :: P)
    rw [join_cons2, List.map_cons, List.map_cons, join_cons2, ← List.map_cons, ← h]
    unfold up
    rw [List.map_append, List.map_cons]
    rfl
theorem hex_map {x : List Nat} (hx : ∀ n ∈ x, n < 65536) : (x.map hexOf).map piece6 = x.map some := by
  rw [List.map_map]
  exact List.map_congr_left fun n hn => piece6_hex (hx n hn)
theorem hexup_map {x : List Nat} (hx : ∀ n ∈ x, n < 65536) : ((x.map hexOf).map up).map piece6 = x.map some := by
  rw [List.map_map, List.map_map]
  exact List.map_congr_left fun n hn => piece6_up (piece6_hex (hx n hn))
theorem run6_gap {x : List Nat} (h8 : x.length = 8) (h0 : (run6 x).2 ≠ 0) :
    (x.take (run6 x).1).length + (x.drop ((run6 x).1 + (run6 x).2)).length ≤ 7 ∧
    x.take (run6 x).1 ++ List.replicate (8 - ((x.take (run6 x).1).length + (x.drop ((run6 x).1 + (run6 x).2)).length)) 0 ++ x.drop ((run6 x).1 + (run6 x).2) = x := by
  have hs := run6_split x
  have hl := congrArg List.length hs
  simp only [List.length_append, List.length_replicate] at hl
  have e : 8 - ((x.take (run6 x).1).length + (x.drop ((run6 x).1 + (run6 x).2)).length) = (run6 x).2 := by omega
  rw [e]
  exact ⟨by omega, hs⟩
/-- What is shown is read as that address. -/
theorem parse6_show6 {x : List Nat} (h8 : x.length = 8) (hx : ∀ n ∈ x, n < 65536) : parse6 (show6 x) = some x := by
  unfold show6
  by_cases hz : x = [0, 0, 0, 0, 0, 0, 0, 0]
  · rw [if_pos hz, hz]
    decide
  · rw [if_neg hz]
    by_cases h0 : (run6 x).2 = 0
    · rw [if_pos h0]
      exact parse6_parts (good_of_map (hex_map hx)) (pieces6_map true _ _ (hex_map hx)) h8
    · rw [if_neg h0]
      have hp := hex_map (x := x.take (run6 x).1) (fun n hn => hx n (List.mem_of_mem_take hn))
      have hq := hex_map (x := x.drop ((run6 x).1 + (run6 x).2)) (fun n hn => hx n (List.mem_of_mem_drop hn))
      have hg := run6_gap h8 h0
      refine (parse6_gap (good_of_map hp) (good_of_map hq) (pieces6_map false _ _ hp) (pieces6_map true _ _ hq) hg.1).trans ?_
      rw [hg.2]
/-- So it is in upper case. -/
theorem parse6_upper {x : List Nat} (h8 : x.length = 8) (hx : ∀ n ∈ x, n < 65536) : parse6 (up (show6 x)) = some x := by
  unfold show6
  by_cases hz : x = [0, 0, 0, 0, 0, 0, 0, 0]
  · rw [if_pos hz, hz]
    decide
  · rw [if_neg hz]
    by_cases h0 : (run6 x).2 = 0
    · rw [if_pos h0]
      unfold joinH
      rw [up_join]
      exact parse6_parts (good_of_map (hexup_map hx)) (pieces6_map true _ _ (hexup_map hx)) h8
    · rw [if_neg h0]
      have hp := hexup_map (x := x.take (run6 x).1) (fun n hn => hx n (List.mem_of_mem_take hn))
      have hq := hexup_map (x := x.drop ((run6 x).1 + (run6 x).2)) (fun n hn => hx n (List.mem_of_mem_drop hn))
      have hg := run6_gap h8 h0
      have hu : ∀ a b : List UInt8, up (a ++ [58, 58] ++ b) = up a ++ [58, 58] ++ up b := fun a b => by
        unfold up
        rw [List.map_append, List.map_append]
        rfl
      unfold joinH
      rw [hu, up_join, up_join]
      refine (parse6_gap (good_of_map hp) (good_of_map hq) (pieces6_map false _ _ hp) (pieces6_map true _ _ hq) hg.1).trans ?_
      rw [hg.2]
/-- Unlike addresses are shown unlike. -/
theorem show6_inj {x y : List Nat} (h8 : x.length = 8) (hx : ∀ n ∈ x, n < 65536) (g8 : y.length = 8) (hy : ∀ n ∈ y, n < 65536) (h : show6 y = show6 x) : x = y := by
  have h1 := parse6_show6 h8 hx
  rw [← h, parse6_show6 g8 hy] at h1
  exact (Option.some.inj h1).symm
theorem join_len : ∀ (P : List (List UInt8)), (∀ p ∈ P, p.length ≤ 4) → (Lib.join P [58]).length + 1 ≤ 5 * P.length + (if P = [] then 1 else 0)
  | [], _ => by simp [Lib.join]
  | [p], h => by
    have := h p (List.mem_cons_self ..)
    simp [Lib.join]
    omega
  | p :: q :: P, h => by
    have h1 := join_len (q :: P) (fun x hx => h x (List.mem_cons_of_mem _ hx))
    have h2 := h p (List.mem_cons_self ..)
    rw [join_cons2]
    simp only [List.length_append, List.length_cons, reduceCtorEq, if_false] at h1 ⊢
    omega
theorem hex_len4 {n : Nat} (h : n < 65536) : (hexOf n).length ≤ 4 := digs16_len 3 n (by omega)
theorem joinH_len5 {x : List Nat} (hx : ∀ n ∈ x, n < 65536) : (joinH x).length + 1 ≤ 5 * x.length + (if x = [] then 1 else 0) := by
  have h := join_len (x.map hexOf) (fun p hp => by obtain ⟨n, hn, rfl⟩ := List.mem_map.1 hp; exact hex_len4 (hx n hn))
  rw [List.length_map] at h
  unfold joinH
  by_cases he : x = []
  · subst he; simpa using h
  · rw [if_neg (by simpa using he)] at h
    rw [if_neg he]
    exact h
theorem join_long : ∀ (P : List (List UInt8)), P ≠ [] → P.length ≤ (Lib.join P [58]).length + 1
  | [], h => absurd rfl h
  | [p], _ => by simp
  | p :: q :: P, _ => by
    have h1 := join_long (q :: P) (by simp)
    rw [join_cons2]
    simp only [List.length_append, List.length_cons] at h1 ⊢
    omega
/-- It has two bytes at least, and at most thirty-nine. -/
theorem show6_len {x : List Nat} (h8 : x.length = 8) (hx : ∀ n ∈ x, n < 65536) : 2 ≤ (show6 x).length ∧ (show6 x).length ≤ 39 := by
  unfold show6
  by_cases hz : x = [0, 0, 0, 0, 0, 0, 0, 0]
  · rw [if_pos hz]; decide
  · rw [if_neg hz]
    by_cases h0 : (run6 x).2 = 0
    · rw [if_pos h0]
      have h1 := joinH_len5 hx
      have hne : x ≠ [] := fun e => by rw [e] at h8; cases h8
      rw [if_neg hne, h8] at h1
      have h2 := join_long (x.map hexOf) (by simpa using hne)
      rw [List.length_map, h8] at h2
      change 8 ≤ (joinH x).length + 1 at h2
      omega
    · rw [if_neg h0]
      have h1 := joinH_len5 (x := x.take (run6 x).1) (fun n hn => hx n (List.mem_of_mem_take hn))
      have h2 := joinH_len5 (x := x.drop ((run6 x).1 + (run6 x).2)) (fun n hn => hx n (List.mem_of_mem_drop hn))
      have hg := (run6_gap h8 h0).1
      have hn := (run6_best x).1
      have hn2 : 2 ≤ (run6 x).2 := by
        rcases hn with h | h
        · rw [h] at h0; exact absurd rfl h0
        · exact h.1
      have hs := congrArg List.length (run6_split x)
      simp only [List.length_append, List.length_replicate] at hs
      simp only [List.length_append, List.length_cons, List.length_nil]
      split at h1 <;> split at h2 <;> omega
#print axioms show6_len
#print axioms parse6_upper
end Go.Proofs.YtmobeppmdakjmaaDoor
