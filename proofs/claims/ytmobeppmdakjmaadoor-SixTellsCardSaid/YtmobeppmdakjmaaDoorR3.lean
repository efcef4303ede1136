/- Plain: pieces with noughts ahead, and the forms in which an address may be written. No program in sight. -/
import Derived.Test.YtmobeppmdakjmaaDoorR2
import Derived.Test.YtmobeppmdakjmaaDoorJ2
import Derived.Lib.Repeat
namespace Go.Proofs.YtmobeppmdakjmaaDoor

/-- A piece with noughts ahead. -/
def padN (nz : List Nat) (i n : Nat) : List UInt8 := List.replicate (min (nz.getD i 0) (4 - (hexOf n).length)) 48 ++ hexOf n
/-- All pieces of an address, with noughts ahead. -/
def full6 (nz x : List Nat) : List (List UInt8) := x.mapIdx (padN nz)
theorem full6_len (nz x : List Nat) : (full6 nz x).length = x.length := by simp [full6]
theorem full6_get {nz x : List Nat} {k n : Nat} (h : x[k]? = some n) : (full6 nz x)[k]? = some (padN nz k n) := by simp [full6, h]
theorem full6_nil (x : List Nat) : full6 [] x = x.map hexOf := by
  refine List.ext_getElem? fun k => ?_
  rw [full6, List.getElem?_mapIdx, List.getElem?_map]
  congr 1
theorem full6_take {nz x : List Nat} {k n : Nat} (h : x[k]? = some n) : (full6 nz x).take (k + 1) = (full6 nz x).take k ++ [padN nz k n] := by
  rw [List.take_add_one, full6_get h]
  rfl
theorem numB_noughts (b : Nat) : ∀ m : Nat, numB b 0 (List.replicate m 48) = 0
  | 0 => rfl
  | m + 1 => by
    rw [List.replicate_succ, numB, worth_nought, Nat.zero_mul, Nat.zero_add, numB_noughts b m]
theorem digits_noughts (b : Nat) (hb : 0 < b) : ∀ m : Nat, digitsB b (List.replicate m 48) = true
  | 0 => rfl
  | m + 1 => by
    have := digits_noughts b hb m
    unfold digitsB at this ⊢
    rw [List.replicate_succ, List.all_cons, this, worth_nought, decide_eq_true hb]
    rfl
theorem digits_app (b : Nat) (l m : List UInt8) : digitsB b (l ++ m) = (digitsB b l && digitsB b m) := by unfold digitsB; rw [List.all_append]
theorem hexOf_digits (n : Nat) : digitsB 16 (hexOf n) = true := digs_digits 14 (by omega) n
theorem hexOf_num (n : Nat) : numB 16 0 (hexOf n) = n := digs_num 14 (by omega) n
theorem piece6_noughts {n m : Nat} (h : m + (hexOf n).length ≤ 4) : piece6 (List.replicate m 48 ++ hexOf n) = some n := by
  unfold piece6
  rw [if_pos]
  · rw [numB_app, numB_noughts, hexOf_num]
  · refine ⟨by simp [hexOf, digs_ne], by rw [List.length_append, List.length_replicate]; exact h, ?_⟩
    rw [digits_app, digits_noughts 16 (by decide), hexOf_digits]
    rfl
theorem piece6_pad (nz : List Nat) (i : Nat) {n : Nat} (h : n < 65536) : piece6 (padN nz i n) = some n := by
  have := hex_len4 h
  exact piece6_noughts (by omega)
theorem full6_map (nz : List Nat) {x : List Nat} (hx : ∀ n ∈ x, n < 65536) : (full6 nz x).map piece6 = x.map some := by
  refine List.ext_getElem? fun k => ?_
  rw [full6, List.getElem?_map, List.getElem?_mapIdx, List.getElem?_map, Option.map_map]
  cases h : x[k]? with
  | none => rfl
  | some n =>
    show some (piece6 (padN nz k n)) = some (some n)
    rw [piece6_pad nz k (hx n (List.mem_of_getElem? h))]
theorem map_take {P : List (List UInt8)} {l : List Nat} (h : P.map piece6 = l.map some) (k : Nat) : (P.take k).map piece6 = (l.take k).map some := by
  rw [List.map_take, h, List.map_take]
theorem map_drop {P : List (List UInt8)} {l : List Nat} (h : P.map piece6 = l.map some) (k : Nat) : (P.drop k).map piece6 = (l.drop k).map some := by
  rw [List.map_drop, h, List.map_drop]
/-- Eight pieces, with noughts ahead, say their address. -/
theorem parse6_full (nz : List Nat) {x : List Nat} (h8 : x.length = 8) (hx : ∀ n ∈ x, n < 65536) : parse6 (Lib.join (full6 nz x) [58]) = some x :=
  parse6_parts (good_of_map (full6_map nz hx)) (pieces6_map true _ _ (full6_map nz hx)) h8
theorem zeros_split {x : List Nat} {k n : Nat} (hk : k + n ≤ x.length) (hz : ∀ i, k ≤ i → i < k + n → x[i]? = some 0) : x.take k ++ List.replicate n 0 ++ x.drop (k + n) = x := by
  refine List.ext_getElem? fun i => ?_
  rw [List.append_assoc]
  have hl : (x.take k).length = k := by rw [List.length_take]; omega
  by_cases h1 : i < k
  · rw [List.getElem?_append_left (by omega), List.getElem?_take, if_pos h1]
  · rw [List.getElem?_append_right (by omega), hl]
    by_cases h2 : i < k + n
    · rw [List.getElem?_append_left (by rw [List.length_replicate]; omega), List.getElem?_replicate, if_pos (by omega), hz i (by omega) h2]
    · rw [List.getElem?_append_right (by rw [List.length_replicate]; omega), List.length_replicate, List.getElem?_drop]
      congr 1
      omega
theorem gap_is {x : List Nat} {k n : Nat} (h8 : x.length = 8) (hn : 1 ≤ n) (hk : k + n ≤ 8) (hz : ∀ i, k ≤ i → i < k + n → x[i]? = some 0) :
    (x.take k).length + (x.drop (k + n)).length ≤ 7 ∧ x.take k ++ List.replicate (8 - ((x.take k).length + (x.drop (k + n)).length)) 0 ++ x.drop (k + n) = x := by
  have h1 : (x.take k).length = k := by rw [List.length_take]; omega
  have h2 : (x.drop (k + n)).length = 8 - (k + n) := by rw [List.length_drop]; omega
  rw [h1, h2, show 8 - (k + (8 - (k + n))) = n by omega]
  exact ⟨by omega, zeros_split (by omega) hz⟩
/-- So they do with a row of noughts as a gap. -/
theorem parse6_hole (nz : List Nat) {x : List Nat} (h8 : x.length = 8) (hx : ∀ n ∈ x, n < 65536) {k n : Nat} (hn : 1 ≤ n) (hk : k + n ≤ 8) (hz : ∀ i, k ≤ i → i < k + n → x[i]? = some 0) :
    parse6 (Lib.join ((full6 nz x).take k) [58] ++ [58, 58] ++ Lib.join ((full6 nz x).drop (k + n)) [58]) = some x := by
  have hp := map_take (full6_map nz hx) k
  have hq := map_drop (full6_map nz hx) (k + n)
  have hg := gap_is h8 hn hk hz
  refine (parse6_gap (good_of_map hp) (good_of_map hq) (pieces6_map false _ _ hp) (pieces6_map true _ _ hq) hg.1).trans ?_
  rw [hg.2]
/-- The last two pieces as an inner address. -/
def innerOf (a b : Nat) : List UInt8 := Lib.join [dec (a / 256), dec (a % 256), dec (b / 256), dec (b % 256)] [46]
theorem dig4_dec {n : Nat} (h : n < 256) : dig4 (dec n) = some n := by
  have : ∀ m : Fin 256, dig4 (dec m.1) = some m.1 := by decide +kernel
  exact this ⟨n, h⟩
theorem inner6_of {a b : Nat} (ha : a < 65536) (hb : b < 65536) : inner6 (innerOf a b) = some [a, b] := by
  unfold inner6 innerOf
  rw [splitC_join 46 _ (by simp) (by
    intro p hp
    simp only [List.mem_cons, List.not_mem_nil, or_false] at hp
    rcases hp with rfl | rfl | rfl | rfl <;> exact byte_free _ (by omega))]
  show (match dig4 (dec (a / 256)), dig4 (dec (a % 256)), dig4 (dec (b / 256)), dig4 (dec (b % 256)) with | some a, some b, some c, some d => some [a * 256 + b, c * 256 + d] | _, _, _, _ => none) = _
  rw [dig4_dec (by omega), dig4_dec (by omega), dig4_dec (by omega), dig4_dec (by omega)]
  show some [a / 256 * 256 + a % 256, b / 256 * 256 + b % 256] = _
  rw [show a / 256 * 256 + a % 256 = a by omega, show b / 256 * 256 + b % 256 = b by omega]
theorem dec_free58 {n : Nat} (h : n < 256) : (58 : UInt8) ∉ dec n := by
  rw [dec_dec n h]; exact digs_free (by decide) (dec_digits n) 58 (by decide)
theorem innerOf_good {a b : Nat} (ha : a < 65536) (hb : b < 65536) : innerOf a b ≠ [] ∧ (58 : UInt8) ∉ innerOf a b := by
  unfold innerOf
  rw [join_cons2, join_cons2, join_cons2, Lib.join_one]
  refine ⟨by simp, ?_⟩
  simp only [List.mem_append, List.mem_cons, not_or]
  exact ⟨dec_free58 (by omega), by decide, dec_free58 (by omega), by decide, dec_free58 (by omega), by decide, dec_free58 (by omega)⟩
theorem innerOf_len (a b : Nat) : (innerOf a b).length ≤ 100 := by
  have h1 := dec_len (a / 256)
  have h2 := dec_len (a % 256)
  have h3 := dec_len (b / 256)
  have h4 := dec_len (b % 256)
  unfold innerOf
  rw [Lib.join_length]
  simp [Lib.lens]
  omega
/-- Six pieces and an inner address. -/
def six6 (nz x : List Nat) (a b : Nat) : List (List UInt8) := (full6 nz x).take 6 ++ [innerOf a b]
theorem six6_len (nz : List Nat) {x : List Nat} (h8 : x.length = 8) (a b : Nat) : (six6 nz x a b).length = 7 := by
  unfold six6
  rw [List.length_append, List.length_take, full6_len, h8]
  rfl
theorem take6_ab {x : List Nat} {a b : Nat} (h8 : x.length = 8) (h6 : x[6]? = some a) (h7 : x[7]? = some b) (j : Nat) (hj : j ≤ 6) : (x.take 6).drop j ++ [a, b] = x.drop j := by
  obtain ⟨x0, x1, x2, x3, x4, x5, x6, x7, rfl⟩ := eight h8
  simp at h6 h7
  subst h6 h7
  have q : j = 0 ∨ j = 1 ∨ j = 2 ∨ j = 3 ∨ j = 4 ∨ j = 5 ∨ j = 6 := by omega
  rcases q with rfl | rfl | rfl | rfl | rfl | rfl | rfl <;> rfl
theorem six6_drop (nz x : List Nat) (a b j : Nat) (h8 : x.length = 8) (hj : j ≤ 6) : (six6 nz x a b).drop j = ((full6 nz x).take 6).drop j ++ [innerOf a b] := by
  unfold six6
  rw [List.drop_append_of_le_length (by rw [List.length_take, full6_len, h8]; omega)]
theorem six6_take (nz x : List Nat) (a b j : Nat) (h8 : x.length = 8) (hj : j ≤ 6) : (six6 nz x a b).take j = (full6 nz x).take j := by
  unfold six6
  rw [List.take_append_of_le_length (by rw [List.length_take, full6_len, h8]; omega), List.take_take, Nat.min_eq_left hj]
/-- With the last two as an inner address they say it. -/
theorem parse6_six (nz : List Nat) {x : List Nat} {a b : Nat} (h8 : x.length = 8) (hx : ∀ n ∈ x, n < 65536) (h6 : x[6]? = some a) (h7 : x[7]? = some b) : parse6 (Lib.join (six6 nz x a b) [58]) = some x := by
  have ha := hx a (List.mem_of_getElem? h6)
  have hb := hx b (List.mem_of_getElem? h7)
  have hm := map_take (full6_map nz hx) 6
  have hp := pieces6_tail (inner6_of ha hb) _ _ hm
  have h0 := take6_ab h8 h6 h7 0 (by omega)
  rw [List.drop_zero, List.drop_zero] at h0
  rw [h0] at hp
  exact parse6_parts ((good_of_map hm).snoc (innerOf_good ha hb)) hp h8
theorem parse6_sixhole (nz : List Nat) {x : List Nat} {a b : Nat} (h8 : x.length = 8) (hx : ∀ n ∈ x, n < 65536) (h6 : x[6]? = some a) (h7 : x[7]? = some b) {k n : Nat} (hn : 1 ≤ n) (hk : k + n ≤ 6) (hz : ∀ i, k ≤ i → i < k + n → x[i]? = some 0) :
    parse6 (Lib.join ((six6 nz x a b).take k) [58] ++ [58, 58] ++ Lib.join ((six6 nz x a b).drop (k + n)) [58]) = some x := by
  have ha := hx a (List.mem_of_getElem? h6)
  have hb := hx b (List.mem_of_getElem? h7)
  have hp := map_take (full6_map nz hx) k
  have hq := map_drop (map_take (full6_map nz hx) 6) (k + n)
  have hg := gap_is h8 hn (by omega) hz
  have h0 := take6_ab h8 h6 h7 (k + n) hk
  have hpq := pieces6_tail (inner6_of ha hb) _ _ hq
  rw [h0] at hpq
  rw [six6_drop nz x a b (k + n) h8 hk, six6_take nz x a b k h8 (by omega)]
  refine (parse6_gap (good_of_map hp) ((good_of_map hq).snoc (innerOf_good ha hb)) (pieces6_map false _ _ hp) hpq hg.1).trans ?_
  rw [hg.2]
theorem pad_len (nz : List Nat) (i : Nat) {n : Nat} (h : n < 65536) : (padN nz i n).length ≤ 4 := by
  have := hex_len4 h
  unfold padN
  rw [List.length_append, List.length_replicate]
  omega
theorem full6_short (nz : List Nat) {x : List Nat} (hx : ∀ n ∈ x, n < 65536) : ∀ p ∈ full6 nz x, p.length ≤ 4 := by
  intro p hp
  obtain ⟨k, hk⟩ := List.getElem?_of_mem hp
  rw [full6, List.getElem?_mapIdx, Option.map_eq_some_iff] at hk
  obtain ⟨n, hn, rfl⟩ := hk
  exact pad_len nz k (hx n (List.mem_of_getElem? hn))
theorem join_small {P : List (List UInt8)} (h : ∀ p ∈ P, p.length ≤ 100) (hl : P.length ≤ 20) : (Lib.join P [58]).length ≤ 10000 := by
  cases P with
  | nil => simp [Lib.join]
  | cons p t =>
    rw [Lib.join_length]
    have key : ∀ l : List (List UInt8), (∀ p ∈ l, p.length ≤ 100) → Lib.lens l ≤ 100 * l.length := by
      intro l
      induction l with
      | nil => intro _; simp [Lib.lens]
      | cons b s ih =>
        intro h
        have h1 := h b (by simp)
        have h2 := ih (fun n hn => h n (by simp [hn]))
        simp only [Lib.lens, List.map_cons, List.sum_cons, List.length_cons] at h2 ⊢
        omega
    have := key (p :: t) h
    simp only [List.length_cons, List.length_nil] at *
    omega
#print axioms parse6_sixhole
#print axioms parse6_hole
end Go.Proofs.YtmobeppmdakjmaaDoor
