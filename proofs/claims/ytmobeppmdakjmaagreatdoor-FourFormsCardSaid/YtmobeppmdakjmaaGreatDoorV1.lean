/- Plain: a number as FourForms writes it, and the address that such parts say. No program in sight. -/
import Derived.Test.YtmobeppmdakjmaaGreatDoorN0
import Derived.Test.YtmobeppmdakjmaaGreatDoorL7
import Derived.Lib.Case
namespace Go.Proofs.YtmobeppmdakjmaaGreatDoor

/-- In upper case. -/
def up (s : List UInt8) : List UInt8 := s.map Lib.upperB
theorem worth_up (c : UInt8) (h : worth c < 16) : worth (Lib.upperB c) = worth c := by
  have hall : ∀ d : Fin 256, worth (UInt8.ofNat d.1) < 16 → worth (Lib.upperB (UInt8.ofNat d.1)) = worth (UInt8.ofNat d.1) := by decide +kernel
  have := hall ⟨c.toNat, c.toNat_lt⟩
  simp only [UInt8.ofNat_toNat] at this
  exact this h
theorem numB_up (b : Nat) : ∀ (l : List UInt8) (n : Nat), digitsB 16 l = true → numB b n (up l) = numB b n l
  | [], _, _ => rfl
  | c :: t, n, h => by
    unfold digitsB at h
    rw [List.all_cons, Bool.and_eq_true, decide_eq_true_eq] at h
    show numB b n (Lib.upperB c :: up t) = _
    rw [numB, numB, worth_up c h.1, numB_up b t _ h.2]
theorem digits_up : ∀ (l : List UInt8), digitsB 16 l = true → digitsB 16 (up l) = true
  | [], _ => rfl
  | c :: t, h => by
    unfold digitsB at h
    rw [List.all_cons, Bool.and_eq_true, decide_eq_true_eq] at h
    have := digits_up t h.2
    unfold digitsB at this ⊢
    show (Lib.upperB c :: up t).all _ = true
    rw [List.all_cons, this, Bool.and_true, decide_eq_true_eq, worth_up c h.1]
    exact h.1
theorem numB_noughts (b : Nat) : ∀ m : Nat, numB b 0 (List.replicate m 48) = 0
  | 0 => rfl
  | m + 1 => by
    rw [List.replicate_succ, numB, worth_nought, Nat.zero_mul, Nat.zero_add, numB_noughts b m]
theorem digits_noughts (b : Nat) (hb : 0 < b) : ∀ m : Nat, digitsB b (List.replicate m 48) = true
  | 0 => rfl
  | m + 1 => by
    have := digits_noughts b hb m
    unfold digitsB at this ⊢
    rw [List.replicate_succ, List.all_cons, this, worth_nought, decide_eq_true hb]
    rfl
theorem digits_app (b : Nat) (l m : List UInt8) : digitsB b (l ++ m) = (digitsB b l && digitsB b m) := by unfold digitsB; rw [List.all_append]
/-- A number, in digits of ten, eight, or sixteen, with noughts ahead. -/
def writ (n how : Nat) : List UInt8 :=
  if how % 3 = 0 then Lib.decDigits n
  else if how % 3 = 1 then [48] ++ List.replicate (how / 3 % 4) 48 ++ digs 6 n
  else [48, 120] ++ List.replicate (how / 3 % 4) 48 ++ up (digs 14 n)
theorem base4_oct {c : UInt8} {t : List UInt8} (h1 : c ≠ 120) (h2 : c ≠ 88) : base4 (48 :: c :: t) = (c :: t, 8) := by
  unfold base4
  simp [h1, h2]
theorem base4_hex (t : List UInt8) : base4 (48 :: 120 :: t) = (t, 16) := by
  unfold base4
  simp
theorem oct_digits (m n : Nat) : digitsB 8 (List.replicate m 48 ++ digs 6 n) = true := by
  have h := digs_digits 6 (by omega) n
  rw [digits_app, digits_noughts 8 (by decide), h]
  rfl
theorem hex_digits (m n : Nat) : digitsB 16 (List.replicate m 48 ++ up (digs 14 n)) = true := by
  rw [digits_app, digits_noughts 16 (by decide), digits_up _ (digs_digits 14 (by omega) n)]
  rfl
theorem number4_writ (n how : Nat) : number4 (writ n how) = some (min n 4294967296) := by
  unfold writ
  split
  · exact number4_dec n
  · split
    · have hd := oct_digits (how / 3 % 4) n
      have hn : numB 8 0 (List.replicate (how / 3 % 4) 48 ++ digs 6 n) = n := by
        rw [numB_app, numB_noughts, digs_num 6 (by omega) n]
      have hne : List.replicate (how / 3 % 4) 48 ++ digs 6 n ≠ [] := by simp [digs_ne]
      rw [List.append_assoc]
      generalize List.replicate (how / 3 % 4) 48 ++ digs 6 n = l at *
      cases l with
      | nil => exact absurd rfl hne
      | cons c t =>
        have hc : worth c < 8 := by
          unfold digitsB at hd
          rw [List.all_cons, Bool.and_eq_true, decide_eq_true_eq] at hd
          exact hd.1
        have h1 : c ≠ 120 := by rintro rfl; revert hc; decide
        have h2 : c ≠ 88 := by rintro rfl; revert hc; decide
        unfold number4
        rw [List.cons_append, List.nil_append, if_neg (by simp), base4_oct h1 h2]
        simp only
        rw [if_pos hd, hn]
    · have hd := hex_digits (how / 3 % 4) n
      have hn : numB 16 0 (List.replicate (how / 3 % 4) 48 ++ up (digs 14 n)) = n := by
        rw [numB_app, numB_noughts, numB_up 16 _ 0 (digs_digits 14 (by omega) n), digs_num 14 (by omega) n]
      rw [List.append_assoc]
      unfold number4
      rw [List.cons_append, List.cons_append, List.nil_append, if_neg (by simp), base4_hex]
      simp only
      rw [if_pos hd, hn]
theorem writ_ne (n how : Nat) : writ n how ≠ [] := by
  unfold writ
  split
  · exact dec_ne n
  · split <;> simp
theorem writ_free (n how : Nat) : (46 : UInt8) ∉ writ n how := by
  unfold writ
  split
  · exact dec_free n
  · split
    · rw [List.append_assoc]
      have := digs_free (by decide) (oct_digits (how / 3 % 4) n) 46 (by decide)
      simp only [List.cons_append, List.nil_append, List.mem_cons, not_or]
      exact ⟨by decide, this⟩
    · rw [List.append_assoc]
      have := digs_free (by decide) (hex_digits (how / 3 % 4) n) 46 (by decide)
      simp only [List.cons_append, List.nil_append, List.mem_cons, not_or]
      exact ⟨by decide, by decide, this⟩
theorem writ_len (n how : Nat) (h : n < 4294967296) : (writ n how).length ≤ 100 := by
  have h1 := digs_len 6 31 n (by omega)
  have h2 := digs_len 14 31 n (by omega)
  have h3 : (Lib.decDigits n).length ≤ 30 := by
    rw [Lib.decDigits_length]
    rcases Nat.eq_zero_or_pos n with rfl | hp
    · rw [Lib.nDigits_small (by decide)]; decide
    · have := Lib.numDigits_eq n hp (by omega)
      split at this <;> omega
  unfold writ up
  split
  · omega
  · split
    · simp only [List.length_append, List.length_replicate, List.length_cons, List.length_nil]; omega
    · simp only [List.length_append, List.length_replicate, List.length_cons, List.length_nil, List.length_map]; omega
/-- The parts that a walk has laid. -/
def partsW (x : Nat) (hw : List UInt8) (j : Nat) : List (List UInt8) := (List.range j).map fun i => writ (x / 2 ^ (24 - 8 * i) % 256) (hw.getD i 0).toNat
theorem partsW_succ (x : Nat) (hw : List UInt8) (j : Nat) : partsW x hw (j + 1) = partsW x hw j ++ [writ (x / 2 ^ (24 - 8 * j) % 256) (hw.getD j 0).toNat] := by
  unfold partsW; rw [List.range_succ, List.map_append]; rfl
theorem partsW_len (x : Nat) (hw : List UInt8) (j : Nat) : (partsW x hw j).length = j := by simp [partsW]
/-- All parts. -/
def allW (x : Nat) (hw : List UInt8) (n : Nat) : List (List UInt8) := partsW x hw (n - 1) ++ [writ (x % 256 ^ (5 - n)) (hw.getD (n - 1) 0).toNat]
theorem allW_len (x : Nat) (hw : List UInt8) {n : Nat} (h : 1 ≤ n) : (allW x hw n).length = n := by
  unfold allW
  rw [List.length_append, partsW_len, List.length_cons, List.length_nil]
  omega
theorem allW_free (x : Nat) (hw : List UInt8) (n : Nat) : ∀ p ∈ allW x hw n, (46 : UInt8) ∉ p := by
  intro p hp
  rcases List.mem_append.1 hp with hp | hp
  · obtain ⟨i, _, rfl⟩ := List.mem_map.1 hp
    exact writ_free _ _
  · rw [List.mem_singleton.1 hp]
    exact writ_free _ _
theorem mod_lt32 (x n : Nat) (h : 1 ≤ n) : x % 256 ^ (5 - n) < 4294967296 := by
  have h1 : 256 ^ (5 - n) ≤ 256 ^ 4 := Nat.pow_le_pow_right (by decide) (by omega)
  have h2 : 0 < 256 ^ (5 - n) := Nat.pow_pos (by decide)
  have := Nat.mod_lt x h2
  omega
theorem allW_short (x : Nat) (hw : List UInt8) {n : Nat} (h : 1 ≤ n) : ∀ p ∈ allW x hw n, p.length ≤ 100 := by
  intro p hp
  rcases List.mem_append.1 hp with hp | hp
  · obtain ⟨i, _, rfl⟩ := List.mem_map.1 hp
    exact writ_len _ _ (by have := Nat.mod_lt (x / 2 ^ (24 - 8 * i)) (show 0 < 256 by decide); omega)
  · rw [List.mem_singleton.1 hp]
    exact writ_len _ _ (mod_lt32 x n h)
theorem addr4_writ (vs hs : List Nat) (hl : vs.length = hs.length) (hv : ∀ i v, vs[i]? = some v → v < 4294967296 ∧ (i + 1 < vs.length → v < 256) ∧ (i + 1 = vs.length → v < 256 ^ (4 - i))) :
    addr4 4 0 0 (List.zipWith writ vs hs) = some (sum4 4 0 0 vs) := by
  have hlen : (List.zipWith writ vs hs).length = vs.length := by rw [List.length_zipWith]; omega
  refine addr4_some 4 _ _ 0 0 hlen ?_
  intro i p v hp hvv
  obtain ⟨h1, h2, h3⟩ := hv i v hvv
  rw [List.getElem?_zipWith] at hp
  rw [hvv] at hp
  cases hh : hs[i]? with
  | none => rw [hh] at hp; cases hp
  | some g =>
    rw [hh] at hp
    simp only [Option.some.injEq] at hp
    subst hp
    rw [number4_writ, hlen]
    exact ⟨by congr 1; omega, h2, by simpa using h3⟩
theorem allW_zip (x : Nat) (hw : List UInt8) (n : Nat) (hn : n = 1 ∨ n = 2 ∨ n = 3 ∨ n = 4) : ∃ vs hs : List Nat, vs.length = n ∧ hs.length = n ∧ allW x hw n = List.zipWith writ vs hs ∧ (∀ i v, vs[i]? = some v → v < 4294967296 ∧ (i + 1 < vs.length → v < 256) ∧ (i + 1 = vs.length → v < 256 ^ (4 - i))) ∧ (x < 4294967296 → sum4 4 0 0 vs = x) := by
  rcases hn with rfl | rfl | rfl | rfl
  · refine ⟨[x % 4294967296], [(hw.getD 0 0).toNat], rfl, rfl, rfl, ?_, ?_⟩
    · intro i v h
      match i, h with
      | 0, h => simp at h; subst h; simp; omega
      | i + 1, h => simp at h
    · intro h; simp [sum4]; omega
  · refine ⟨[x / 16777216 % 256, x % 16777216], [(hw.getD 0 0).toNat, (hw.getD 1 0).toNat], rfl, rfl, rfl, ?_, ?_⟩
    · intro i v h
      match i, h with
      | 0, h => simp at h; subst h; simp; omega
      | 1, h => simp at h; subst h; simp; omega
      | i + 2, h => simp at h
    · intro h; simp [sum4]; omega
  · refine ⟨[x / 16777216 % 256, x / 65536 % 256, x % 65536], [(hw.getD 0 0).toNat, (hw.getD 1 0).toNat, (hw.getD 2 0).toNat], rfl, rfl, rfl, ?_, ?_⟩
    · intro i v h
      match i, h with
      | 0, h => simp at h; subst h; simp; omega
      | 1, h => simp at h; subst h; simp; omega
      | 2, h => simp at h; subst h; simp; omega
      | i + 3, h => simp at h
    · intro h; simp [sum4]; omega
  · refine ⟨[x / 16777216 % 256, x / 65536 % 256, x / 256 % 256, x % 256], [(hw.getD 0 0).toNat, (hw.getD 1 0).toNat, (hw.getD 2 0).toNat, (hw.getD 3 0).toNat], rfl, rfl, rfl, ?_, ?_⟩
    · intro i v h
      match i, h with
      | 0, h => simp at h; subst h; simp; omega
      | 1, h => simp at h; subst h; simp; omega
      | 2, h => simp at h; subst h; simp; omega
      | 3, h => simp at h; subst h; simp; omega
      | i + 4, h => simp at h
    · intro h; simp [sum4]; omega
/-- The parts say the address. -/
theorem allW_parse (x : Nat) (hx : x < 4294967296) (hw : List UInt8) {n : Nat} (h1 : 1 ≤ n) (h4 : n ≤ 4) : parse4 (Lib.join (allW x hw n) [46]) = some x := by
  obtain ⟨vs, hs, l1, l2, e, hv, hsum⟩ := allW_zip x hw n (by omega)
  have hne : allW x hw n ≠ [] := by
    intro e
    have := allW_len x hw h1
    rw [e] at this
    simp at this
    omega
  have hlast : (allW x hw n).getLast? = some (writ (x % 256 ^ (5 - n)) (hw.getD (n - 1) 0).toNat) := by unfold allW; simp
  rw [parse4_join hne hlast (writ_ne _ _) (allW_free x hw n), allW_len x hw h1, if_neg (by omega), e, addr4_writ vs hs (by omega) hv, hsum hx]
theorem allW_ends (x : Nat) (hx : x < 4294967296) (hw : List UInt8) {n : Nat} (h1 : 1 ≤ n) (h4 : n ≤ 4) : ends4 (Lib.join (allW x hw n) [46]) = true := parse4_ends (allW_parse x hx hw h1 h4)
theorem lens100 : ∀ (l : List (List UInt8)), (∀ p ∈ l, p.length ≤ 100) → Lib.lens l ≤ 100 * l.length
  | [], _ => by simp [Lib.lens]
  | p :: t, h => by
    have h1 := h p (by simp)
    have h2 := lens100 t (fun q hq => h q (by simp [hq]))
    simp only [Lib.lens, List.map_cons, List.sum_cons, List.length_cons] at h2 ⊢
    omega
theorem join_short (l : List (List UInt8)) (h : ∀ p ∈ l, p.length ≤ 100) (hl : l.length ≤ 10) : (Lib.join l [46]).length ≤ 1000000 := by
  cases l with
  | nil => simp [Lib.join_nil]
  | cons p t =>
    rw [Lib.join_length]
    have := lens100 (p :: t) h
    simp only [List.length_cons, List.length_nil] at *
    omega
#print axioms allW_ends
#print axioms allW_parse
end Go.Proofs.YtmobeppmdakjmaaGreatDoor
