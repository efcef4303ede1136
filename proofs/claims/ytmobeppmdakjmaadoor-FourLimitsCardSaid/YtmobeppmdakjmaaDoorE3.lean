/- Walk: the reference's Number. (Printed by refnum.py.) -/
import Derived.Test.YtmobeppmdakjmaaDoorE2
namespace Go.Proofs.YtmobeppmdakjmaaDoor
open Go.RowKit

theorem numB_snoc (b : Nat) (c : UInt8) : ∀ (l : List UInt8) (n : Nat), numB b n (l ++ [c]) = numB b n l * b + worth c
  | [], _ => rfl
  | a :: t, n => by rw [List.cons_append, numB, numB_snoc b c t]; rfl
theorem take_snoc {l : List UInt8} {k : Nat} (h : k < l.length) : l.take (k + 1) = l.take k ++ [l[k]] := by simp
theorem cap_small {N b d : Nat} (hb : b = 8 ∨ b = 10 ∨ b = 16) (h : min N 4294967296 * b + d ≤ 4294967296) : min N 4294967296 * b + d = min (N * b + d) 4294967296 := by
  rcases hb with rfl | rfl | rfl <;> omega
theorem cap_big {N b d : Nat} (hb : b = 8 ∨ b = 10 ∨ b = 16) (h : 4294967296 < min N 4294967296 * b + d) : 4294967296 = min (N * b + d) 4294967296 := by
  rcases hb with rfl | rfl | rfl <;> omega
theorem digits_snoc {b : Nat} {l : List UInt8} {k : Nat} (h : k < l.length) (hd : digitsB b (l.take k) = true) (hc : worth l[k] < b) : digitsB b (l.take (k + 1)) = true := by
  rw [take_snoc h]
  unfold digitsB at *
  rw [List.all_append, hd]
  simp [hc]
theorem digits_fail {b : Nat} {l : List UInt8} {k : Nat} (h : k < l.length) (hc : ¬ worth l[k] < b) : digitsB b l = false := by
  unfold digitsB
  rw [List.all_eq_false]
  exact ⟨l[k], List.getElem_mem h, by simpa using hc⟩
theorem worth_le (c : UInt8) : worth c ≤ 99 := by
  have := c.toNat_lt
  unfold worth
  split
  · omega
  · split
    · omega
    · split <;> omega
/-- worth at a byte of a text. -/
theorem worth_at (l : List UInt8) (k : Nat) (_ : k < l.length) (h' : k < (⟨l.toArray⟩ : ByteArray).size) (d : Nat) (hd : worth l[k] = d) (w : World) :
    Calls Tryd.prog 50 #[.int .u8 (((⟨l.toArray⟩ : ByteArray)[k]'h').toNat : Int)] w fun e w' => e = .returned (.int .i64 d) ∧ w = w' := by
  subst hd; exact worth_any l[k] w
/-- What the digits of a text say. -/
def capV (b : Nat) (l : List UInt8) : Value := numV (if digitsB b l = true then some (min (numB b 0 l) 4294967296) else none)

set_option maxHeartbeats 2000000 in
set_option maxRecDepth 100000 in
theorem refnum_10 (l : List UInt8) (h : l.length < 2 ∨ l.head? ≠ some 48) (hne : l ≠ []) (hl : l.length ≤ 1000000) (w : World) :
    Calls Tryd.prog 14 #[.string ⟨l.toArray⟩] w fun e w' => e = .returned (capV 10 l) ∧ w = w' := by
  have hsz := size_str l
  have hpos : 0 < l.length := List.length_pos_iff.2 hne
  have h0 : ((l.length : Int) == 0) = false := by rw [beq_eq_false_iff_ne]; omega
  have h48 : (¬ (2 : Int) ≤ (l.length : Int)) ∨ ((2 : Int) ≤ (l.length : Int) ∧ ((((⟨l.toArray⟩ : ByteArray)[0]'(by omega)).toNat : Int) == 48) = false) := by
    by_cases h2 : l.length < 2
    · left; omega
    · right
      refine ⟨by omega, ?_⟩
      have hh := h.resolve_left h2
      match l, h2, hh with
      | a :: b :: t, _, hh =>
        have ha : a ≠ 48 := fun e => hh (by rw [e]; rfl)
        exact byte_ne (d := 48) ha
      | [a], h2, _ => exact absurd (by simp) h2
  clear h hne
  rcases h48 with f1 | ⟨f1, f2⟩
  · go_enter Tryd.func14, Tryd.ntmps14
    go_wp2
    go_loopw [5, 6] (fun n i wr => ∃ (k : Nat) (m : Nat), k ≤ l.length ∧ n = .int .u64 (m : Int) ∧ i = .int .i64 (k : Int) ∧ wr = w ∧ m ≤ 4294967296 ∧ Hid (digitsB 10 (l.take k) = true ∧ m = min (numB 10 0 (l.take k)) 4294967296)) (fun _ i _ => l.length - (intOf i).toNat)
    case atStart => exact ⟨0, 0, Nat.zero_le _, rfl, rfl, rfl, Nat.zero_le _, rfl, rfl⟩
    case round =>
      obtain ⟨k, m, hk, rfl, rfl, rfl, hm4, hd⟩ := hrel
      by_cases hlt : k < l.length
      · have hi : (k : Int) < (l.length : Int) := by omega
        obtain ⟨d, hdd⟩ : ∃ d, worth l[k] = d := ⟨_, rfl⟩
        have hw := Lib.hid (fun W => worth_at l k hlt (by rw [size_str]; exact hlt) d hdd W)
        have hd99 : d ≤ 99 := by rw [← hdd]; exact worth_le _
        have hsn : Hid (numB 10 0 (l.take (k + 1)) = numB 10 0 (l.take k) * 10 + d) := by show _ = _; rw [take_snoc hlt, numB_snoc, hdd]
        by_cases hc : d < 10
        · have f1 : ¬ (10 : Int) ≤ (d : Int) := by omega
          have hdg := Lib.hid (digits_snoc (b := 10) hlt hd.out.1 (by rw [hdd]; exact hc))
          clear hdd
          by_cases hm : m * 10 + d ≤ 4294967296
          · have f2 : ¬ (4294967296 : Int) < (m : Int) * 10 + (d : Int) := by omega
            have hN : Hid (m * 10 + d = min (numB 10 0 (l.take (k + 1))) 4294967296) := by
              show _ = _
              rw [hsn.out]
              have := hd.out.2
              subst this
              exact cap_small (by omega) hm
            clear hm hc
            go_wp2_with (go_at_call 50; refine (hw.out _).mono ?_; rintro e w' ⟨rfl, rfl⟩)
            exact ⟨⟨k + 1, m * 10 + d, by omega, (by first | rfl | (congr 1; omega)), (by first | rfl | (congr 1; omega)), (by trivial), by omega, hdg.out, hN.out⟩, by simp [intOf]; omega⟩
          · have f2 : (4294967296 : Int) < (m : Int) * 10 + (d : Int) := by omega
            have hN : Hid (4294967296 = min (numB 10 0 (l.take (k + 1))) 4294967296) := by
              show _ = _
              rw [hsn.out]
              have := hd.out.2
              subst this
              exact cap_big (by omega) (by omega)
            clear hm hc
            go_wp2_with (go_at_call 50; refine (hw.out _).mono ?_; rintro e w' ⟨rfl, rfl⟩)
            exact ⟨⟨k + 1, 4294967296, by omega, (by first | rfl | (congr 1; omega)), (by first | rfl | (congr 1; omega)), (by trivial), by omega, hdg.out, hN.out⟩, by simp [intOf]; omega⟩
        · have f1 : (10 : Int) ≤ (d : Int) := by omega
          have hfl : Hid (capV 10 l = .tuple #[.int .u64 0, .bool false]) := by
            show _ = _
            rw [capV, digits_fail (b := 10) hlt (by rw [hdd]; exact hc)]; rfl
          clear hdd hc
          go_wp2_with (go_at_call 50; refine (hw.out _).mono ?_; rintro e w' ⟨rfl, rfl⟩)
          go_ret2
          rw [hfl.out]
          exact ⟨rfl, rfl⟩
      · have hkk : k = l.length := by omega
        have hfin : Hid (capV 10 l = .tuple #[.int .u64 (m : Int), .bool true]) := by
          show _ = _
          obtain ⟨h1, h2⟩ := hd.out
          rw [hkk, List.take_length] at h1 h2
          rw [capV, if_pos h1, ← h2]; rfl
        have hi : ¬ (k : Int) < (l.length : Int) := by omega
        go_wp2
        go_ret2
        rw [hfin.out]
        exact ⟨rfl, rfl⟩
  · go_enter Tryd.func14, Tryd.ntmps14
    go_wp2
    go_loopw [5, 6] (fun n i wr => ∃ (k : Nat) (m : Nat), k ≤ l.length ∧ n = .int .u64 (m : Int) ∧ i = .int .i64 (k : Int) ∧ wr = w ∧ m ≤ 4294967296 ∧ Hid (digitsB 10 (l.take k) = true ∧ m = min (numB 10 0 (l.take k)) 4294967296)) (fun _ i _ => l.length - (intOf i).toNat)
    case atStart => exact ⟨0, 0, Nat.zero_le _, rfl, rfl, rfl, Nat.zero_le _, rfl, rfl⟩
    case round =>
      obtain ⟨k, m, hk, rfl, rfl, rfl, hm4, hd⟩ := hrel
      by_cases hlt : k < l.length
      · have hi : (k : Int) < (l.length : Int) := by omega
        obtain ⟨d, hdd⟩ : ∃ d, worth l[k] = d := ⟨_, rfl⟩
        have hw := Lib.hid (fun W => worth_at l k hlt (by rw [size_str]; exact hlt) d hdd W)
        have hd99 : d ≤ 99 := by rw [← hdd]; exact worth_le _
        have hsn : Hid (numB 10 0 (l.take (k + 1)) = numB 10 0 (l.take k) * 10 + d) := by show _ = _; rw [take_snoc hlt, numB_snoc, hdd]
        by_cases hc : d < 10
        · have f1 : ¬ (10 : Int) ≤ (d : Int) := by omega
          have hdg := Lib.hid (digits_snoc (b := 10) hlt hd.out.1 (by rw [hdd]; exact hc))
          clear hdd
          by_cases hm : m * 10 + d ≤ 4294967296
          · have f2 : ¬ (4294967296 : Int) < (m : Int) * 10 + (d : Int) := by omega
            have hN : Hid (m * 10 + d = min (numB 10 0 (l.take (k + 1))) 4294967296) := by
              show _ = _
              rw [hsn.out]
              have := hd.out.2
              subst this
              exact cap_small (by omega) hm
            clear hm hc
            go_wp2_with (go_at_call 50; refine (hw.out _).mono ?_; rintro e w' ⟨rfl, rfl⟩)
            exact ⟨⟨k + 1, m * 10 + d, by omega, (by first | rfl | (congr 1; omega)), (by first | rfl | (congr 1; omega)), (by trivial), by omega, hdg.out, hN.out⟩, by simp [intOf]; omega⟩
          · have f2 : (4294967296 : Int) < (m : Int) * 10 + (d : Int) := by omega
            have hN : Hid (4294967296 = min (numB 10 0 (l.take (k + 1))) 4294967296) := by
              show _ = _
              rw [hsn.out]
              have := hd.out.2
              subst this
              exact cap_big (by omega) (by omega)
            clear hm hc
            go_wp2_with (go_at_call 50; refine (hw.out _).mono ?_; rintro e w' ⟨rfl, rfl⟩)
            exact ⟨⟨k + 1, 4294967296, by omega, (by first | rfl | (congr 1; omega)), (by first | rfl | (congr 1; omega)), (by trivial), by omega, hdg.out, hN.out⟩, by simp [intOf]; omega⟩
        · have f1 : (10 : Int) ≤ (d : Int) := by omega
          have hfl : Hid (capV 10 l = .tuple #[.int .u64 0, .bool false]) := by
            show _ = _
            rw [capV, digits_fail (b := 10) hlt (by rw [hdd]; exact hc)]; rfl
          clear hdd hc
          go_wp2_with (go_at_call 50; refine (hw.out _).mono ?_; rintro e w' ⟨rfl, rfl⟩)
          go_ret2
          rw [hfl.out]
          exact ⟨rfl, rfl⟩
      · have hkk : k = l.length := by omega
        have hfin : Hid (capV 10 l = .tuple #[.int .u64 (m : Int), .bool true]) := by
          show _ = _
          obtain ⟨h1, h2⟩ := hd.out
          rw [hkk, List.take_length] at h1 h2
          rw [capV, if_pos h1, ← h2]; rfl
        have hi : ¬ (k : Int) < (l.length : Int) := by omega
        go_wp2
        go_ret2
        rw [hfin.out]
        exact ⟨rfl, rfl⟩

set_option maxHeartbeats 2000000 in
set_option maxRecDepth 100000 in
theorem refnum_8 (c : UInt8) (hc : ¬ (c = 120 ∨ c = 88)) (t : List UInt8) (hl : t.length ≤ 1000000) (w : World) :
    Calls Tryd.prog 14 #[.string ⟨(48 :: c :: t).toArray⟩] w fun e w' => e = .returned (capV 8 (c :: t)) ∧ w = w' := by
  obtain ⟨s, hs⟩ : ∃ s : List UInt8, s = 48 :: c :: t := ⟨_, rfl⟩
  have hsl : s.length = t.length + 2 := by rw [hs]; simp
  have hsz : (⟨s.toArray⟩ : ByteArray).size = t.length + 2 := by rw [size_str, hsl]
  have He : (⟨s.toArray⟩ : ByteArray).extract 1 (t.length + 2) = ⟨(c :: t).toArray⟩ := by
    rw [ext_drop s 1 _ hsl.symm, hs]; rfl
  have h48 : ((((⟨s.toArray⟩ : ByteArray)[0]'(by omega)).toNat : Int) == 48) = true := by
    have : (⟨s.toArray⟩ : ByteArray)[0]'(by omega) = 48 := by subst hs; rfl
    rw [this]; rfl
  have h1a : ((((⟨s.toArray⟩ : ByteArray)[1]'(by omega)).toNat : Int) == 120) = false := by
    have : (⟨s.toArray⟩ : ByteArray)[1]'(by omega) = c := by subst hs; rfl
    rw [this]; exact byte_ne (d := 120) (fun e => hc (.inl e))
  have h1b : ((((⟨s.toArray⟩ : ByteArray)[1]'(by omega)).toNat : Int) == 88) = false := by
    have : (⟨s.toArray⟩ : ByteArray)[1]'(by omega) = c := by subst hs; rfl
    rw [this]; exact byte_ne (d := 88) (fun e => hc (.inr e))
  rw [← hs]
  clear hs hc
  have hll : (c :: t).length = t.length + 1 := by simp
  generalize c :: t = l at *
  have hlsz := size_str l
  go_enter Tryd.func14, Tryd.ntmps14
  go_wp2
  go_loopw [5, 6] (fun n i wr => ∃ (k : Nat) (m : Nat), k ≤ l.length ∧ n = .int .u64 (m : Int) ∧ i = .int .i64 (k : Int) ∧ wr = w ∧ m ≤ 4294967296 ∧ Hid (digitsB 8 (l.take k) = true ∧ m = min (numB 8 0 (l.take k)) 4294967296)) (fun _ i _ => l.length - (intOf i).toNat)
  case atStart => exact ⟨0, 0, Nat.zero_le _, rfl, rfl, rfl, Nat.zero_le _, rfl, rfl⟩
  case round =>
    obtain ⟨k, m, hk, rfl, rfl, rfl, hm4, hd⟩ := hrel
    by_cases hlt : k < l.length
    · have hi : (k : Int) < (l.length : Int) := by omega
      obtain ⟨d, hdd⟩ : ∃ d, worth l[k] = d := ⟨_, rfl⟩
      have hw := Lib.hid (fun W => worth_at l k hlt (by rw [size_str]; exact hlt) d hdd W)
      have hd99 : d ≤ 99 := by rw [← hdd]; exact worth_le _
      have hsn : Hid (numB 8 0 (l.take (k + 1)) = numB 8 0 (l.take k) * 8 + d) := by show _ = _; rw [take_snoc hlt, numB_snoc, hdd]
      by_cases hc : d < 8
      · have f1 : ¬ (8 : Int) ≤ (d : Int) := by omega
        have hdg := Lib.hid (digits_snoc (b := 8) hlt hd.out.1 (by rw [hdd]; exact hc))
        clear hdd
        by_cases hm : m * 8 + d ≤ 4294967296
        · have f2 : ¬ (4294967296 : Int) < (m : Int) * 8 + (d : Int) := by omega
          have hN : Hid (m * 8 + d = min (numB 8 0 (l.take (k + 1))) 4294967296) := by
            show _ = _
            rw [hsn.out]
            have := hd.out.2
            subst this
            exact cap_small (by omega) hm
          clear hm hc
          go_wp2_with (go_at_call 50; refine (hw.out _).mono ?_; rintro e w' ⟨rfl, rfl⟩)
          exact ⟨⟨k + 1, m * 8 + d, by omega, (by first | rfl | (congr 1; omega)), (by first | rfl | (congr 1; omega)), (by trivial), by omega, hdg.out, hN.out⟩, by simp [intOf]; omega⟩
        · have f2 : (4294967296 : Int) < (m : Int) * 8 + (d : Int) := by omega
          have hN : Hid (4294967296 = min (numB 8 0 (l.take (k + 1))) 4294967296) := by
            show _ = _
            rw [hsn.out]
            have := hd.out.2
            subst this
            exact cap_big (by omega) (by omega)
          clear hm hc
          go_wp2_with (go_at_call 50; refine (hw.out _).mono ?_; rintro e w' ⟨rfl, rfl⟩)
          exact ⟨⟨k + 1, 4294967296, by omega, (by first | rfl | (congr 1; omega)), (by first | rfl | (congr 1; omega)), (by trivial), by omega, hdg.out, hN.out⟩, by simp [intOf]; omega⟩
      · have f1 : (8 : Int) ≤ (d : Int) := by omega
        have hfl : Hid (capV 8 l = .tuple #[.int .u64 0, .bool false]) := by
          show _ = _
          rw [capV, digits_fail (b := 8) hlt (by rw [hdd]; exact hc)]; rfl
        clear hdd hc
        go_wp2_with (go_at_call 50; refine (hw.out _).mono ?_; rintro e w' ⟨rfl, rfl⟩)
        go_ret2
        rw [hfl.out]
        exact ⟨rfl, rfl⟩
    · have hkk : k = l.length := by omega
      have hfin : Hid (capV 8 l = .tuple #[.int .u64 (m : Int), .bool true]) := by
        show _ = _
        obtain ⟨h1, h2⟩ := hd.out
        rw [hkk, List.take_length] at h1 h2
        rw [capV, if_pos h1, ← h2]; rfl
      have hi : ¬ (k : Int) < (l.length : Int) := by omega
      go_wp2
      go_ret2
      rw [hfin.out]
      exact ⟨rfl, rfl⟩

set_option maxHeartbeats 2000000 in
set_option maxRecDepth 100000 in
theorem refnum_16 (c : UInt8) (hc : c = 120 ∨ c = 88) (l : List UInt8) (hl : l.length ≤ 1000000) (w : World) :
    Calls Tryd.prog 14 #[.string ⟨(48 :: c :: l).toArray⟩] w fun e w' => e = .returned (capV 16 l) ∧ w = w' := by
  obtain ⟨s, hs⟩ : ∃ s : List UInt8, s = 48 :: c :: l := ⟨_, rfl⟩
  have hsl : s.length = l.length + 2 := by rw [hs]; simp
  have hsz : (⟨s.toArray⟩ : ByteArray).size = l.length + 2 := by rw [size_str, hsl]
  have He : (⟨s.toArray⟩ : ByteArray).extract 2 (l.length + 2) = ⟨l.toArray⟩ := by
    rw [ext_drop s 2 _ hsl.symm, hs]; rfl
  have h48 : ((((⟨s.toArray⟩ : ByteArray)[0]'(by omega)).toNat : Int) == 48) = true := by
    have : (⟨s.toArray⟩ : ByteArray)[0]'(by omega) = 48 := by subst hs; rfl
    rw [this]; rfl
  have h1 : ((((⟨s.toArray⟩ : ByteArray)[1]'(by omega)).toNat : Int) == 120) = true ∨ (((((⟨s.toArray⟩ : ByteArray)[1]'(by omega)).toNat : Int) == 120) = false ∧ ((((⟨s.toArray⟩ : ByteArray)[1]'(by omega)).toNat : Int) == 88) = true) := by
    have : (⟨s.toArray⟩ : ByteArray)[1]'(by omega) = c := by subst hs; rfl
    rw [this]
    rcases hc with rfl | rfl
    · left; rfl
    · right; exact ⟨rfl, rfl⟩
  rw [← hs]
  clear hs hc
  have hlsz := size_str l
  rcases h1 with h1a | ⟨h1a, h1b⟩
  · go_enter Tryd.func14, Tryd.ntmps14
    go_wp2
    go_loopw [5, 6] (fun n i wr => ∃ (k : Nat) (m : Nat), k ≤ l.length ∧ n = .int .u64 (m : Int) ∧ i = .int .i64 (k : Int) ∧ wr = w ∧ m ≤ 4294967296 ∧ Hid (digitsB 16 (l.take k) = true ∧ m = min (numB 16 0 (l.take k)) 4294967296)) (fun _ i _ => l.length - (intOf i).toNat)
    case atStart => exact ⟨0, 0, Nat.zero_le _, rfl, rfl, rfl, Nat.zero_le _, rfl, rfl⟩
    case round =>
      obtain ⟨k, m, hk, rfl, rfl, rfl, hm4, hd⟩ := hrel
      by_cases hlt : k < l.length
      · have hi : (k : Int) < (l.length : Int) := by omega
        obtain ⟨d, hdd⟩ : ∃ d, worth l[k] = d := ⟨_, rfl⟩
        have hw := Lib.hid (fun W => worth_at l k hlt (by rw [size_str]; exact hlt) d hdd W)
        have hd99 : d ≤ 99 := by rw [← hdd]; exact worth_le _
        have hsn : Hid (numB 16 0 (l.take (k + 1)) = numB 16 0 (l.take k) * 16 + d) := by show _ = _; rw [take_snoc hlt, numB_snoc, hdd]
        by_cases hc : d < 16
        · have f1 : ¬ (16 : Int) ≤ (d : Int) := by omega
          have hdg := Lib.hid (digits_snoc (b := 16) hlt hd.out.1 (by rw [hdd]; exact hc))
          clear hdd
          by_cases hm : m * 16 + d ≤ 4294967296
          · have f2 : ¬ (4294967296 : Int) < (m : Int) * 16 + (d : Int) := by omega
            have hN : Hid (m * 16 + d = min (numB 16 0 (l.take (k + 1))) 4294967296) := by
              show _ = _
              rw [hsn.out]
              have := hd.out.2
              subst this
              exact cap_small (by omega) hm
            clear hm hc
            go_wp2_with (go_at_call 50; refine (hw.out _).mono ?_; rintro e w' ⟨rfl, rfl⟩)
            exact ⟨⟨k + 1, m * 16 + d, by omega, (by first | rfl | (congr 1; omega)), (by first | rfl | (congr 1; omega)), (by trivial), by omega, hdg.out, hN.out⟩, by simp [intOf]; omega⟩
          · have f2 : (4294967296 : Int) < (m : Int) * 16 + (d : Int) := by omega
            have hN : Hid (4294967296 = min (numB 16 0 (l.take (k + 1))) 4294967296) := by
              show _ = _
              rw [hsn.out]
              have := hd.out.2
              subst this
              exact cap_big (by omega) (by omega)
            clear hm hc
            go_wp2_with (go_at_call 50; refine (hw.out _).mono ?_; rintro e w' ⟨rfl, rfl⟩)
            exact ⟨⟨k + 1, 4294967296, by omega, (by first | rfl | (congr 1; omega)), (by first | rfl | (congr 1; omega)), (by trivial), by omega, hdg.out, hN.out⟩, by simp [intOf]; omega⟩
        · have f1 : (16 : Int) ≤ (d : Int) := by omega
          have hfl : Hid (capV 16 l = .tuple #[.int .u64 0, .bool false]) := by
            show _ = _
            rw [capV, digits_fail (b := 16) hlt (by rw [hdd]; exact hc)]; rfl
          clear hdd hc
          go_wp2_with (go_at_call 50; refine (hw.out _).mono ?_; rintro e w' ⟨rfl, rfl⟩)
          go_ret2
          rw [hfl.out]
          exact ⟨rfl, rfl⟩
      · have hkk : k = l.length := by omega
        have hfin : Hid (capV 16 l = .tuple #[.int .u64 (m : Int), .bool true]) := by
          show _ = _
          obtain ⟨h1, h2⟩ := hd.out
          rw [hkk, List.take_length] at h1 h2
          rw [capV, if_pos h1, ← h2]; rfl
        have hi : ¬ (k : Int) < (l.length : Int) := by omega
        go_wp2
        go_ret2
        rw [hfin.out]
        exact ⟨rfl, rfl⟩
  · go_enter Tryd.func14, Tryd.ntmps14
    go_wp2
    go_loopw [5, 6] (fun n i wr => ∃ (k : Nat) (m : Nat), k ≤ l.length ∧ n = .int .u64 (m : Int) ∧ i = .int .i64 (k : Int) ∧ wr = w ∧ m ≤ 4294967296 ∧ Hid (digitsB 16 (l.take k) = true ∧ m = min (numB 16 0 (l.take k)) 4294967296)) (fun _ i _ => l.length - (intOf i).toNat)
    case atStart => exact ⟨0, 0, Nat.zero_le _, rfl, rfl, rfl, Nat.zero_le _, rfl, rfl⟩
    case round =>
      obtain ⟨k, m, hk, rfl, rfl, rfl, hm4, hd⟩ := hrel
      by_cases hlt : k < l.length
      · have hi : (k : Int) < (l.length : Int) := by omega
        obtain ⟨d, hdd⟩ : ∃ d, worth l[k] = d := ⟨_, rfl⟩
        have hw := Lib.hid (fun W => worth_at l k hlt (by rw [size_str]; exact hlt) d hdd W)
        have hd99 : d ≤ 99 := by rw [← hdd]; exact worth_le _
        have hsn : Hid (numB 16 0 (l.take (k + 1)) = numB 16 0 (l.take k) * 16 + d) := by show _ = _; rw [take_snoc hlt, numB_snoc, hdd]
        by_cases hc : d < 16
        · have f1 : ¬ (16 : Int) ≤ (d : Int) := by omega
          have hdg := Lib.hid (digits_snoc (b := 16) hlt hd.out.1 (by rw [hdd]; exact hc))
          clear hdd
          by_cases hm : m * 16 + d ≤ 4294967296
          · have f2 : ¬ (4294967296 : Int) < (m : Int) * 16 + (d : Int) := by omega
            have hN : Hid (m * 16 + d = min (numB 16 0 (l.take (k + 1))) 4294967296) := by
              show _ = _
              rw [hsn.out]
              have := hd.out.2
              subst this
              exact cap_small (by omega) hm
            clear hm hc
            go_wp2_with (go_at_call 50; refine (hw.out _).mono ?_; rintro e w' ⟨rfl, rfl⟩)
            exact ⟨⟨k + 1, m * 16 + d, by omega, (by first | rfl | (congr 1; omega)), (by first | rfl | (congr 1; omega)), (by trivial), by omega, hdg.out, hN.out⟩, by simp [intOf]; omega⟩
          · have f2 : (4294967296 : Int) < (m : Int) * 16 + (d : Int) := by omega
            have hN : Hid (4294967296 = min (numB 16 0 (l.take (k + 1))) 4294967296) := by
              show _ = _
              rw [hsn.out]
              have := hd.out.2
              subst this
              exact cap_big (by omega) (by omega)
            clear hm hc
            go_wp2_with (go_at_call 50; refine (hw.out _).mono ?_; rintro e w' ⟨rfl, rfl⟩)
            exact ⟨⟨k + 1, 4294967296, by omega, (by first | rfl | (congr 1; omega)), (by first | rfl | (congr 1; omega)), (by trivial), by omega, hdg.out, hN.out⟩, by simp [intOf]; omega⟩
        · have f1 : (16 : Int) ≤ (d : Int) := by omega
          have hfl : Hid (capV 16 l = .tuple #[.int .u64 0, .bool false]) := by
            show _ = _
            rw [capV, digits_fail (b := 16) hlt (by rw [hdd]; exact hc)]; rfl
          clear hdd hc
          go_wp2_with (go_at_call 50; refine (hw.out _).mono ?_; rintro e w' ⟨rfl, rfl⟩)
          go_ret2
          rw [hfl.out]
          exact ⟨rfl, rfl⟩
      · have hkk : k = l.length := by omega
        have hfin : Hid (capV 16 l = .tuple #[.int .u64 (m : Int), .bool true]) := by
          show _ = _
          obtain ⟨h1, h2⟩ := hd.out
          rw [hkk, List.take_length] at h1 h2
          rw [capV, if_pos h1, ← h2]; rfl
        have hi : ¬ (k : Int) < (l.length : Int) := by omega
        go_wp2
        go_ret2
        rw [hfin.out]
        exact ⟨rfl, rfl⟩

set_option maxHeartbeats 2000000 in
set_option maxRecDepth 100000 in
theorem refnum_0 (w : World) : Calls Tryd.prog 14 #[.string ⟨#[]⟩] w fun e w' => e = .returned (numV none) ∧ w = w' := by
  go_enter Tryd.func14, Tryd.ntmps14
  go_wp2
  go_ret2
  exact ⟨rfl, rfl⟩
theorem capV_4 {s : List UInt8} (hs : s ≠ []) : numV (number4 s) = capV (base4 s).2 (base4 s).1 := by
  rw [number4, if_neg hs, capV]
theorem refnum_any (s : List UInt8) (hl : s.length ≤ 1000000) (w : World) :
    Calls Tryd.prog 14 #[.string ⟨s.toArray⟩] w fun e w' => e = .returned (numV (number4 s)) ∧ w = w' := by
  by_cases hs : s = []
  · subst hs; exact refnum_0 w
  rw [capV_4 hs]
  by_cases h : s.length < 2 ∨ s.head? ≠ some 48
  · rw [base4_other h]
    exact refnum_10 s h hs hl w
  · match s, h, hl with
    | [], h, _ => exact absurd (.inl (by simp)) h
    | [a], h, _ => exact absurd (.inl (by simp)) h
    | a :: c :: t, h, hl =>
      have ha : a = 48 := by
        by_cases e : a = 48
        · exact e
        · exact absurd (.inr (by simpa using e)) h
      subst ha
      by_cases hc : c = 120 ∨ c = 88
      · have e : base4 (48 :: c :: t) = (t, 16) := by unfold base4; exact if_pos hc
        rw [e]
        exact refnum_16 c hc t (by simp at hl; omega) w
      · have e : base4 (48 :: c :: t) = (c :: t, 8) := by unfold base4; exact if_neg hc
        rw [e]
        exact refnum_8 c hc t (by simp at hl; omega) w
#print axioms refnum_any
end Go.Proofs.YtmobeppmdakjmaaDoor
