/- Plain: numerals of whatever base up to thirty-six, in small letters. -/
import Derived.Test.YtmobeppmdakjmaaDoorL1
namespace Go.Proofs.YtmobeppmdakjmaaDoor

/-- The digits of small letters. -/
def digL : List UInt8 := [48, 49, 50, 51, 52, 53, 54, 55, 56, 57, 97, 98, 99, 100, 101, 102, 103, 104, 105, 106, 107, 108, 109, 110, 111, 112, 113, 114, 115, 116, 117, 118, 119, 120, 121, 122]
def dig (d : Nat) : UInt8 := digL.getD d 48
/-- The numeral of u at base k + 2, the first digit ahead. -/
def digs (k u : Nat) : List UInt8 := if _h : u < k + 2 then [dig u] else digs k (u / (k + 2)) ++ [dig (u % (k + 2))]
termination_by u
decreasing_by exact Nat.div_lt_self (by omega) (by omega)
theorem digs_small {k u : Nat} (h : u < k + 2) : digs k u = [dig u] := by rw [digs, dif_pos h]
theorem digs_big {k u : Nat} (h : ¬ u < k + 2) : digs k u = digs k (u / (k + 2)) ++ [dig (u % (k + 2))] := by rw [digs, dif_neg h]
theorem digs_ne (k u : Nat) : digs k u ≠ [] := by
  rw [digs]
  split <;> simp
theorem digs_len (k : Nat) : ∀ (n u : Nat), u < 2 ^ (n + 1) → (digs k u).length ≤ n + 1
  | n, u, h => by
    by_cases hs : u < k + 2
    · rw [digs_small hs]; simp
    · cases n with
      | zero => simp at h; omega
      | succ n =>
        rw [digs_big hs, List.length_append]
        have h2 : u / (k + 2) ≤ u / 2 := Nat.div_le_div_left (by omega) (by omega)
        rw [Nat.pow_succ] at h
        have := digs_len k n (u / (k + 2)) (by omega)
        simp only [List.length_cons, List.length_nil]
        omega
theorem dig_worth (d : Nat) (h : d < 16) : worth (dig d) = d := by
  have : ∀ d : Fin 16, worth (dig d.1) = d.1 := by decide +kernel
  exact this ⟨d, h⟩
theorem digs_num (k : Nat) (hk : k ≤ 14) (u : Nat) : numB (k + 2) 0 (digs k u) = u := by
  induction u using Nat.strongRecOn with
  | _ u ih =>
    by_cases hs : u < k + 2
    · rw [digs_small hs, numB, numB, dig_worth u (by omega)]; omega
    · have hm := Nat.mod_lt u (show k + 2 > 0 by omega)
      rw [digs_big hs, numB_app, ih _ (Nat.div_lt_self (by omega) (by omega)), numB, numB, dig_worth _ (by omega)]
      have := Nat.div_add_mod u (k + 2)
      rw [Nat.mul_comm] at this
      exact this
theorem digs_digits (k : Nat) (hk : k ≤ 14) (u : Nat) : digitsB (k + 2) (digs k u) = true := by
  induction u using Nat.strongRecOn with
  | _ u ih =>
    by_cases hs : u < k + 2
    · rw [digs_small hs]
      unfold digitsB
      rw [List.all_cons, dig_worth u (by omega), List.all_nil, decide_eq_true hs]
      rfl
    · have hm := Nat.mod_lt u (show k + 2 > 0 by omega)
      have h1 := ih _ (Nat.div_lt_self (show 0 < u by omega) (show 1 < k + 2 by omega))
      rw [digs_big hs]
      unfold digitsB at h1 ⊢
      rw [List.all_append, h1, List.all_cons, dig_worth _ (by omega), List.all_nil, decide_eq_true hm]
      rfl
#print axioms digs_num
end Go.Proofs.YtmobeppmdakjmaaDoor
