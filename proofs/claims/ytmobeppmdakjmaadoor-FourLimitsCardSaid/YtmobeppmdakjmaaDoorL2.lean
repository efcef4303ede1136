/- Plain law: what is shown of an address is read as that address (FourBack). -/
import Derived.Test.YtmobeppmdakjmaaDoorL1
import Derived.Test.YtmobeppmdakjmaaDoorF1
namespace Go.Proofs.YtmobeppmdakjmaaDoor
open Go.RowKit

theorem dec_dec (n : Nat) (h : n < 256) : dec n = Lib.decDigits n := by rw [← dec_itoa n h, Lib.itoa_nonneg]
theorem number4_byte (n : Nat) (h : n < 256) : number4 (dec n) = some n := by rw [dec_dec n h, number4_dec]; congr 1; omega
theorem byte_ne' (n : Nat) : dec n ≠ [] := by unfold dec; simp
theorem byte_free (n : Nat) (h : n < 256) : (46 : UInt8) ∉ dec n := by rw [dec_dec n h]; exact dec_free n
theorem quad_free (x : Nat) : ∀ p ∈ quad x, (46 : UInt8) ∉ p := by
  intro p hp
  simp only [quad, List.mem_cons, List.not_mem_nil, or_false] at hp
  rcases hp with rfl | rfl | rfl | rfl <;> exact byte_free _ (by omega)
theorem split_show (x : Nat) : splitD [] (show4 x) = quad x := by
  rw [← splitC_46]; exact splitC_join 46 (quad x) (by simp [quad]) (quad_free x)
theorem parts_show (x : Nat) : parts4 (show4 x) = quad x := parts4_join (by simp [quad]) (by simp [quad]) (byte_ne' (x % 256)) (quad_free x)
theorem addr4_quad (x : Nat) (hx : x < 4294967296) : addr4 4 0 0 (quad x) = some x := by
  have h1 := number4_byte (x / 16777216 % 256) (by omega)
  have h2 := number4_byte (x / 65536 % 256) (by omega)
  have h3 := number4_byte (x / 256 % 256) (by omega)
  have h4 := number4_byte (x % 256) (by omega)
  unfold quad
  simp only [addr4, h1, h2, h3, h4]
  rw [if_pos (by omega), if_pos (by omega), if_pos (by omega), if_pos (by omega)]
  congr 1
  omega
theorem parse_show (x : Nat) (hx : x < 4294967296) : parse4 (show4 x) = some x := by
  unfold parse4
  rw [parts_show, if_neg (by simp [quad]), addr4_quad x hx]
theorem parse_show1 (x : Nat) (hx : x < 4294967296) : parse4 (show4 x ++ [46]) = some x := by
  unfold parse4
  rw [parts4_snoc, split_show, if_neg (by simp [quad]), addr4_quad x hx]
theorem parse_show2 (x : Nat) : parse4 (show4 x ++ [46, 46]) = none := by
  have e : show4 x ++ [46, 46] = (show4 x ++ [46]) ++ [46] := by simp
  unfold parse4
  rw [e, parts4_snoc, ← splitC_46, splitC_snoc, splitC_46, split_show, if_pos (by simp [quad])]
theorem ends_show (x : Nat) : ends4 (show4 x) = true := by
  unfold ends4
  rw [parts_show]
  simp [quad, byte_ne', number4_byte (x % 256) (by omega)]
theorem ends_show1 (x : Nat) : ends4 (show4 x ++ [46]) = true := by
  unfold ends4
  rw [parts4_snoc, split_show]
  simp [quad, byte_ne', number4_byte (x % 256) (by omega)]
theorem show_inj {x y : Nat} (hx : x < 4294967296) (hy : y < 4294967296) (h : show4 y = show4 x) : y = x := by
  have := parse_show y hy
  rw [h, parse_show x hx] at this
  injection this with this
  exact this.symm
theorem show_len (x : Nat) : (show4 x).length ≤ 100 := by
  have h1 := dec_len (x / 16777216 % 256)
  have h2 := dec_len (x / 65536 % 256)
  have h3 := dec_len (x / 256 % 256)
  have h4 := dec_len (x % 256)
  unfold show4
  rw [Lib.join_length]
  simp [Lib.lens]
  omega
#print axioms show_inj
end Go.Proofs.YtmobeppmdakjmaaDoor
