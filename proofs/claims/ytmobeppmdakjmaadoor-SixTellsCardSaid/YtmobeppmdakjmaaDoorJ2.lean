/- A byte in digits of ten. -/
import Derived.Test.YtmobeppmdakjmaaDoorL1
import Derived.Test.YtmobeppmdakjmaaDoorE1
namespace Go.Proofs.YtmobeppmdakjmaaDoor

theorem dec_dec (n : Nat) (h : n < 256) : dec n = Lib.decDigits n := by rw [← dec_itoa n h, Lib.itoa_nonneg]
theorem number4_byte (n : Nat) (h : n < 256) : number4 (dec n) = some n := by rw [dec_dec n h, number4_dec]; congr 1; omega
theorem byte_ne' (n : Nat) : dec n ≠ [] := by unfold dec; simp
theorem byte_free (n : Nat) (h : n < 256) : (46 : UInt8) ∉ dec n := by rw [dec_dec n h]; exact dec_free n
#print axioms byte_free
end Go.Proofs.YtmobeppmdakjmaaDoor
