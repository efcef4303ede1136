/- Law: FourLimits answers true at every address, numbers and byte. -/
import Derived.Test.YtmobeppmdakjmaaDoorL6
namespace Go.Proofs.YtmobeppmdakjmaaDoor
open Go.RowKit

theorem fourLimits_true (x : Nat) (hx : x < 4294967296) (m a c : UInt8) (w : World) (ho : Ok w) :
    Calls Tryd.prog 5 #[.int .u32 (x : Int), .int .u8 m.toNat, .int .u8 a.toNat, .int .u8 c.toNat] w fun e w' => e = .returned (.bool true) ∧ Below w.heap.size w w' :=
  fourLimits_main x hx m a c (1 + m.toNat % 4) (a.toNat % (1 + m.toNat % 4)) (by omega) (by omega) (by omega) (Nat.mod_lt _ (by omega)) (by rw [Int.natCast_emod]) w ho
#print axioms fourLimits_true
end Go.Proofs.YtmobeppmdakjmaaDoor
