/- Law: FourForms answers true at every address, every number of parts, and however each is written. -/
import Derived.Test.YtmobeppmdakjmaaGreatDoorV3
namespace Go.Proofs.YtmobeppmdakjmaaGreatDoor
open Go.RowKit

theorem fourForms_true (x : Nat) (hx : x < 4294967296) (m h0 h1 h2 h3 : UInt8) (w : World) (ho : Ok w) (ht : Tz w) :
    Calls Tryz.prog 3 #[.int .u32 (x : Int), .int .u8 m.toNat, .agg #[.int .u8 h0.toNat, .int .u8 h1.toNat, .int .u8 h2.toNat, .int .u8 h3.toNat]] w fun e w' => e = .returned (.bool true) ∧ Below w.heap.size w w' :=
  fourForms_main x hx m h0 h1 h2 h3 (1 + m.toNat % 4) (by omega) (by omega) (by omega) w ho ht
#print axioms fourForms_true
end Go.Proofs.YtmobeppmdakjmaaGreatDoor
