/- Law: SixShort answers true at every address and every two numbers. -/
import Derived.Test.YtmobeppmdakjmaaDoorT4
import Derived.Test.YtmobeppmdakjmaaDoorT6
namespace Go.Proofs.YtmobeppmdakjmaaDoor
open Go.RowKit

theorem sixShort_true (x : List Nat) (h8 : x.length = 8) (hx : ∀ n ∈ x, n < 65536) (a m : UInt8) (w : World) (ho : Ok6 w) :
    Calls Tryd.prog 9 #[addrV x, .int .u8 a.toNat, .int .u8 m.toNat] w fun e w' => e = .returned (.bool true) ∧ Below w.heap.size w w' := by
  obtain ⟨k, mm, h1, h2, h3, h4, h5⟩ := place_of a m
  exact sixShort_main x h8 hx m a k mm h1 h2 h3 h4 h5 w ho
#print axioms sixShort_true
end Go.Proofs.YtmobeppmdakjmaaDoor
