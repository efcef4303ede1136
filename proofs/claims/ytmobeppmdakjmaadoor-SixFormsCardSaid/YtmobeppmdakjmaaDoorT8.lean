/- Law: SixForms answers true at every address, all noughts ahead, every row of them, with an inner address or not. -/
import Derived.Test.YtmobeppmdakjmaaDoorT7
namespace Go.Proofs.YtmobeppmdakjmaaDoor
open Go.RowKit

theorem sixForms_true (x : List Nat) (h8 : x.length = 8) (hx : ∀ n ∈ x, n < 65536) (A : Option Addr) (nz : List UInt8) (cap : Nat) (a m : UInt8) (inner : Bool) (w : World) (hrd : Rd w w.heap.size A (bytV nz)) (ho : Ok6 w) :
    Calls Tryd.prog 8 #[addrV x, .slice A nz.length cap, .int .u8 a.toNat, .int .u8 m.toNat, .bool inner] w fun e w' => e = .returned (.bool true) ∧ Below w.heap.size w w' := by
  obtain ⟨k, mm, h1, h2, h3, h4, h5⟩ := place_of a m
  exact sixForms_main x h8 hx nz A cap m a k mm h1 h2 h3 h4 h5 inner w w.heap.size (Nat.le_refl _) hrd ho
#print axioms sixForms_true
end Go.Proofs.YtmobeppmdakjmaaDoor
