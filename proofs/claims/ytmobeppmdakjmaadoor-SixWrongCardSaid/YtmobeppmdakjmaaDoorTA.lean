/- Law: SixWrong answers true at every address, place, byte, and text. -/
import Derived.Test.YtmobeppmdakjmaaDoorT9
namespace Go.Proofs.YtmobeppmdakjmaaDoor
open Go.RowKit

set_option maxHeartbeats 4000000 in
set_option maxRecDepth 100000 in
theorem sixWrong_long (x : List Nat) (h8 : x.length = 8) (a c : UInt8) (s : List UInt8) (hl : 100 < s.length) (w : World) (ho : Ok6 w) :
    Calls Tryd.prog 10 #[addrV x, .int .u8 a.toNat, .int .u8 c.toNat, .string ⟨s.toArray⟩] w fun e w' => e = .returned (.bool true) ∧ Below w.heap.size w w' := by
  have hsz := size_str s
  have i1 : (100 : Int) < (s.length : Int) := by omega
  have hb0 : Below w.heap.size w (w.alloc (.cells (u16V x).toArray 44)) := (Below.refl _ w).alloc (Nat.le_refl _) _
  have Ha := Lib.hid (awake6_true _ (ho.below hb0))
  have Hb0 := Lib.hid hb0
  obtain ⟨c0, c1, c2, c3, c4, c5, c6, c7, hxe⟩ := eight h8
  have hcx : (u16V x).toArray = #[.int .u16 (c0 : Int), .int .u16 (c1 : Int), .int .u16 (c2 : Int), .int .u16 (c3 : Int), .int .u16 (c4 : Int), .int .u16 (c5 : Int), .int .u16 (c6 : Int), .int .u16 (c7 : Int)] := by rw [hxe]; rfl
  unfold addrV
  rw [hcx] at Ha Hb0 ⊢
  clear hb0 hl hcx hxe ho h8
  go_enter Tryd.func10, Tryd.ntmps10
  go_wp2_with fail
  refine Ha.out.mono ?_
  rintro e w' ⟨rfl, hb⟩
  go_wp2
  go_ret
  exact ⟨rfl, Hb0.out.trans (hb.mono Hb0.out.size)⟩
theorem sixWrong_true (x : List Nat) (h8 : x.length = 8) (hx : ∀ n ∈ x, n < 65536) (a c : UInt8) (s : List UInt8) (w : World) (ho : Ok6 w) :
    Calls Tryd.prog 10 #[addrV x, .int .u8 a.toNat, .int .u8 c.toNat, .string ⟨s.toArray⟩] w fun e w' => e = .returned (.bool true) ∧ Below w.heap.size w w' := by
  by_cases hl : 100 < s.length
  · exact sixWrong_long x h8 a c s hl w ho
  · exact sixWrong_main x h8 hx a c (a.toNat % 8) (Nat.mod_lt _ (by decide)) (by omega) s (by omega) w ho
#print axioms sixWrong_true
end Go.Proofs.YtmobeppmdakjmaaDoor
