/- Words on memory: a builder beside another row of bytes. -/
import Derived.Test.YtpahiipfmccbiaaDoorM1
namespace Go.Proofs.YtpahiipfmccbiaaDoor
open Go.RowKit

/-- A builder, and beside it another row of bytes of the call's own. -/
structure Two (w : World) (base b : Nat) (v : Value) (bs : List Value) (qb : Nat) (q : Value) (n : Nat) (qs : List Value) : Prop where
  bld : Bld w base b v bs
  row : w.ownsRow qb 5 1 q n qs
  ne1 : q.ownBlock ≠ some b
  ne2 : ∀ g, v.ownBlock = some g → q.ownBlock ≠ some g
theorem Two.write {base b : Nat} {v : Value} {bs : List Value} {qb : Nat} {q : Value} {n : Nat} {qs : List Value} (c : Int) (w : World) (h : Two w base b v bs qb q n qs) (hlen : bs.length + 1 ≤ 140737488355328) (hBw : base ≤ w.heap.size) :
    Calls Tryd.prog 31 #[.pointer (some ⟨b, 0, none⟩), .int .u8 c] w fun e w' => e = .returned .nilIface ∧ ∃ v', Two w' base b v' (bs ++ [.int .u8 c]) qb q n qs ∧ Below base w w' := by
  refine (writeByte_any base b v bs c w h.bld hlen hBw).mono ?_
  rintro e w' ⟨rfl, v', hb', hat, hk⟩
  refine ⟨rfl, v', ⟨hb', hk.own h.row ?_, h.ne1, ?_⟩, hk.below hBw ?_⟩
  · rintro k hq (rfl | e)
    · exact h.ne1 hq
    · exact h.ne2 k e hq
  · intro g hg hq
    rcases hat with e | ⟨g', e, hge⟩
    · exact h.ne2 g (by rw [← e]; exact hg) hq
    · rw [e] at hg
      injection hg with hg
      have := (h.row.lt g hq).2
      omega
  · rintro k hkb (rfl | e)
    · have := h.bld.hB; omega
    · have := (h.bld.own.lt k e).1; omega
end Go.Proofs.YtpahiipfmccbiaaDoor
