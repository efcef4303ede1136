/- Walks: slices.Backward over a row of texts: the contract of its iterator. -/
import Derived.RangeFuncNested
import Derived.RangeFuncBound
import Derived.RangeFuncCalls
import Derived.RangeFuncLeaves
import Derived.Shelf.Abstract
import Derived.Shelf.RegionOpen
import Derived.OwnWalkIn
import Derived.TacticsInMore
import Derived.LoopNIn
import Derived.LoopIn
import Derived.Test.YtmobeppmdakjmaaGreatDoorC1
namespace Go.Proofs.YtmobeppmdakjmaaGreatDoor
open Go.RowKit Go.Shelf
attribute [local go_sem] Oper.semAt_some

/-- A part with its place. -/
abbrev Part (L : Nat) := { x : Nat × List UInt8 // x.1 ≤ L ∧ x.2.length ≤ 1000000 }
variable {L : Nat}
def encPart (x : Part L) : Array Value := #[.int .i64 (x.1.1 : Int), .string ⟨x.1.2.toArray⟩]
/-- What has come when m are left of them. -/
def came (f : Nat → Part L) (len m : Nat) : List (Part L) := (List.range (len - m)).map fun j => f (len - 1 - j)
theorem came_all (f : Nat → Part L) (len : Nat) : came f len len = [] := by simp [came]
theorem came_step (f : Nat → Part L) {len m : Nat} (h : m < len) : came f len m = came f len (m + 1) ++ [f m] := by
  have e : len - m = (len - (m + 1)) + 1 := by omega
  unfold came
  rw [e, List.range_succ, List.map_append]
  congr 2
  simp
  congr 1
  omega
theorem came_length (f : Nat → Part L) (len m : Nat) : (came f len m).length = len - m := by simp [came]

/-- Two blocks lie as they lay. -/
def Kp2 (b c : Nat) (W W' : World) : Prop := W'.heap[b]? = W.heap[b]? ∧ W'.heap[c]? = W.heap[c]?
theorem Kp2.refl (b c : Nat) (W : World) : Kp2 b c W W := ⟨rfl, rfl⟩
theorem Kp2.trans {b c : Nat} {A B C : World} (h : Kp2 b c A B) (k : Kp2 b c B C) : Kp2 b c A C := ⟨k.1.trans h.1, k.2.trans h.2⟩
theorem Kp2.fst {b c : Nat} {A B : World} (h : Kp2 b c A B) {p : Addr} {v : Value} (hp : p.block = b) (hc : A.cell? p = some v) : B.cell? p = some v := (World.cell?_of_block (by rw [hp]; exact h.1)).trans hc
theorem Kp2.snd {b c : Nat} {A B : World} (h : Kp2 b c A B) {p : Addr} {v : Value} (hp : p.block = c) (hc : A.cell? p = some v) : B.cell? p = some v := (World.cell?_of_block (by rw [hp]; exact h.2)).trans hc
theorem Kp2.of_below {b c N : Nat} {A B : World} (h : Below N A B) (hb : b < N) (hc : c < N) : Kp2 b c A B := ⟨h.block b hb, h.block c hc⟩
theorem Kp2.book {b c : Nat} {w : World} (hb : b < w.heap.size) (hc : c < w.heap.size) (W : World) (l : Nat) (o o' : Obj) (hl : w.heap.size ≤ l) (h : W.heap[l]? = some o) (h1 : o.isCells = false) (h2 : o.isWalk = false) : Kp2 b c W (W.putObj l o') :=
  .of_below (belowK_b (Nat.le_refl _) W l o o' hl h h1 h2) hb hc

set_option maxRecDepth 100000 in
set_option maxHeartbeats 2000000 in
theorem back1_in (F : Fence) (n : Nat) (h8 : F.fn 72) (hro : F.round = none) (hn : 1 ≤ n) (l Bs b off len cap : Nat) (f : Nat → Part L) (hreach : len ≤ 4) (J Jx : List (Part L) → World → Prop)
    (hY : ∀ pre x W, J pre W → pre.length < len → YieldAt F (n - 1) Tryz.prog l (encPart x) W fun e W' =>
      (e = .returned (.bool true) ∧ J (pre ++ [x]) W' ∧ Kp2 b Bs W W') ∨ (e = .returned (.bool false) ∧ Jx (pre ++ [x]) W'))
    (W : World) (hBs : W.cell? ⟨Bs, 0, none⟩ = some (.slice (some ⟨b, off, none⟩) len cap)) (hc : ∀ j, j < len → (f j).1.1 = j ∧ W.cell? ⟨b, off + j, none⟩ = some (.string ⟨(f j).1.2.toArray⟩)) (h0 : J [] W) :
    CallsIn F n Tryz.prog 72 #[.func (.yield l) #[] #[], .pointer (some ⟨Bs, 0, none⟩)] W fun e W' => (∃ v, e = .returned v) ∧
      ((∃ ys, ys = came f len 0 ∧ J ys W') ∨ (∃ pre, (∃ m, m ≤ len ∧ pre = came f len m) ∧ Jx pre W')) := by
  refine callsIn_of_wp Tryz.func72 rfl h8 ?_ hro
  simp only [Tryz.ntmps72, List.size_toArray, List.length_cons, List.length_nil, Nat.reduceAdd, Nat.reduceSub, Array.replicate_succ, Array.replicate_zero, List.push_toArray, List.append_toArray, List.nil_append, List.cons_append]
  gi_wp2
  gi_loopw [3] (fun i wr => ∃ m : Nat, m ≤ len ∧ i = .int .i64 ((m : Int) - 1) ∧ J (came f len m) wr ∧ Kp2 b Bs W wr)
    (fun i _ => (intOf i + 1).toNat)
  case atStart => exact ⟨len, Nat.le_refl _, rfl, by rw [came_all]; exact h0, Kp2.refl _ _ _⟩
  case round =>
    obtain ⟨m, hm, rfl, hJs, hnx⟩ := hrel
    by_cases hz : m = 0
    · subst hz
      gi_wp2
      go_end0
      exact ⟨⟨_, rfl⟩, .inl ⟨_, rfl, hJs⟩⟩
    · obtain ⟨k, rfl⟩ : ∃ k, m = k + 1 := ⟨m - 1, by omega⟩
      obtain ⟨hf1, hcell⟩ := hc k (by omega)
      have hcx := hnx.fst rfl hcell
      have hbx := hnx.snd rfl hBs
      have hk1 : ((k + 1 : Nat) : Int) - 1 = (k : Int) := by omega
      rw [hk1]
      obtain ⟨fn, tmps, assign, body, hy, hR⟩ := hY _ (f k) wr hJs (by rw [came_length]; omega)
      dsimp only [encPart] at hy
      rw [hf1] at hy
      gi_wp2
      refine hR.mono ?_
      rintro e W3 (⟨rfl, hJ3, hk3⟩ | ⟨rfl, hJx3⟩)
      · gi_wp2
        go_roundw
        case rel => exact ⟨k, by omega, rfl, by rw [came_step f (by omega)]; exact hJ3, hnx.trans hk3⟩
        case measure => simp [intOf]
      · gi_wp2
        refine bodyPost_ret (results_none rfl _ _ _) rfl ?_
        exact ⟨⟨_, rfl⟩, .inr ⟨_, ⟨k, by omega, (came_step f (by omega)).symm⟩, hJx3⟩⟩

set_option maxRecDepth 100000 in
set_option maxHeartbeats 1000000 in
theorem back_in (F : Fence) (n : Nat) (h5 : F.fn 53) (hro : F.round = none) (a : Option Addr) (len cap : Nat) (w : World) :
    CallsIn F n Tryz.prog 53 #[.slice a len cap] w fun e w' => e = .returned (.func (.func 72) #[] #[.pointer (some ⟨w.heap.size, 0, none⟩)]) ∧ w' = w.alloc (.cells #[.slice a len cap] 24) := by
  refine callsIn_of_wp Tryz.func53 rfl h5 ?_ hro
  simp only [Tryz.ntmps53, List.size_toArray, List.length_cons, List.length_nil, Nat.reduceAdd, Nat.reduceSub, Array.replicate_succ, Array.replicate_zero, List.push_toArray, List.append_toArray, List.nil_append, List.cons_append]
  gi_wp2
  go_ret
  exact ⟨rfl, rfl⟩
set_option maxRecDepth 100000 in
set_option maxHeartbeats 1000000 in
theorem backwards_in (F : Fence) (n : Nat) (h5 : F.fn 30) (h6 : F.fn 53) (hro : F.round = none) (hn : 1 ≤ n) (a : Option Addr) (len cap : Nat) (w : World) :
    CallsIn F n Tryz.prog 30 #[.slice a len cap] w fun e w' => e = .returned (.func (.func 72) #[] #[.pointer (some ⟨w.heap.size, 0, none⟩)]) ∧ w' = w.alloc (.cells #[.slice a len cap] 24) := by
  refine callsIn_of_wp Tryz.func30 rfl h5 ?_ hro
  simp only [Tryz.ntmps30, List.size_toArray, List.length_cons, List.length_nil, Nat.reduceAdd, Nat.reduceSub, Array.replicate_succ, Array.replicate_zero, List.push_toArray, List.append_toArray, List.nil_append, List.cons_append]
  gi_wp2_with (gi_at_call 53; refine (back_in F (n - 1) h6 hro _ _ _ _).mono ?_; rintro e w' ⟨rfl, rfl⟩)
  go_ret
  exact ⟨rfl, rfl⟩
theorem back_stops (F : Fence) (n : Nat) (h8 : F.fn 72) (hro : F.round = none) (hn : 1 ≤ n) (Bs b off len cap : Nat) (f : Nat → Part L) (hreach : len ≤ 4) (w : World) (hBs : Bs < w.heap.size) (hb : b < w.heap.size)
    (hc0 : w.cell? ⟨Bs, 0, none⟩ = some (.slice (some ⟨b, off, none⟩) len cap)) (hc : ∀ j, j < len → (f j).1.1 = j ∧ w.cell? ⟨b, off + j, none⟩ = some (.string ⟨(f j).1.2.toArray⟩)) :
    SeqStopsK F n Tryz.prog 72 #[.pointer (some ⟨Bs, 0, none⟩)] encPart (Kp2 b Bs) (fun ys => ys = came f len 0) (fun pre => ∃ m, m ≤ len ∧ pre = came f len m) len w := fun l J Jx W hW _ _ hY h0 =>
  back1_in F n h8 hro hn l Bs b off len cap f hreach J Jx hY W ((hW.cell (p := ⟨Bs, 0, none⟩) hBs).trans hc0) (fun j hj => ⟨(hc j hj).1, (hW.cell (p := ⟨b, off + j, none⟩) hb).trans (hc j hj).2⟩) h0
#print axioms back1_in
#print axioms backwards_in
end Go.Proofs.YtmobeppmdakjmaaGreatDoor
