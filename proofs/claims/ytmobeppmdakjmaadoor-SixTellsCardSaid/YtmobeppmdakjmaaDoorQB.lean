/- Walk: six.Parse: the address that a text says. (Printed by qa.py.) Walk: six.Parse. -/
import Derived.RangeFuncBox
import Derived.Test.YtmobeppmdakjmaaDoorQ9
import Derived.Test.YtmobeppmdakjmaaDoorQ3
import Derived.Laws.ResultCell
import Derived.Laws.Rows
namespace Go.Proofs.YtmobeppmdakjmaaDoor
open Go.RowKit

def zeros8 : List Nat := [0, 0, 0, 0, 0, 0, 0, 0]
/-- What six.Parse hands back. -/
def parse6V : Option (List Nat) → Value
  | some l => .tuple #[addrV l, .int .i64 0]
  | none => .tuple #[addrV zeros8, .int .i64 31]
theorem cut_any (s : List UInt8) (hl : s.length ≤ 100000) (h t : List UInt8) (b : Bool) (hc : cut6 s = (h, if b = true then some t else none)) (ht : b = false → t = []) (w : World) (ho : Ok w) :
    Calls Tryd.prog 61 #[.string ⟨s.toArray⟩, .string ⟨#[58, 58]⟩] w fun e w' => e = .returned (.tuple #[.string ⟨h.toArray⟩, .string ⟨t.toArray⟩, .bool b]) ∧ Below w.heap.size w w' := by
  obtain ⟨m, hm⟩ := ho.mx.2
  have hcut := cut_is s
  rw [hc] at hcut
  have hcut2 : Lib.cut s [58, 58] = (h, t, b) := by
    rw [hcut]
    cases b with
    | true => rfl
    | false => rw [ht rfl]; rfl
  refine (Tryd.strings_Cut ⟨s.toArray⟩ ⟨#[58, 58]⟩ m w (by rw [size_str]; omega) hm).mono ?_
  rintro e w' ⟨rfl, n, rfl⟩
  refine ⟨?_, below_drewN (Below.refl _ _) n⟩
  show Ending.returned (.tuple #[.string ⟨(Lib.cut s [58, 58]).1.toArray⟩, .string ⟨(Lib.cut s [58, 58]).2.1.toArray⟩, .bool (Lib.cut s [58, 58]).2.2]) = _
  rw [hcut2]
/-- The result's block: nought as long as nothing is laid. -/
def Res (N : Nat) (w : World) : Prop := w.heap[N]? = some (.cells #[.int .u16 0, .int .u16 0, .int .u16 0, .int .u16 0, .int .u16 0, .int .u16 0, .int .u16 0, .int .u16 0] 44 (0, 0))
theorem Res.below {N : Nat} {w w' : World} (h : Res N w) (hb : Below w.heap.size w w') : Res N w' := (hb.block N (Array.getElem?_eq_some_iff.1 h).1).trans h
theorem Res.cells {N : Nat} {w : World} (h : Res N w) : w.cell? ⟨N, 0, none⟩ = some (.int .u16 0) ∧ w.cell? ⟨N, 1, none⟩ = some (.int .u16 0) ∧ w.cell? ⟨N, 2, none⟩ = some (.int .u16 0) ∧ w.cell? ⟨N, 3, none⟩ = some (.int .u16 0) ∧
    w.cell? ⟨N, 4, none⟩ = some (.int .u16 0) ∧ w.cell? ⟨N, 5, none⟩ = some (.int .u16 0) ∧ w.cell? ⟨N, 6, none⟩ = some (.int .u16 0) ∧ w.cell? ⟨N, 7, none⟩ = some (.int .u16 0) := by
  refine ⟨?_, ?_, ?_, ?_, ?_, ?_, ?_, ?_⟩ <;> (unfold World.cell?; rw [show w.heap[N]? = _ from h]; rfl)
theorem Res.frozen {N : Nat} {w : World} (h : Res N w) (j : Nat) : w.frozen? ⟨N, j, none⟩ = false := by
  unfold World.frozen?; rw [show w.heap[N]? = _ from h]; simp
theorem res_set8 {N : Nat} {w : World} (h : Res N w) (v0 v1 v2 v3 v4 v5 v6 v7 : Value) :
    ((((((((w.setCell ⟨N, 0, none⟩ v0).setCell ⟨N, 1, none⟩ v1).setCell ⟨N, 2, none⟩ v2).setCell ⟨N, 3, none⟩ v3).setCell ⟨N, 4, none⟩ v4).setCell ⟨N, 5, none⟩ v5).setCell ⟨N, 6, none⟩ v6).setCell ⟨N, 7, none⟩ v7).heap[N]? = some (.cells #[v0, v1, v2, v3, v4, v5, v6, v7] 44 (0, 0)) := by
  have h0 : (w.setCell ⟨N, 0, none⟩ v0).heap[N]? = some (.cells #[v0, .int .u16 0, .int .u16 0, .int .u16 0, .int .u16 0, .int .u16 0, .int .u16 0, .int .u16 0] 44 (0, 0)) := heap_setCell_same _ N 0 _ 44 v0 h
  have h1 : ((w.setCell ⟨N, 0, none⟩ v0).setCell ⟨N, 1, none⟩ v1).heap[N]? = some (.cells #[v0, v1, .int .u16 0, .int .u16 0, .int .u16 0, .int .u16 0, .int .u16 0, .int .u16 0] 44 (0, 0)) := heap_setCell_same _ N 1 _ 44 v1 h0
  have h2 : (((w.setCell ⟨N, 0, none⟩ v0).setCell ⟨N, 1, none⟩ v1).setCell ⟨N, 2, none⟩ v2).heap[N]? = some (.cells #[v0, v1, v2, .int .u16 0, .int .u16 0, .int .u16 0, .int .u16 0, .int .u16 0] 44 (0, 0)) := heap_setCell_same _ N 2 _ 44 v2 h1
  have h3 : ((((w.setCell ⟨N, 0, none⟩ v0).setCell ⟨N, 1, none⟩ v1).setCell ⟨N, 2, none⟩ v2).setCell ⟨N, 3, none⟩ v3).heap[N]? = some (.cells #[v0, v1, v2, v3, .int .u16 0, .int .u16 0, .int .u16 0, .int .u16 0] 44 (0, 0)) := heap_setCell_same _ N 3 _ 44 v3 h2
  have h4 : (((((w.setCell ⟨N, 0, none⟩ v0).setCell ⟨N, 1, none⟩ v1).setCell ⟨N, 2, none⟩ v2).setCell ⟨N, 3, none⟩ v3).setCell ⟨N, 4, none⟩ v4).heap[N]? = some (.cells #[v0, v1, v2, v3, v4, .int .u16 0, .int .u16 0, .int .u16 0] 44 (0, 0)) := heap_setCell_same _ N 4 _ 44 v4 h3
  have h5 : ((((((w.setCell ⟨N, 0, none⟩ v0).setCell ⟨N, 1, none⟩ v1).setCell ⟨N, 2, none⟩ v2).setCell ⟨N, 3, none⟩ v3).setCell ⟨N, 4, none⟩ v4).setCell ⟨N, 5, none⟩ v5).heap[N]? = some (.cells #[v0, v1, v2, v3, v4, v5, .int .u16 0, .int .u16 0] 44 (0, 0)) := heap_setCell_same _ N 5 _ 44 v5 h4
  have h6 : (((((((w.setCell ⟨N, 0, none⟩ v0).setCell ⟨N, 1, none⟩ v1).setCell ⟨N, 2, none⟩ v2).setCell ⟨N, 3, none⟩ v3).setCell ⟨N, 4, none⟩ v4).setCell ⟨N, 5, none⟩ v5).setCell ⟨N, 6, none⟩ v6).heap[N]? = some (.cells #[v0, v1, v2, v3, v4, v5, v6, .int .u16 0] 44 (0, 0)) := heap_setCell_same _ N 6 _ 44 v6 h5
  have h7 : ((((((((w.setCell ⟨N, 0, none⟩ v0).setCell ⟨N, 1, none⟩ v1).setCell ⟨N, 2, none⟩ v2).setCell ⟨N, 3, none⟩ v3).setCell ⟨N, 4, none⟩ v4).setCell ⟨N, 5, none⟩ v5).setCell ⟨N, 6, none⟩ v6).setCell ⟨N, 7, none⟩ v7).heap[N]? = some (.cells #[v0, v1, v2, v3, v4, v5, v6, v7] 44 (0, 0)) := heap_setCell_same _ N 7 _ 44 v7 h6
  exact h7
theorem below_set1 {B N : Nat} {w0 w : World} (h : Below B w0 w) (hN : B ≤ N) (j : Nat) (v : Value) : Below B w0 (w.setCell ⟨N, j, none⟩ v) := h.setCell (p := ⟨N, j, none⟩) hN v
theorem below_set8 {B N : Nat} {w0 w : World} (h : Below B w0 w) (hN : B ≤ N) (v0 v1 v2 v3 v4 v5 v6 v7 : Value) :
    Below B w0 ((((((((w.setCell ⟨N, 0, none⟩ v0).setCell ⟨N, 1, none⟩ v1).setCell ⟨N, 2, none⟩ v2).setCell ⟨N, 3, none⟩ v3).setCell ⟨N, 4, none⟩ v4).setCell ⟨N, 5, none⟩ v5).setCell ⟨N, 6, none⟩ v6).setCell ⟨N, 7, none⟩ v7) := by
  exact below_set1 (below_set1 (below_set1 (below_set1 (below_set1 (below_set1 (below_set1 (below_set1 h hN 0 v0) hN 1 v1) hN 2 v2) hN 3 v3) hN 4 v4) hN 5 v5) hN 6 v6) hN 7 v7
theorem pieces6_len (last : Bool) : ∀ (P : List (List UInt8)) (l : List Nat), pieces6 last P = some l → l.length ≤ P.length + 1
  | [], l, h => by cases h; simp
  | p :: t, l, h => by
    rw [pieces6] at h
    cases hi : (if last = true ∧ t = [] then inner6 p else none) with
    | some q =>
      rw [hi] at h
      simp only [Option.some.injEq] at h
      subst h
      split at hi
      · have := inner_two hi
        simp only [List.length_cons]
        omega
      · cases hi
    | none =>
      rw [hi] at h
      simp only at h
      cases hp : piece6 p with
      | none => rw [hp] at h; cases h
      | some n =>
        rw [hp] at h
        cases ht : pieces6 last t with
        | none => rw [ht] at h; cases h
        | some q =>
          rw [ht] at h
          simp only [Option.some.injEq] at h
          subst h
          have := pieces6_len last t q ht
          simp only [List.length_cons]
          omega
theorem piecesOf_len {last : Bool} {s : List UInt8} {l : List Nat} (h : piecesOf last s = some l) : l.length ≤ s.length + 2 := by
  unfold piecesOf at h
  split at h
  · cases h; simp
  · have h1 := pieces6_len last _ l h
    have h2 := splitC_len 58 s []
    omega
theorem Tryd.size43 : (Tryd.prog.info? 43).map (fun i => i.size) = some 1 := by kernel_rfl
theorem rd_pos {w : World} {B : Nat} {A : Option Addr} {xs : List Value} (h : Rd w B A xs) (hp : 0 < xs.length) : ∃ ad, A = some ad ∧ ∀ j v, xs[j]? = some v → w.cell? (ad.add j) = some v := by
  obtain ⟨b, off, rfl, _, _⟩ := h 0 _ (List.getElem?_eq_getElem hp)
  exact ⟨_, rfl, fun j v hj => by rw [addr_add]; exact h.cell hj⟩
theorem u16V_zero (n : Nat) : u16V (List.replicate n 0) = List.replicate n (.int .u16 0) := by
  unfold u16V
  rw [List.map_replicate]
  rfl
theorem u16V_app (a b : List Nat) : u16V (a ++ b) = u16V a ++ u16V b := by
  unfold u16V
  rw [List.map_append]
theorem splice_two (l1 l2 : List Nat) (h : l1.length + l2.length ≤ 8) : splice (splice (u16V zeros8) 0 (u16V l1)) (8 - l2.length) (u16V l2) = u16V (l1 ++ List.replicate (8 - (l1.length + l2.length)) 0 ++ l2) := by
  have hz : u16V zeros8 = List.replicate 8 (.int .u16 0) := rfl
  have h1 : splice (u16V zeros8) 0 (u16V l1) = u16V (l1 ++ List.replicate (8 - l1.length) 0) := by
    unfold splice
    rw [hz, List.take_zero, List.nil_append, Nat.zero_add, u16V_length, List.drop_replicate, u16V_app, u16V_zero]
  rw [h1]
  unfold splice
  rw [u16V_length, List.drop_of_length_le (by rw [u16V_length, List.length_append, List.length_replicate]; omega), List.append_nil]
  have h2 : (u16V (l1 ++ List.replicate (8 - l1.length) 0)).take (8 - l2.length) = u16V (l1 ++ List.replicate (8 - (l1.length + l2.length)) 0) := by
    unfold u16V
    rw [← List.map_take, List.take_append, List.take_of_length_le (by omega), List.take_replicate]
    have he : min (8 - l2.length - l1.length) (8 - l1.length) = 8 - (l1.length + l2.length) := by omega
    rw [he]
  rw [h2, u16V_app _ l2]
theorem Tryd.size44 : (Tryd.prog.info? 44).map (fun i => i.size) = some 8 := by kernel_rfl
theorem results_addr {fn : Func} (h : fn.results = #[.cell 2 44, .tmp 3]) (tmps : Array Value) (w : World) (N : Nat) (cs : Array Value) (hp : tmps.getD 2 undef = .pointer (some ⟨N, 0, none⟩)) (hg : w.heap[N]? = some (.cells cs 44 (0, 0))) (hsz : cs.size = 8) :
    (results fn tmps).run Tryd.prog w = .ok (.tuple #[.agg cs, tmps.getD 3 undef]) w := by
  have hi : (Tryd.prog.info? 44).map (·.size) = some cs.size := by rw [hsz]; exact Tryd.size44
  have hl := run_loadVar_row w N 44 44 cs (0, 0) _ hg Tryd.underlying44 rfl hi
  rw [results_cell_tmp h, hp]
  have ha : (asAddr (.pointer (some (⟨N, 0, none⟩ : Addr)))).run Tryd.prog w = .ok ⟨N, 0, none⟩ w := rfl
  rw [ha, Result.andThen_ok, hl, Result.andThen_ok]
theorem slice_tail (N n : Nat) (hn : n ≤ 8) : ∃ off, (0 < n → off = 8 - n) ∧ ∀ W : World, (Instr.sliceAt 44 (.pointer (some ⟨N, 0, none⟩)) (some (.int .i64 (8 - (n : Int)))) none none).run Tryd.prog W = .ok (.slice (some ⟨N, off, none⟩) n n) W := by
  have hal : Tryd.prog.arrayLen 44 = 8 := by simp [Program.arrayLen, Tryd.underlying44]
  have q2 : ((8 : Int) - (n : Int)).toNat = 8 - n := by omega
  have hsz : ∀ W : World, (sizeOf (Tryd.prog.elem 44)).run Tryd.prog W = .ok 1 W := by
    intro W
    simp [Program.elem, Tryd.underlying44]
  by_cases h0 : n = 0
  · subst h0
    refine ⟨0, fun h => absurd h (by omega), fun W => ?_⟩
    rw [run_sliceAt_array_l W 44 ⟨N, 0, none⟩ (by simp [Program.arrayLen, Program.elem, Tryd.underlying44]) .i64 _ (by omega) (by rw [hal]; omega), hsz W, Result.andThen_ok, hal, q2]
    rfl
  · refine ⟨8 - n, fun _ => rfl, fun W => ?_⟩
    rw [run_sliceAt_array_l W 44 ⟨N, 0, none⟩ (by simp [Program.arrayLen, Program.elem, Tryd.underlying44]) .i64 _ (by omega) (by rw [hal]; omega), hsz W, Result.andThen_ok, hal, q2]
    unfold slicedAt
    rw [if_neg (by omega), addr_add]
    have e1 : 8 - (8 - n) = n := by omega
    rw [e1, Nat.mul_one, Nat.zero_add]
theorem cells8 {N : Nat} {w : World} {v0 v1 v2 v3 v4 v5 v6 v7 : Value} (h : w.heap[N]? = some (.cells #[v0, v1, v2, v3, v4, v5, v6, v7] 44 (0, 0))) : w.cell? ⟨N, 0, none⟩ = some v0 ∧ w.cell? ⟨N, 1, none⟩ = some v1 ∧ w.cell? ⟨N, 2, none⟩ = some v2 ∧ w.cell? ⟨N, 3, none⟩ = some v3 ∧
    w.cell? ⟨N, 4, none⟩ = some v4 ∧ w.cell? ⟨N, 5, none⟩ = some v5 ∧ w.cell? ⟨N, 6, none⟩ = some v6 ∧ w.cell? ⟨N, 7, none⟩ = some v7 := by
  refine ⟨?_, ?_, ?_, ?_, ?_, ?_, ?_, ?_⟩ <;> (unfold World.cell?; rw [h]; rfl)
end Go.Proofs.YtmobeppmdakjmaaDoor
namespace Go.Proofs.YtmobeppmdakjmaaDoor
open Go.RowKit

set_option maxHeartbeats 16000000 in
set_option maxRecDepth 100000 in
theorem parse6_half (s h t : List UInt8) (b : Bool) (hl : s.length ≤ 100000) (hc : cut6 s = (h, if b = true then some t else none)) (ht : b = false → t = []) (w : World) (ho : Ok w) :
    Calls Tryd.prog 30 #[.string ⟨s.toArray⟩] w fun e w' => e = .returned (parse6V (parse6 s)) ∧ Below w.heap.size w w' := by
  have hlen := cut6_len s
  rw [hc] at hlen
  have hhl : h.length ≤ 100000 := by have := hlen.1; simp only at this; omega
  have htl : t.length ≤ 100000 := by
    cases b with
    | true => have h2 : t.length ≤ s.length := by simpa using hlen.2
              omega
    | false => rw [ht rfl]; simp
  have hb0 : Below w.heap.size w (w.alloc (.cells (u16V zeros8).toArray 44)) := (Below.refl _ w).alloc (Nat.le_refl _) _
  have Hb0 := Lib.hid hb0
  have Ho := Lib.hid (ho.below hb0)
  have Hcut := Lib.hid (cut_any s hl h t b hc ht _ Ho.out)
  have Hh := Lib.hid (fun W h2 => pieces_any h (!b) hhl W h2)
  have Ht := Lib.hid (fun W h2 => pieces_any t true htl W h2)
  have hR : Hid (Res w.heap.size (w.alloc (.cells (u16V zeros8).toArray 44))) := World.alloc_heap_new w _
  have HC := Lib.hid hc
  have HT := Lib.hid ht
  have e8 : (u16V zeros8).toArray = #[.int .u16 0, .int .u16 0, .int .u16 0, .int .u16 0, .int .u16 0, .int .u16 0, .int .u16 0, .int .u16 0] := rfl
  rw [e8] at Hb0 Ho Hcut hR
  clear hb0 ho hlen hc ht
  generalize hW : w.alloc (.cells #[.int .u16 0, .int .u16 0, .int .u16 0, .int .u16 0, .int .u16 0, .int .u16 0, .int .u16 0, .int .u16 0] 44) = W0 at *
  have HW := Lib.hid hW
  clear hW e8
  go_enter Tryd.func30, Tryd.ntmps30
  go_wp2_with fail
  rw [HW.out]
  refine Hcut.out.mono ?_
  rintro e w1 ⟨rfl, hc1⟩
  have ho1 := Lib.hid (Ho.out.below hc1)
  have hR1 := Lib.hid (hR.out.below hc1)
  have hb1 := Hb0.out.trans (hc1.mono Hb0.out.size)
  clear Ho hR Hcut
  go_wp2_with fail
  refine (Hh.out _ ho1.out).mono ?_
  cases hp1 : piecesOf (!b) h with
  | none =>
    rintro e w2 ⟨rfl, hc2⟩
    have ho2 := Lib.hid (ho1.out.below hc2)
    have hR2 := Lib.hid (hR1.out.below hc2)
    have hb2 := hb1.trans (hc2.mono hb1.size)
    have hr : Hid (parse6 s = none) := by
      show _ = _
      unfold parse6
      rw [HC.out]
      cases b with
      | true => simp only [if_true]; rw [show piecesOf false h = none from hp1]
      | false => simp; rw [show piecesOf true h = none from hp1]
    clear hp1
    go_wp2_with fail
    refine (Ht.out _ ho2.out).mono ?_
    cases hp2 : piecesOf true t with
    | none =>
      rintro e w3 ⟨rfl, hc3⟩
      have hR3 := Lib.hid (hR2.out.below hc3)
      have hb3 := hb2.trans (hc3.mono hb2.size)
      obtain ⟨z0, z1, z2, z3, z4, z5, z6, z7⟩ := hR3.out.cells
      have hfz := hR3.out.frozen
      go_wp2
      refine bodyPost_ret (results_addr rfl _ _ w.heap.size _ rfl (res_set8 hR3.out _ _ _ _ _ _ _ _) rfl) rfl ?_
      rw [hr.out]
      exact ⟨rfl, below_set8 hb3 (Nat.le_refl _) _ _ _ _ _ _ _ _⟩
    | some l2 =>
      rintro e w3 ⟨A2, c2, rfl, hrd2, hlc2, hc3⟩
      clear hrd2
      have hR3 := Lib.hid (hR2.out.below hc3)
      have hb3 := hb2.trans (hc3.mono hb2.size)
      obtain ⟨z0, z1, z2, z3, z4, z5, z6, z7⟩ := hR3.out.cells
      have hfz := hR3.out.frozen
      go_wp2
      refine bodyPost_ret (results_addr rfl _ _ w.heap.size _ rfl (res_set8 hR3.out _ _ _ _ _ _ _ _) rfl) rfl ?_
      rw [hr.out]
      exact ⟨rfl, below_set8 hb3 (Nat.le_refl _) _ _ _ _ _ _ _ _⟩
  | some l1 =>
    rintro e w2 ⟨A1, c1, rfl, hrd1, hlc1, hc2⟩
    have Hrd1 := Lib.hid hrd1
    clear hrd1
    have ho2 := Lib.hid (ho1.out.below hc2)
    have hR2 := Lib.hid (hR1.out.below hc2)
    have hb2 := hb1.trans (hc2.mono hb1.size)
    go_wp2_with fail
    refine (Ht.out _ ho2.out).mono ?_
    cases hp2 : piecesOf true t with
    | none =>
      rintro e w3 ⟨rfl, hc3⟩
      have hr : Hid (parse6 s = none) := by
        show _ = _
        unfold parse6
        rw [HC.out]
        cases b with
        | true => simp only [if_true]; rw [show piecesOf false h = some l1 from hp1, hp2]
        | false => rw [HT.out rfl] at hp2; cases hp2
      clear hp1 hp2
      have hR3 := Lib.hid (hR2.out.below hc3)
      have hb3 := hb2.trans (hc3.mono hb2.size)
      obtain ⟨z0, z1, z2, z3, z4, z5, z6, z7⟩ := hR3.out.cells
      have hfz := hR3.out.frozen
      go_wp2
      refine bodyPost_ret (results_addr rfl _ _ w.heap.size _ rfl (res_set8 hR3.out _ _ _ _ _ _ _ _) rfl) rfl ?_
      rw [hr.out]
      exact ⟨rfl, below_set8 hb3 (Nat.le_refl _) _ _ _ _ _ _ _ _⟩
    | some l2 =>
      rintro e w3 ⟨A2, c2, rfl, hrd2, hlc2, hc3⟩
      have Hrd2 := Lib.hid hrd2
      clear hrd2
      have hk1 := piecesOf_len hp1
      have hk2 := piecesOf_len hp2
      have hw : wrap64 ((l1.length : Int) + (l2.length : Int)) = (l1.length : Int) + (l2.length : Int) := by unfold wrap64; omega
      have Hk1 := Lib.hid hk1
      have Hk2 := Lib.hid hk2
      clear hk1 hk2
      by_cases hok : (b = true ∧ l1.length + l2.length ≤ 7) ∨ (b = false ∧ l1.length = 8)
      · have hsum : l1.length + l2.length ≤ 8 := by rcases hok with h | h; omega; (have hz : l2.length = 0 := by rw [HT.out h.1] at hp2; cases hp2; rfl); omega
        obtain ⟨L, hL⟩ : ∃ L, l1 ++ List.replicate (8 - (l1.length + l2.length)) 0 ++ l2 = L := ⟨_, rfl⟩
        have hr : Hid (parse6 s = some L) := by
          show _ = _
          rw [← hL]
          unfold parse6
          rw [HC.out]
          rcases hok with ⟨rfl, h7⟩ | ⟨rfl, h8⟩
          · simp only [if_true]
            rw [show piecesOf false h = some l1 from hp1, hp2]
            exact if_pos h7
          · simp only [Bool.false_eq_true, if_false]
            rw [show piecesOf true h = some l1 from hp1]
            rw [HT.out rfl] at hp2
            cases hp2
            simp [h8]
        have hL8 : L.length = 8 := by rw [← hL]; simp; omega
        have hfin : Hid (splice (splice (u16V zeros8) 0 (u16V l1)) (8 - l2.length) (u16V l2) = u16V L) := by
          show _ = _
          rw [← hL]
          exact splice_two l1 l2 hsum
        have hflag : Hid ((b = true ∧ ¬ (7 : Int) < (l1.length : Int) + (l2.length : Int)) ∨ (b = false ∧ ((l1.length : Int) + (l2.length : Int) == 8) = true)) := by
          rcases hok with ⟨h1, h7⟩ | ⟨h1, h8⟩
          · exact .inl ⟨h1, by omega⟩
          · have hz : l2.length = 0 := by rw [HT.out h1] at hp2; cases hp2; rfl
            exact .inr ⟨h1, by rw [beq_iff_eq]; omega⟩
        have hR3 := Lib.hid (hR2.out.below hc3)
        have hb3 := hb2.trans (hc3.mono hb2.size)
        have hN3 : w.heap.size < w3.heap.size := (Array.getElem?_eq_some_iff.1 hR3.out).1
        have hB4 : Below w3.heap.size w3 (w3.alloc (.cells (u16V zeros8).toArray 44)) := (Below.refl _ _).alloc (Nat.le_refl _) _
        have hrd1 := Lib.hid ((Hrd1.out.below hc3).alloc (Nat.le_trans (Nat.le_refl _) (by have := hc3.size; omega)) (.cells (u16V zeros8).toArray 44))
        have HB4 := Lib.hid hB4
        have HL := Lib.hid hL8
        have hl1 : l1.length ≤ 8 := by omega
        have hl2 : (l2.length : Int) ≤ 8 := by omega
        have q2 : ((8 : Int) - (l2.length : Int)).toNat = 8 - l2.length := by omega
        have hpos1 := Lib.hid (rd_pos hrd1.out)
        have hn1 : (u16V l1).length = Nat.min l1.length 8 := by rw [u16V_length]; exact (Nat.min_eq_left hl1).symm
        have hfit1 : 0 + (u16V l1).length ≤ (u16V zeros8).length := by rw [u16V_length]; show 0 + l1.length ≤ 8; omega
        have hg4 : (w3.alloc (.cells (u16V zeros8).toArray 44)).heap[w3.heap.size]? = some (.cells (u16V zeros8).toArray 44 (0, 0)) := World.alloc_heap_new w3 _
        have HG4 := Lib.hid hg4
        have Hn1 := Lib.hid hn1
        have Hfit1 := Lib.hid hfit1
        obtain ⟨n0, n1, n2, n3, n4, n5, n6, n7, hLe⟩ := eight hL8
        have hr8 : Hid (parse6V (parse6 s) = .tuple #[.agg #[.int .u16 ((n0 : Nat) : Int), .int .u16 ((n1 : Nat) : Int), .int .u16 ((n2 : Nat) : Int), .int .u16 ((n3 : Nat) : Int), .int .u16 ((n4 : Nat) : Int), .int .u16 ((n5 : Nat) : Int), .int .u16 ((n6 : Nat) : Int), .int .u16 ((n7 : Nat) : Int)], .int .i64 0]) := by
          show _ = _
          rw [hr.out, hLe]
          rfl
        have hfin8 : Hid (splice (splice (u16V zeros8) 0 (u16V l1)) (8 - l2.length) (u16V l2) = [.int .u16 ((n0 : Nat) : Int), .int .u16 ((n1 : Nat) : Int), .int .u16 ((n2 : Nat) : Int), .int .u16 ((n3 : Nat) : Int), .int .u16 ((n4 : Nat) : Int), .int .u16 ((n5 : Nat) : Int), .int .u16 ((n6 : Nat) : Int), .int .u16 ((n7 : Nat) : Int)]) := by
          show _ = _
          rw [hfin.out, hLe]
          rfl
        obtain ⟨off, hoff, hsl⟩ := slice_tail w3.heap.size l2.length (by omega)
        have Hoff : Hid (0 < (u16V l2).length → (some ⟨w3.heap.size, off, none⟩ : Option Addr) = some ⟨w3.heap.size, 8 - l2.length, none⟩) := fun h => by
          rw [u16V_length] at h
          rw [hoff h]
        have Hn2 : Hid ((u16V l2).length = Nat.min l2.length l2.length) := by
          show _ = _
          rw [u16V_length]
          exact (Nat.min_self _).symm
        have Hfit2 : Hid (8 - l2.length + (u16V l2).length ≤ (splice (u16V zeros8) 0 (u16V l1)).length) := by
          show _ ≤ _
          rw [length_splice _ _ _ Hfit1.out, u16V_length]
          show 8 - l2.length + l2.length ≤ 8
          omega
        have Hhb3 := Lib.hid hb3
        clear hok hp1 hp2 hL hL8 hB4 hn1 hfit1 hg4 hc3 Hk1 Hk2 hfin hr hLe hoff
        rcases hflag.out with ⟨rfl, f1⟩ | ⟨rfl, f1⟩
        all_goals
          go_wp2_with (first | (refine wpList_copy_splice rfl _ _ 83 83 rfl 43 Tryd.underlying83 Tryd.size43 _ _ _ _ _ _ rfl rfl w3.heap.size (8 - l2.length) (splice (u16V zeros8) 0 (u16V l1)) 44 HG5.out (u16V l2) Hn2.out (fun h => ⟨Hoff.out h, rd_pos (Hrd2.out.below hB5) h⟩) Hfit2.out (u16V_one l2) w3.heap.size w3 hB5 (Nat.le_refl _) ?_; intro w6 HG6 hB6; have hG6 := HG6.out; rw [hfin8.out] at hG6; obtain ⟨c0, c1, c2, c3, c4, c5, c6, c7⟩ := cells8 hG6; have hR6 := Lib.hid (hR3.out.below hB6); obtain ⟨z0, z1, z2, z3, z4, z5, z6, z7⟩ := hR6.out.cells; have hfz := hR6.out.frozen; have HB6 := Lib.hid hB6; clear hB6 hG6) | (refine wpList_copy_splice rfl _ _ 83 83 rfl 43 Tryd.underlying83 Tryd.size43 _ _ _ _ _ _ rfl rfl w3.heap.size 0 (u16V zeros8) 44 HG4.out (u16V l1) Hn1.out (fun h => ⟨rfl, hpos1.out h⟩) Hfit1.out (u16V_one l1) w3.heap.size w3 HB4.out (Nat.le_refl _) ?_; intro w5 HG5 hB5))
          refine bodyPost_ret (results_addr rfl _ _ w.heap.size _ rfl (res_set8 hR6.out _ _ _ _ _ _ _ _) rfl) rfl ?_
          exact ⟨congrArg Ending.returned hr8.out.symm, below_set8 (Hhb3.out.trans (HB6.out.mono Hhb3.out.size)) (Nat.le_refl _) _ _ _ _ _ _ _ _⟩
      · have hr : Hid (parse6 s = none) := by
          show _ = _
          unfold parse6
          rw [HC.out]
          cases b with
          | true =>
            simp only [if_true]
            rw [show piecesOf false h = some l1 from hp1, hp2]
            exact if_neg (fun h => hok (.inl ⟨rfl, h⟩))
          | false =>
            simp only [Bool.false_eq_true, if_false]
            rw [show piecesOf true h = some l1 from hp1]
            exact if_neg (fun h => hok (.inr ⟨rfl, h⟩))
        cases b with
        | true =>
          have f1 : (7 : Int) < (l1.length : Int) + (l2.length : Int) := by
            have : ¬ l1.length + l2.length ≤ 7 := fun h => hok (.inl ⟨rfl, h⟩)
            omega
          clear hok hp1 hp2
          have hR3 := Lib.hid (hR2.out.below hc3)
          have hb3 := hb2.trans (hc3.mono hb2.size)
          obtain ⟨z0, z1, z2, z3, z4, z5, z6, z7⟩ := hR3.out.cells
          have hfz := hR3.out.frozen
          go_wp2
          refine bodyPost_ret (results_addr rfl _ _ w.heap.size _ rfl (res_set8 hR3.out _ _ _ _ _ _ _ _) rfl) rfl ?_
          rw [hr.out]
          exact ⟨rfl, below_set8 hb3 (Nat.le_refl _) _ _ _ _ _ _ _ _⟩
        | false =>
          have hl2 : l2.length = 0 := by rw [HT.out rfl] at hp2; cases hp2; rfl
          have f1 : ((l1.length : Int) + (l2.length : Int) == 8) = false := by
            have : ¬ l1.length = 8 := fun h => hok (.inr ⟨rfl, h⟩)
            rw [beq_eq_false_iff_ne]
            omega
          clear hok hp1 hp2 hl2
          have hR3 := Lib.hid (hR2.out.below hc3)
          have hb3 := hb2.trans (hc3.mono hb2.size)
          obtain ⟨z0, z1, z2, z3, z4, z5, z6, z7⟩ := hR3.out.cells
          have hfz := hR3.out.frozen
          go_wp2
          refine bodyPost_ret (results_addr rfl _ _ w.heap.size _ rfl (res_set8 hR3.out _ _ _ _ _ _ _ _) rfl) rfl ?_
          rw [hr.out]
          exact ⟨rfl, below_set8 hb3 (Nat.le_refl _) _ _ _ _ _ _ _ _⟩
/-- six.Parse at any text. -/
theorem parse6_any (s : List UInt8) (hl : s.length ≤ 100000) (w : World) (ho : Ok w) :
    Calls Tryd.prog 30 #[.string ⟨s.toArray⟩] w fun e w' => e = .returned (parse6V (parse6 s)) ∧ Below w.heap.size w w' := by
  cases hc : cut6 s with
  | mk h o =>
    cases o with
    | none => exact parse6_half s h [] false hl hc (fun _ => rfl) w ho
    | some t => exact parse6_half s h t true hl hc (fun h => by cases h) w ho
end Go.Proofs.YtmobeppmdakjmaaDoor
