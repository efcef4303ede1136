/- Law: SixTells answers true at every text and address. (Printed by sixtells.py.) -/
import Derived.Test.YtmobeppmdakjmaaDoorUB
import Derived.Test.YtmobeppmdakjmaaDoorU7
import Derived.Deep.RegionHeld3
namespace Go.Proofs.YtmobeppmdakjmaaDoor
open Go.RowKit

theorem twentyfour {N M R : Nat} {V : World} {a b c d e f g i a' b' c' d' e' f' g' i' : Int} (h : V.heap[N]? = some (.cells #[.int .u16 a, .int .u16 b, .int .u16 c, .int .u16 d, .int .u16 e, .int .u16 f, .int .u16 g, .int .u16 i] 44 (0, 0))) (k : V.heap[M]? = some (.cells #[.int .u16 a', .int .u16 b', .int .u16 c', .int .u16 d', .int .u16 e', .int .u16 f', .int .u16 g', .int .u16 i'] 44 (0, 0))) (j : V.heap[R]? = some (.cells #[.int .u16 a', .int .u16 b', .int .u16 c', .int .u16 d', .int .u16 e', .int .u16 f', .int .u16 g', .int .u16 i'] 44 (0, 0))) :
    V.cell? ⟨N, 0, none⟩ = some (.int .u16 a) ∧ V.cell? ⟨N, 1, none⟩ = some (.int .u16 b) ∧ V.cell? ⟨N, 2, none⟩ = some (.int .u16 c) ∧ V.cell? ⟨N, 3, none⟩ = some (.int .u16 d) ∧ V.cell? ⟨N, 4, none⟩ = some (.int .u16 e) ∧ V.cell? ⟨N, 5, none⟩ = some (.int .u16 f) ∧ V.cell? ⟨N, 6, none⟩ = some (.int .u16 g) ∧ V.cell? ⟨N, 7, none⟩ = some (.int .u16 i) ∧ V.cell? ⟨M, 0, none⟩ = some (.int .u16 a') ∧ V.cell? ⟨M, 1, none⟩ = some (.int .u16 b') ∧ V.cell? ⟨M, 2, none⟩ = some (.int .u16 c') ∧ V.cell? ⟨M, 3, none⟩ = some (.int .u16 d') ∧ V.cell? ⟨M, 4, none⟩ = some (.int .u16 e') ∧ V.cell? ⟨M, 5, none⟩ = some (.int .u16 f') ∧ V.cell? ⟨M, 6, none⟩ = some (.int .u16 g') ∧ V.cell? ⟨M, 7, none⟩ = some (.int .u16 i') ∧ V.cell? ⟨R, 0, none⟩ = some (.int .u16 a') ∧ V.cell? ⟨R, 1, none⟩ = some (.int .u16 b') ∧ V.cell? ⟨R, 2, none⟩ = some (.int .u16 c') ∧ V.cell? ⟨R, 3, none⟩ = some (.int .u16 d') ∧ V.cell? ⟨R, 4, none⟩ = some (.int .u16 e') ∧ V.cell? ⟨R, 5, none⟩ = some (.int .u16 f') ∧ V.cell? ⟨R, 6, none⟩ = some (.int .u16 g') ∧ V.cell? ⟨R, 7, none⟩ = some (.int .u16 i') := by
  obtain ⟨c0, c1, c2, c3, c4, c5, c6, c7⟩ := cells8 h
  obtain ⟨d0, d1, d2, d3, d4, d5, d6, d7⟩ := cells8 k
  obtain ⟨e0, e1, e2, e3, e4, e5, e6, e7⟩ := cells8 j
  exact ⟨c0, c1, c2, c3, c4, c5, c6, c7, d0, d1, d2, d3, d4, d5, d6, d7, e0, e1, e2, e3, e4, e5, e6, e7⟩
theorem parse6_value (s : List UInt8) : ∃ (l : List Nat) (e : Int), l.length = 8 ∧ parse6V (parse6 s) = .tuple #[addrV l, .int .i64 e] := by
  cases h : parse6 s with
  | some l => exact ⟨l, 0, parse6_len h, rfl⟩
  | none => exact ⟨zeros8, 31, rfl, rfl⟩
set_option maxHeartbeats 4000000 in
set_option maxRecDepth 100000 in
theorem sixTells_long (s : List UInt8) (x : List Nat) (h8 : x.length = 8) (hl : 100 < s.length) (w : World) (ho : Ok6 w) :
    Calls Tryd.prog 6 #[.string ⟨s.toArray⟩, addrV x] w fun e w' => e = .returned (.bool true) ∧ Below w.heap.size w w' := by
  have hsz := size_str s
  have i1 : (100 : Int) < (s.length : Int) := by omega
  have hb0 : Below w.heap.size w (w.alloc (.cells (u16V x).toArray 44)) := (Below.refl _ w).alloc (Nat.le_refl _) _
  have Ha := Lib.hid (awake6_true _ (ho.below hb0))
  have Hb0 := Lib.hid hb0
  obtain ⟨c0, c1, c2, c3, c4, c5, c6, c7, hxe⟩ := eight h8
  have hcx : (u16V x).toArray = #[.int .u16 (c0 : Int), .int .u16 (c1 : Int), .int .u16 (c2 : Int), .int .u16 (c3 : Int), .int .u16 (c4 : Int), .int .u16 (c5 : Int), .int .u16 (c6 : Int), .int .u16 (c7 : Int)] := by rw [hxe]; rfl
  unfold addrV
  rw [hcx] at Ha Hb0 ⊢
  clear hb0 hl hcx hxe ho h8
  go_enter Tryd.func6, Tryd.ntmps6
  go_wp2_with fail
  refine Ha.out.mono ?_
  rintro e w' ⟨rfl, hb⟩
  go_wp2
  go_ret
  exact ⟨rfl, Hb0.out.trans (hb.mono Hb0.out.size)⟩
set_option maxHeartbeats 16000000 in
set_option maxRecDepth 100000 in
theorem sixTells_main (s : List UInt8) (x : List Nat) (h8 : x.length = 8) (hx : ∀ n ∈ x, n < 65536) (hl : s.length ≤ 100) (w : World) (ho : Ok6 w) :
    Calls Tryd.prog 6 #[.string ⟨s.toArray⟩, addrV x] w fun e w' => e = .returned (.bool true) ∧ Below w.heap.size w w' := by
  have hsz := size_str s
  have i1 : ¬ (100 : Int) < (s.length : Int) := by omega
  have x0 := Lib.hid (fun W (h : Ok6 W) => parse6_any s (by omega) W h.1)
  have x1 := Lib.hid (fun W => refParse6_any s (by omega) W)
  have x2 := Lib.hid (fun W => run_any x h8 hx W)
  have x3 := Lib.hid (fun W => refRun6_any x h8 W)
  have x4 := Lib.hid (fun W h => show6_any x h8 hx W h)
  have x5 := Lib.hid (fun W => refShow6_any x h8 hx W)
  have x9 := Lib.hid (fun W h => awake6_true W h)
  obtain ⟨l, ev, g8, hlv⟩ := parse6_value s
  rw [hlv] at x0 x1
  have heq : ∀ V, (Op.equalIn 10000 44 (.agg (u16V l).toArray) (.agg (u16V l).toArray)).run Tryd.prog V = .ok true V := fun V => by
    have := equal8_list l l g8 g8 V
    rwa [decide_eq_true rfl] at this
  generalize (run6 x).1 = r1 at *
  generalize (run6 x).2 = r2 at *
  generalize show6 x = sh at *
  have hb0 : Below w.heap.size w (w.alloc (.cells (u16V x).toArray 44)) := (Below.refl _ w).alloc (Nat.le_refl _) _
  have ho0 := Lib.hid (ho.below hb0)
  have HX0 : Hid ((w.alloc (.cells (u16V x).toArray 44)).heap[w.heap.size]? = some (.cells (u16V x).toArray 44 (0, 0))) := World.alloc_heap_new w _
  obtain ⟨a, b, c, d, e, f, g, i, hxe⟩ := eight h8
  obtain ⟨a', b', c', d', e', f', g', i', hye⟩ := eight g8
  have hcx : (u16V x).toArray = #[.int .u16 (a : Int), .int .u16 (b : Int), .int .u16 (c : Int), .int .u16 (d : Int), .int .u16 (e : Int), .int .u16 (f : Int), .int .u16 (g : Int), .int .u16 (i : Int)] := by rw [hxe]; rfl
  have hcy : (u16V l).toArray = #[.int .u16 (a' : Int), .int .u16 (b' : Int), .int .u16 (c' : Int), .int .u16 (d' : Int), .int .u16 (e' : Int), .int .u16 (f' : Int), .int .u16 (g' : Int), .int .u16 (i' : Int)] := by rw [hye]; rfl
  unfold addrV at *
  rw [hcx] at hb0 ho0 HX0 x2 x3 x4 x5 ⊢
  rw [hcy] at x0 x1 heq
  clear hxe hye hcx hcy ho h8 hx g8 hlv hl
  go_enter Tryd.func6, Tryd.ntmps6
  generalize hW : w.alloc (.cells #[.int .u16 (a : Int), .int .u16 (b : Int), .int .u16 (c : Int), .int .u16 (d : Int), .int .u16 (e : Int), .int .u16 (f : Int), .int .u16 (g : Int), .int .u16 (i : Int)] 44) = W at *
  have HW := Lib.hid hW
  clear hW
  go_wp2_with fail
  rw [HW.out]
  refine (x0.out W ho0.out).mono ?_
  rintro e1 w1 ⟨rfl, hc⟩
  have HX1 : Hid (w1.heap[w.heap.size]? = some (.cells #[.int .u16 (a : Int), .int .u16 (b : Int), .int .u16 (c : Int), .int .u16 (d : Int), .int .u16 (e : Int), .int .u16 (f : Int), .int .u16 (g : Int), .int .u16 (i : Int)] 44 (0, 0))) := (hc.block _ (Array.getElem?_eq_some_iff.1 HX0.out).1).trans HX0.out
  have ho1 := Lib.hid (ho0.out.below hc)
  have hb1 := hb0.trans (hc.mono hb0.size)
  clear hc hb0 ho0 HX0
  have HX2 : Hid ((w1.alloc (.cells #[.int .u16 (a' : Int), .int .u16 (b' : Int), .int .u16 (c' : Int), .int .u16 (d' : Int), .int .u16 (e' : Int), .int .u16 (f' : Int), .int .u16 (g' : Int), .int .u16 (i' : Int)] 44)).heap[w.heap.size]? = some (.cells #[.int .u16 (a : Int), .int .u16 (b : Int), .int .u16 (c : Int), .int .u16 (d : Int), .int .u16 (e : Int), .int .u16 (f : Int), .int .u16 (g : Int), .int .u16 (i : Int)] 44 (0, 0))) := (Below.heap_alloc _ _ _ (Array.getElem?_eq_some_iff.1 HX1.out).1).trans HX1.out
  have HY2 : Hid ((w1.alloc (.cells #[.int .u16 (a' : Int), .int .u16 (b' : Int), .int .u16 (c' : Int), .int .u16 (d' : Int), .int .u16 (e' : Int), .int .u16 (f' : Int), .int .u16 (g' : Int), .int .u16 (i' : Int)] 44)).heap[w1.heap.size]? = some (.cells #[.int .u16 (a' : Int), .int .u16 (b' : Int), .int .u16 (c' : Int), .int .u16 (d' : Int), .int .u16 (e' : Int), .int .u16 (f' : Int), .int .u16 (g' : Int), .int .u16 (i' : Int)] 44 (0, 0))) := World.alloc_heap_new w1 _
  have hb2 : Below w.heap.size w (w1.alloc (.cells #[.int .u16 (a' : Int), .int .u16 (b' : Int), .int .u16 (c' : Int), .int .u16 (d' : Int), .int .u16 (e' : Int), .int .u16 (f' : Int), .int .u16 (g' : Int), .int .u16 (i' : Int)] 44)) := hb1.alloc hb1.size _
  have ho2 := Lib.hid (ho1.out.below ((Below.refl w1.heap.size w1).alloc (Nat.le_refl _) (.cells #[.int .u16 (a' : Int), .int .u16 (b' : Int), .int .u16 (c' : Int), .int .u16 (d' : Int), .int .u16 (e' : Int), .int .u16 (f' : Int), .int .u16 (g' : Int), .int .u16 (i' : Int)] 44)))
  clear HX1 ho1
  go_wp2_with fail
  refine (x1.out _).mono ?_
  rintro e2 w2 ⟨rfl, hc⟩
  have HX3 : Hid (w2.heap[w.heap.size]? = some (.cells #[.int .u16 (a : Int), .int .u16 (b : Int), .int .u16 (c : Int), .int .u16 (d : Int), .int .u16 (e : Int), .int .u16 (f : Int), .int .u16 (g : Int), .int .u16 (i : Int)] 44 (0, 0))) := (hc.block _ (Array.getElem?_eq_some_iff.1 HX2.out).1).trans HX2.out
  have HY3 : Hid (w2.heap[w1.heap.size]? = some (.cells #[.int .u16 (a' : Int), .int .u16 (b' : Int), .int .u16 (c' : Int), .int .u16 (d' : Int), .int .u16 (e' : Int), .int .u16 (f' : Int), .int .u16 (g' : Int), .int .u16 (i' : Int)] 44 (0, 0))) := (hc.block _ (Array.getElem?_eq_some_iff.1 HY2.out).1).trans HY2.out
  have ho3 := Lib.hid (ho2.out.below hc)
  have hb3 := hb2.trans (hc.mono hb2.size)
  clear hc hb2 ho2 HX2 HY2
  have HX4 : Hid ((w2.alloc (.cells #[.int .u16 (a' : Int), .int .u16 (b' : Int), .int .u16 (c' : Int), .int .u16 (d' : Int), .int .u16 (e' : Int), .int .u16 (f' : Int), .int .u16 (g' : Int), .int .u16 (i' : Int)] 44)).heap[w.heap.size]? = some (.cells #[.int .u16 (a : Int), .int .u16 (b : Int), .int .u16 (c : Int), .int .u16 (d : Int), .int .u16 (e : Int), .int .u16 (f : Int), .int .u16 (g : Int), .int .u16 (i : Int)] 44 (0, 0))) := (Below.heap_alloc _ _ _ (Array.getElem?_eq_some_iff.1 HX3.out).1).trans HX3.out
  have HY4 : Hid ((w2.alloc (.cells #[.int .u16 (a' : Int), .int .u16 (b' : Int), .int .u16 (c' : Int), .int .u16 (d' : Int), .int .u16 (e' : Int), .int .u16 (f' : Int), .int .u16 (g' : Int), .int .u16 (i' : Int)] 44)).heap[w1.heap.size]? = some (.cells #[.int .u16 (a' : Int), .int .u16 (b' : Int), .int .u16 (c' : Int), .int .u16 (d' : Int), .int .u16 (e' : Int), .int .u16 (f' : Int), .int .u16 (g' : Int), .int .u16 (i' : Int)] 44 (0, 0))) := (Below.heap_alloc _ _ _ (Array.getElem?_eq_some_iff.1 HY3.out).1).trans HY3.out
  have HZ4 : Hid ((w2.alloc (.cells #[.int .u16 (a' : Int), .int .u16 (b' : Int), .int .u16 (c' : Int), .int .u16 (d' : Int), .int .u16 (e' : Int), .int .u16 (f' : Int), .int .u16 (g' : Int), .int .u16 (i' : Int)] 44)).heap[w2.heap.size]? = some (.cells #[.int .u16 (a' : Int), .int .u16 (b' : Int), .int .u16 (c' : Int), .int .u16 (d' : Int), .int .u16 (e' : Int), .int .u16 (f' : Int), .int .u16 (g' : Int), .int .u16 (i' : Int)] 44 (0, 0))) := World.alloc_heap_new w2 _
  have hb4 : Below w.heap.size w (w2.alloc (.cells #[.int .u16 (a' : Int), .int .u16 (b' : Int), .int .u16 (c' : Int), .int .u16 (d' : Int), .int .u16 (e' : Int), .int .u16 (f' : Int), .int .u16 (g' : Int), .int .u16 (i' : Int)] 44)) := hb3.alloc hb3.size _
  have ho4 := Lib.hid (ho3.out.below ((Below.refl w2.heap.size w2).alloc (Nat.le_refl _) (.cells #[.int .u16 (a' : Int), .int .u16 (b' : Int), .int .u16 (c' : Int), .int .u16 (d' : Int), .int .u16 (e' : Int), .int .u16 (f' : Int), .int .u16 (g' : Int), .int .u16 (i' : Int)] 44)))
  clear HX3 HY3 ho3 hb1
  obtain ⟨c0, c1, c2, c3, c4, c5, c6, c7⟩ := cells8 HX4.out
  go_wp2_with fail
  clear c0 c1 c2 c3 c4 c5 c6 c7
  refine (x2.out _).mono ?_
  rintro e3 w3 ⟨rfl, hc⟩
  generalize w2.alloc (.cells #[.int .u16 (a' : Int), .int .u16 (b' : Int), .int .u16 (c' : Int), .int .u16 (d' : Int), .int .u16 (e' : Int), .int .u16 (f' : Int), .int .u16 (g' : Int), .int .u16 (i' : Int)] 44) = V2 at *
  clear hb3
  have HX5 : Hid (w3.heap[w.heap.size]? = some (.cells #[.int .u16 (a : Int), .int .u16 (b : Int), .int .u16 (c : Int), .int .u16 (d : Int), .int .u16 (e : Int), .int .u16 (f : Int), .int .u16 (g : Int), .int .u16 (i : Int)] 44 (0, 0))) := (hc.block _ (Array.getElem?_eq_some_iff.1 HX4.out).1).trans HX4.out
  have HY5 : Hid (w3.heap[w1.heap.size]? = some (.cells #[.int .u16 (a' : Int), .int .u16 (b' : Int), .int .u16 (c' : Int), .int .u16 (d' : Int), .int .u16 (e' : Int), .int .u16 (f' : Int), .int .u16 (g' : Int), .int .u16 (i' : Int)] 44 (0, 0))) := (hc.block _ (Array.getElem?_eq_some_iff.1 HY4.out).1).trans HY4.out
  have HZ5 : Hid (w3.heap[w2.heap.size]? = some (.cells #[.int .u16 (a' : Int), .int .u16 (b' : Int), .int .u16 (c' : Int), .int .u16 (d' : Int), .int .u16 (e' : Int), .int .u16 (f' : Int), .int .u16 (g' : Int), .int .u16 (i' : Int)] 44 (0, 0))) := (hc.block _ (Array.getElem?_eq_some_iff.1 HZ4.out).1).trans HZ4.out
  have ho5 := Lib.hid (ho4.out.below hc)
  have hb5 := hb4.trans (hc.mono hb4.size)
  clear hc hb4 ho4 HX4 HY4 HZ4
  obtain ⟨c0, c1, c2, c3, c4, c5, c6, c7⟩ := cells8 HX5.out
  go_wp2_with fail
  clear c0 c1 c2 c3 c4 c5 c6 c7
  refine (x3.out _).mono ?_
  rintro e4 w4 ⟨rfl, hc⟩
  have HX6 : Hid (w4.heap[w.heap.size]? = some (.cells #[.int .u16 (a : Int), .int .u16 (b : Int), .int .u16 (c : Int), .int .u16 (d : Int), .int .u16 (e : Int), .int .u16 (f : Int), .int .u16 (g : Int), .int .u16 (i : Int)] 44 (0, 0))) := (hc.block _ (Array.getElem?_eq_some_iff.1 HX5.out).1).trans HX5.out
  have HY6 : Hid (w4.heap[w1.heap.size]? = some (.cells #[.int .u16 (a' : Int), .int .u16 (b' : Int), .int .u16 (c' : Int), .int .u16 (d' : Int), .int .u16 (e' : Int), .int .u16 (f' : Int), .int .u16 (g' : Int), .int .u16 (i' : Int)] 44 (0, 0))) := (hc.block _ (Array.getElem?_eq_some_iff.1 HY5.out).1).trans HY5.out
  have HZ6 : Hid (w4.heap[w2.heap.size]? = some (.cells #[.int .u16 (a' : Int), .int .u16 (b' : Int), .int .u16 (c' : Int), .int .u16 (d' : Int), .int .u16 (e' : Int), .int .u16 (f' : Int), .int .u16 (g' : Int), .int .u16 (i' : Int)] 44 (0, 0))) := (hc.block _ (Array.getElem?_eq_some_iff.1 HZ5.out).1).trans HZ5.out
  have ho6 := Lib.hid (ho5.out.below hc)
  have hb6 := hb5.trans (hc.mono hb5.size)
  clear hc hb5 ho5 HX5 HY5 HZ5
  go_wp2_with fail
  go_region_held3 (fun w' => w'.cell? ⟨w.heap.size, 0, none⟩ = some (.int .u16 (a : Int)) ∧ w'.cell? ⟨w.heap.size, 1, none⟩ = some (.int .u16 (b : Int)) ∧ w'.cell? ⟨w.heap.size, 2, none⟩ = some (.int .u16 (c : Int)) ∧ w'.cell? ⟨w.heap.size, 3, none⟩ = some (.int .u16 (d : Int)) ∧ w'.cell? ⟨w.heap.size, 4, none⟩ = some (.int .u16 (e : Int)) ∧ w'.cell? ⟨w.heap.size, 5, none⟩ = some (.int .u16 (f : Int)) ∧ w'.cell? ⟨w.heap.size, 6, none⟩ = some (.int .u16 (g : Int)) ∧ w'.cell? ⟨w.heap.size, 7, none⟩ = some (.int .u16 (i : Int)) ∧ w'.cell? ⟨w1.heap.size, 0, none⟩ = some (.int .u16 (a' : Int)) ∧ w'.cell? ⟨w1.heap.size, 1, none⟩ = some (.int .u16 (b' : Int)) ∧ w'.cell? ⟨w1.heap.size, 2, none⟩ = some (.int .u16 (c' : Int)) ∧ w'.cell? ⟨w1.heap.size, 3, none⟩ = some (.int .u16 (d' : Int)) ∧ w'.cell? ⟨w1.heap.size, 4, none⟩ = some (.int .u16 (e' : Int)) ∧ w'.cell? ⟨w1.heap.size, 5, none⟩ = some (.int .u16 (f' : Int)) ∧ w'.cell? ⟨w1.heap.size, 6, none⟩ = some (.int .u16 (g' : Int)) ∧ w'.cell? ⟨w1.heap.size, 7, none⟩ = some (.int .u16 (i' : Int)) ∧ w'.cell? ⟨w2.heap.size, 0, none⟩ = some (.int .u16 (a' : Int)) ∧ w'.cell? ⟨w2.heap.size, 1, none⟩ = some (.int .u16 (b' : Int)) ∧ w'.cell? ⟨w2.heap.size, 2, none⟩ = some (.int .u16 (c' : Int)) ∧ w'.cell? ⟨w2.heap.size, 3, none⟩ = some (.int .u16 (d' : Int)) ∧ w'.cell? ⟨w2.heap.size, 4, none⟩ = some (.int .u16 (e' : Int)) ∧ w'.cell? ⟨w2.heap.size, 5, none⟩ = some (.int .u16 (f' : Int)) ∧ w'.cell? ⟨w2.heap.size, 6, none⟩ = some (.int .u16 (g' : Int)) ∧ w'.cell? ⟨w2.heap.size, 7, none⟩ = some (.int .u16 (i' : Int)))
    (first | exact twentyfour HX9.out HY9.out HZ9.out | exact twentyfour HX8.out HY8.out HZ8.out | exact twentyfour HX7.out HY7.out HZ7.out | exact twentyfour HX6.out HY6.out HZ6.out)
    (first
      | (go_at_call 29; refine (x9.out w6 ho8.out).mono ?_; rintro e7 w7 ⟨rfl, hc⟩; have HX9 : Hid (w7.heap[w.heap.size]? = some (.cells #[.int .u16 (a : Int), .int .u16 (b : Int), .int .u16 (c : Int), .int .u16 (d : Int), .int .u16 (e : Int), .int .u16 (f : Int), .int .u16 (g : Int), .int .u16 (i : Int)] 44 (0, 0))) := (hc.block _ (Array.getElem?_eq_some_iff.1 HX8.out).1).trans HX8.out; have HY9 : Hid (w7.heap[w1.heap.size]? = some (.cells #[.int .u16 (a' : Int), .int .u16 (b' : Int), .int .u16 (c' : Int), .int .u16 (d' : Int), .int .u16 (e' : Int), .int .u16 (f' : Int), .int .u16 (g' : Int), .int .u16 (i' : Int)] 44 (0, 0))) := (hc.block _ (Array.getElem?_eq_some_iff.1 HY8.out).1).trans HY8.out; have HZ9 : Hid (w7.heap[w2.heap.size]? = some (.cells #[.int .u16 (a' : Int), .int .u16 (b' : Int), .int .u16 (c' : Int), .int .u16 (d' : Int), .int .u16 (e' : Int), .int .u16 (f' : Int), .int .u16 (g' : Int), .int .u16 (i' : Int)] 44 (0, 0))) := (hc.block _ (Array.getElem?_eq_some_iff.1 HZ8.out).1).trans HZ8.out; have ho9 := Lib.hid (ho8.out.below hc); have hb9 := hb8.trans (hc.mono hb8.size); clear hc)
      | (go_at_call 35; refine (x5.out w5).mono ?_; rintro e6 w6 ⟨rfl, hc⟩; have HX8 : Hid (w6.heap[w.heap.size]? = some (.cells #[.int .u16 (a : Int), .int .u16 (b : Int), .int .u16 (c : Int), .int .u16 (d : Int), .int .u16 (e : Int), .int .u16 (f : Int), .int .u16 (g : Int), .int .u16 (i : Int)] 44 (0, 0))) := (hc.block _ (Array.getElem?_eq_some_iff.1 HX7.out).1).trans HX7.out; have HY8 : Hid (w6.heap[w1.heap.size]? = some (.cells #[.int .u16 (a' : Int), .int .u16 (b' : Int), .int .u16 (c' : Int), .int .u16 (d' : Int), .int .u16 (e' : Int), .int .u16 (f' : Int), .int .u16 (g' : Int), .int .u16 (i' : Int)] 44 (0, 0))) := (hc.block _ (Array.getElem?_eq_some_iff.1 HY7.out).1).trans HY7.out; have HZ8 : Hid (w6.heap[w2.heap.size]? = some (.cells #[.int .u16 (a' : Int), .int .u16 (b' : Int), .int .u16 (c' : Int), .int .u16 (d' : Int), .int .u16 (e' : Int), .int .u16 (f' : Int), .int .u16 (g' : Int), .int .u16 (i' : Int)] 44 (0, 0))) := (hc.block _ (Array.getElem?_eq_some_iff.1 HZ7.out).1).trans HZ7.out; have ho8 := Lib.hid (ho7.out.below hc); have hb8 := hb7.trans (hc.mono hb7.size); clear hc)
      | (go_at_call 34; refine (x4.out w4.drew (ho6.out.below ((Below.refl _ _).drew))).mono ?_; rintro e5 w5 ⟨rfl, hc⟩; have HX7 : Hid (w5.heap[w.heap.size]? = some (.cells #[.int .u16 (a : Int), .int .u16 (b : Int), .int .u16 (c : Int), .int .u16 (d : Int), .int .u16 (e : Int), .int .u16 (f : Int), .int .u16 (g : Int), .int .u16 (i : Int)] 44 (0, 0))) := (hc.block _ (Array.getElem?_eq_some_iff.1 HX6.out).1).trans HX6.out; have HY7 : Hid (w5.heap[w1.heap.size]? = some (.cells #[.int .u16 (a' : Int), .int .u16 (b' : Int), .int .u16 (c' : Int), .int .u16 (d' : Int), .int .u16 (e' : Int), .int .u16 (f' : Int), .int .u16 (g' : Int), .int .u16 (i' : Int)] 44 (0, 0))) := (hc.block _ (Array.getElem?_eq_some_iff.1 HY6.out).1).trans HY6.out; have HZ7 : Hid (w5.heap[w2.heap.size]? = some (.cells #[.int .u16 (a' : Int), .int .u16 (b' : Int), .int .u16 (c' : Int), .int .u16 (d' : Int), .int .u16 (e' : Int), .int .u16 (f' : Int), .int .u16 (g' : Int), .int .u16 (i' : Int)] 44 (0, 0))) := (hc.block _ (Array.getElem?_eq_some_iff.1 HZ6.out).1).trans HZ6.out; have ho7 := Lib.hid ((ho6.out.below ((Below.refl _ _).drew)).below hc); have hb7 := hb6.drew.trans (hc.mono hb6.size); clear hc))
  all_goals
    go_wp2
    go_ret
    exact ⟨rfl, hb9⟩
theorem sixTells_true (s : List UInt8) (x : List Nat) (h8 : x.length = 8) (hx : ∀ n ∈ x, n < 65536) (w : World) (ho : Ok6 w) :
    Calls Tryd.prog 6 #[.string ⟨s.toArray⟩, addrV x] w fun e w' => e = .returned (.bool true) ∧ Below w.heap.size w w' := by
  by_cases hl : 100 < s.length
  · exact sixTells_long s x h8 hl w ho
  · exact sixTells_main s x h8 hx (by omega) w ho
#print axioms sixTells_true
end Go.Proofs.YtmobeppmdakjmaaDoor
