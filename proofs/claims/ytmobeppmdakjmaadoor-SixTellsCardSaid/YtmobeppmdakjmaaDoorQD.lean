/- Walk: says and none of the six laws. Walk: the six laws' own examples (awake). (Printed by awake6.py.) -/
import Derived.Test.YtmobeppmdakjmaaDoorQB
import Derived.Test.YtmobeppmdakjmaaDoorQ3
namespace Go.Proofs.YtmobeppmdakjmaaDoor
open Go.RowKit

theorem parse6_len {s : List UInt8} {l : List Nat} (h : parse6 s = some l) : l.length = 8 := by
  unfold parse6 at h
  split at h
  · split at h
    · rename_i a _
      by_cases h8 : a.length = 8
      · rw [if_pos h8] at h
        cases h
        exact h8
      · rw [if_neg h8] at h
        cases h
    · cases h
  · split at h
    · rename_i a b _ _
      by_cases h7 : a.length + b.length ≤ 7
      · rw [if_pos h7] at h
        cases h
        simp only [List.length_append, List.length_replicate]
        omega
      · rw [if_neg h7] at h
        cases h
    · cases h
set_option maxHeartbeats 16000000 in
set_option maxRecDepth 100000 in
theorem says_any (s : List UInt8) (hl : s.length ≤ 100000) (x : List Nat) (h8 : x.length = 8) (w : World) (ho : Ok w) :
    Calls Tryd.prog 40 #[.string ⟨s.toArray⟩, addrV x] w fun e w' => e = .returned (.bool (decide (parse6 s = some x))) ∧ Below w.heap.size w w' := by
  have hb0 : Below w.heap.size w (w.alloc (.cells (u16V x).toArray 44)) := (Below.refl _ w).alloc (Nat.le_refl _) _
  have Hb0 := Lib.hid hb0
  have Ho := Lib.hid (ho.below hb0)
  have Hp := Lib.hid (parse6_any s hl _ Ho.out)
  have HB : Hid ((w.alloc (.cells (u16V x).toArray 44)).heap[w.heap.size]? = some (.cells (u16V x).toArray 44 (0, 0))) := World.alloc_heap_new w _
  have HE := Lib.hid (fun l (h : l.length = 8) V => equal8_list l x h h8 V)
  have Hx := Lib.hid (fun l : List Nat => @Option.some.injEq (List Nat) l x)
  obtain ⟨a, b_, c, d, e, f, g, i, hxe⟩ := eight h8
  have hcells : (u16V x).toArray = #[.int .u16 (a : Int), .int .u16 (b_ : Int), .int .u16 (c : Int), .int .u16 (d : Int), .int .u16 (e : Int), .int .u16 (f : Int), .int .u16 (g : Int), .int .u16 (i : Int)] := by rw [hxe]; rfl
  rw [addrV]
  rw [hcells] at Hb0 Ho Hp HB HE ⊢
  clear hcells hxe hb0 ho
  generalize hW : w.alloc (.cells #[.int .u16 (a : Int), .int .u16 (b_ : Int), .int .u16 (c : Int), .int .u16 (d : Int), .int .u16 (e : Int), .int .u16 (f : Int), .int .u16 (g : Int), .int .u16 (i : Int)] 44) = W at *
  have HW := Lib.hid hW
  clear hW
  have HR : Hid (∀ (code : Int) (b : Bool), ∀ m0 m1 m2 m3 m4 m5 m6 m7 : Int, parse6V (parse6 s) = .tuple #[.agg #[.int .u16 m0, .int .u16 m1, .int .u16 m2, .int .u16 m3, .int .u16 m4, .int .u16 m5, .int .u16 m6, .int .u16 m7], .int .i64 code] →
      ((code == 0) = false ∧ b = false ∨ (code == 0) = true ∧ ∀ V, (Op.equalIn 10000 44 (.agg #[.int .u16 m0, .int .u16 m1, .int .u16 m2, .int .u16 m3, .int .u16 m4, .int .u16 m5, .int .u16 m6, .int .u16 m7]) (.agg #[.int .u16 (a : Int), .int .u16 (b_ : Int), .int .u16 (c : Int), .int .u16 (d : Int), .int .u16 (e : Int), .int .u16 (f : Int), .int .u16 (g : Int), .int .u16 (i : Int)])).run Tryd.prog V = .ok b V) →
      Calls Tryd.prog 40 #[.string ⟨s.toArray⟩, .agg #[.int .u16 (a : Int), .int .u16 (b_ : Int), .int .u16 (c : Int), .int .u16 (d : Int), .int .u16 (e : Int), .int .u16 (f : Int), .int .u16 (g : Int), .int .u16 (i : Int)]] w fun e w' => e = .returned (.bool b) ∧ Below w.heap.size w w') := by
    show ∀ (code : Int) (b : Bool), _
    intro code b m0 m1 m2 m3 m4 m5 m6 m7 hv hcase
    rw [hv] at Hp
    clear hv Hx HE
    go_enter Tryd.func40, Tryd.ntmps40
    go_wp2_with fail
    rw [HW.out]
    refine Hp.out.mono ?_
    rintro e' w1 ⟨rfl, hc⟩
    have hb1 := Hb0.out.trans (hc.mono Hb0.out.size)
    have hN : w.heap.size < W.heap.size := (Array.getElem?_eq_some_iff.1 HB.out).1
    have HB1 : Hid (w1.heap[w.heap.size]? = some (.cells #[.int .u16 (a : Int), .int .u16 (b_ : Int), .int .u16 (c : Int), .int .u16 (d : Int), .int .u16 (e : Int), .int .u16 (f : Int), .int .u16 (g : Int), .int .u16 (i : Int)] 44 (0, 0))) := (hc.block _ hN).trans HB.out
    have hN1 : w.heap.size < w1.heap.size := (Array.getElem?_eq_some_iff.1 HB1.out).1
    obtain ⟨c0, c1, c2, c3, c4, c5, c6, c7⟩ := cells8 HB1.out
    have Hb1 := Lib.hid hb1
    clear hb1 hc Hp Hb0 Ho
    rcases hcase with ⟨f1, rfl⟩ | ⟨f1, f2⟩
    · go_wp2
      go_ret
      exact ⟨rfl, Hb1.out.alloc (Nat.le_of_lt hN1) _⟩
    · go_wp2
      go_ret
      exact ⟨rfl, Hb1.out.alloc (Nat.le_of_lt hN1) _⟩
  cases hp : parse6 s with
  | none =>
    rw [decide_eq_false (by intro h; cases h)]
    exact HR.out 31 false 0 0 0 0 0 0 0 0 (by rw [hp]; rfl) (.inl ⟨rfl, rfl⟩)
  | some l =>
    have hl8 := parse6_len hp
    have heq := HE.out l hl8
    have hd : decide (some l = some x) = decide (l = x) := by
      congr 1
      exact Hx.out l
    rw [hd]
    obtain ⟨a', b', c', d', e', f', g', i', hle⟩ := eight hl8
    have hcells : (u16V l).toArray = #[.int .u16 (a' : Int), .int .u16 (b' : Int), .int .u16 (c' : Int), .int .u16 (d' : Int), .int .u16 (e' : Int), .int .u16 (f' : Int), .int .u16 (g' : Int), .int .u16 (i' : Int)] := by rw [hle]; rfl
    rw [hcells] at heq
    exact HR.out 0 (decide (l = x)) _ _ _ _ _ _ _ _ (by rw [hp]; show Value.tuple #[.agg (u16V l).toArray, _] = _; rw [hcells]) (.inr ⟨rfl, heq⟩)
set_option maxHeartbeats 16000000 in
set_option maxRecDepth 100000 in
theorem none_any (s : List UInt8) (hl : s.length ≤ 100000) (w : World) (ho : Ok w) :
    Calls Tryd.prog 44 #[.string ⟨s.toArray⟩] w fun e w' => e = .returned (.bool (decide (parse6 s = none))) ∧ Below w.heap.size w w' := by
  have Hp := Lib.hid (parse6_any s hl w ho)
  have HR : Hid (∀ (code : Int) (b : Bool), ∀ m0 m1 m2 m3 m4 m5 m6 m7 : Int, parse6V (parse6 s) = .tuple #[.agg #[.int .u16 m0, .int .u16 m1, .int .u16 m2, .int .u16 m3, .int .u16 m4, .int .u16 m5, .int .u16 m6, .int .u16 m7], .int .i64 code] →
      ((code == 31) = false ∧ b = false ∨ (code == 31) = true ∧ ∀ V, (Op.equalIn 10000 44 (.agg #[.int .u16 m0, .int .u16 m1, .int .u16 m2, .int .u16 m3, .int .u16 m4, .int .u16 m5, .int .u16 m6, .int .u16 m7]) (.agg #[.int .u16 0, .int .u16 0, .int .u16 0, .int .u16 0, .int .u16 0, .int .u16 0, .int .u16 0, .int .u16 0])).run Tryd.prog V = .ok b V) →
      Calls Tryd.prog 44 #[.string ⟨s.toArray⟩] w fun e w' => e = .returned (.bool b) ∧ Below w.heap.size w w') := by
    show ∀ (code : Int) (b : Bool), _
    intro code b m0 m1 m2 m3 m4 m5 m6 m7 hv hcase
    rw [hv] at Hp
    clear hv
    go_enter Tryd.func44, Tryd.ntmps44
    go_wp2_with fail
    refine Hp.out.mono ?_
    rintro e' w1 ⟨rfl, hc⟩
    have Hb1 := Lib.hid hc
    have hN1 := hc.size
    clear hc Hp
    rcases hcase with ⟨f1, rfl⟩ | ⟨f1, f2⟩
    · go_wp2
      go_ret
      exact ⟨rfl, Hb1.out.alloc hN1 _⟩
    · go_wp2
      go_ret
      exact ⟨rfl, Hb1.out.alloc hN1 _⟩
  cases hp : parse6 s with
  | none =>
    rw [decide_eq_true rfl]
    refine HR.out 31 true 0 0 0 0 0 0 0 0 (by rw [hp]; rfl) (.inr ⟨rfl, fun V => ?_⟩)
    exact equal8 0 0 0 0 0 0 0 0 0 0 0 0 0 0 0 0 V
  | some l =>
    have hl8 := parse6_len hp
    rw [decide_eq_false (by intro h; cases h)]
    obtain ⟨a', b', c', d', e', f', g', i', hle⟩ := eight hl8
    have hcells : (u16V l).toArray = #[.int .u16 (a' : Int), .int .u16 (b' : Int), .int .u16 (c' : Int), .int .u16 (d' : Int), .int .u16 (e' : Int), .int .u16 (f' : Int), .int .u16 (g' : Int), .int .u16 (i' : Int)] := by rw [hle]; rfl
    exact HR.out 0 false _ _ _ _ _ _ _ _ (by rw [hp]; show Value.tuple #[.agg (u16V l).toArray, _] = _; rw [hcells]) (.inl ⟨rfl, rfl⟩)
#print axioms none_any
#print axioms says_any
end Go.Proofs.YtmobeppmdakjmaaDoor
namespace Go.Proofs.YtmobeppmdakjmaaDoor
open Go.RowKit

def bad6 : List (List UInt8) := [[58, 49], [49, 58, 50], [49, 58, 58, 50, 58, 58, 51], [58, 58, 49, 46, 50, 46, 51], [58, 58, 48, 49, 46, 50, 46, 51, 46, 52], [49, 50, 51, 52, 53, 58, 58], [49, 46, 50, 46, 51, 46, 52, 58, 58]]
theorem bad6_none : ∀ t ∈ bad6, parse6 t = none ∧ t.length ≤ 100000 := by decide +kernel
theorem says6_true (s : List UInt8) (x : List Nat) (h : parse6 s = some x) (hl : s.length ≤ 100000) (w : World) (ho : Ok6 w) :
    Calls Tryd.prog 40 #[.string ⟨s.toArray⟩, addrV x] w fun e w' => e = .returned (.bool true) ∧ Below w.heap.size w w' := by
  have := says_any s hl x (parse6_len h) w ho.1
  rwa [h, decide_eq_true rfl] at this
theorem none6_true (s : List UInt8) (h : parse6 s = none) (hl : s.length ≤ 100000) (w : World) (ho : Ok6 w) :
    Calls Tryd.prog 44 #[.string ⟨s.toArray⟩] w fun e w' => e = .returned (.bool true) ∧ Below w.heap.size w w' := by
  have := none_any s hl w ho.1
  rwa [h, decide_eq_true rfl] at this
theorem show6_is (x : List Nat) (s : List UInt8) (h : show6 x = s) (h8 : x.length = 8) (hx : ∀ n ∈ x, n < 65536) (w : World) (ho : Ok6 w) :
    Calls Tryd.prog 34 #[addrV x] w fun e w' => e = .returned (.string ⟨s.toArray⟩) ∧ Below w.heap.size w w' := by
  subst h; exact show6_any x h8 hx w ho
set_option maxHeartbeats 8000000 in
set_option maxRecDepth 100000 in
theorem awake6_true (w : World) (ho : Ok6 w) : Calls Tryd.prog 29 #[] w fun e w' => e = .returned (.bool true) ∧ Below w.heap.size w w' := by
  have x0 : Hid (∀ W, Ok6 W → Calls Tryd.prog 40 #[.string ⟨#[58, 58, 49]⟩, .agg #[.int .u16 0, .int .u16 0, .int .u16 0, .int .u16 0, .int .u16 0, .int .u16 0, .int .u16 0, .int .u16 1]] W fun e w' => e = .returned (.bool true) ∧ Below W.heap.size W w') := fun W h => says6_true [58, 58, 49] [0, 0, 0, 0, 0, 0, 0, 1] (by decide +kernel) (by decide) W h
  have x1 : Hid (∀ W, Ok6 W → Calls Tryd.prog 40 #[.string ⟨#[49, 58, 50, 58, 51, 58, 52, 58, 53, 58, 54, 58, 55, 58, 56]⟩, .agg #[.int .u16 1, .int .u16 2, .int .u16 3, .int .u16 4, .int .u16 5, .int .u16 6, .int .u16 7, .int .u16 8]] W fun e w' => e = .returned (.bool true) ∧ Below W.heap.size W w') := fun W h => says6_true [49, 58, 50, 58, 51, 58, 52, 58, 53, 58, 54, 58, 55, 58, 56] [1, 2, 3, 4, 5, 6, 7, 8] (by decide +kernel) (by decide) W h
  have x2 : Hid (∀ W, Ok6 W → Calls Tryd.prog 40 #[.string ⟨#[58, 58, 102, 102, 102, 102, 58, 49, 46, 50, 46, 51, 46, 52]⟩, .agg #[.int .u16 0, .int .u16 0, .int .u16 0, .int .u16 0, .int .u16 0, .int .u16 65535, .int .u16 258, .int .u16 772]] W fun e w' => e = .returned (.bool true) ∧ Below W.heap.size W w') := fun W h => says6_true [58, 58, 102, 102, 102, 102, 58, 49, 46, 50, 46, 51, 46, 52] [0, 0, 0, 0, 0, 65535, 258, 772] (by decide +kernel) (by decide) W h
  have x3 : Hid (∀ W, Ok6 W → Calls Tryd.prog 40 #[.string ⟨#[49, 58, 58]⟩, .agg #[.int .u16 1, .int .u16 0, .int .u16 0, .int .u16 0, .int .u16 0, .int .u16 0, .int .u16 0, .int .u16 0]] W fun e w' => e = .returned (.bool true) ∧ Below W.heap.size W w') := fun W h => says6_true [49, 58, 58] [1, 0, 0, 0, 0, 0, 0, 0] (by decide +kernel) (by decide) W h
  have x4 : Hid (∀ W, Ok6 W → Calls Tryd.prog 40 #[.string ⟨#[49, 58, 50, 58, 51, 58, 52, 58, 53, 58, 54, 58, 55, 58, 58]⟩, .agg #[.int .u16 1, .int .u16 2, .int .u16 3, .int .u16 4, .int .u16 5, .int .u16 6, .int .u16 7, .int .u16 0]] W fun e w' => e = .returned (.bool true) ∧ Below W.heap.size W w') := fun W h => says6_true [49, 58, 50, 58, 51, 58, 52, 58, 53, 58, 54, 58, 55, 58, 58] [1, 2, 3, 4, 5, 6, 7, 0] (by decide +kernel) (by decide) W h
  have x5 : Hid (∀ W, Ok6 W → Calls Tryd.prog 34 #[.agg #[.int .u16 1, .int .u16 0, .int .u16 0, .int .u16 2, .int .u16 0, .int .u16 0, .int .u16 0, .int .u16 3]] W fun e w' => e = .returned (.string ⟨#[49, 58, 48, 58, 48, 58, 50, 58, 58, 51]⟩) ∧ Below W.heap.size W w') := fun W h => show6_is [1, 0, 0, 2, 0, 0, 0, 3] [49, 58, 48, 58, 48, 58, 50, 58, 58, 51] (by decide +kernel) rfl (by decide) W h
  have x6 : Hid (∀ W, Ok6 W → Calls Tryd.prog 34 #[.agg #[.int .u16 1, .int .u16 0, .int .u16 2, .int .u16 3, .int .u16 4, .int .u16 5, .int .u16 6, .int .u16 7]] W fun e w' => e = .returned (.string ⟨#[49, 58, 48, 58, 50, 58, 51, 58, 52, 58, 53, 58, 54, 58, 55]⟩) ∧ Below W.heap.size W w') := fun W h => show6_is [1, 0, 2, 3, 4, 5, 6, 7] [49, 58, 48, 58, 50, 58, 51, 58, 52, 58, 53, 58, 54, 58, 55] (by decide +kernel) rfl (by decide) W h
  have xn := Lib.hid (fun s h hl W ho => none6_true s h hl W ho)
  have xb := Lib.hid bad6_none
  have ho0 := Lib.hid ho
  clear ho
  have hb0 := Below.refl w.heap.size w
  go_enter Tryd.func29, Tryd.ntmps29
  go_wp2_with (go_at_call 40; refine (x0.out w ho0.out).mono ?_)
  rintro e w1 ⟨rfl, hc1⟩
  have ho1 := Lib.hid (ho0.out.below hc1)
  have hb1 := hb0.trans (hc1.mono hb0.size)
  clear hc1 hb0 ho0 x0
  go_wp2_with (go_at_call 40; refine (x1.out w1 ho1.out).mono ?_)
  rintro e w2 ⟨rfl, hc2⟩
  have ho2 := Lib.hid (ho1.out.below hc2)
  have hb2 := hb1.trans (hc2.mono hb1.size)
  clear hc2 hb1 ho1 x1
  go_wp2_with (go_at_call 40; refine (x2.out w2 ho2.out).mono ?_)
  rintro e w3 ⟨rfl, hc3⟩
  have ho3 := Lib.hid (ho2.out.below hc3)
  have hb3 := hb2.trans (hc3.mono hb2.size)
  clear hc3 hb2 ho2 x2
  go_wp2_with (go_at_call 40; refine (x3.out w3 ho3.out).mono ?_)
  rintro e w4 ⟨rfl, hc4⟩
  have ho4 := Lib.hid (ho3.out.below hc4)
  have hb4 := hb3.trans (hc4.mono hb3.size)
  clear hc4 hb3 ho3 x3
  go_wp2_with (go_at_call 40; refine (x4.out w4 ho4.out).mono ?_)
  rintro e w5 ⟨rfl, hc5⟩
  have ho5 := Lib.hid (ho4.out.below hc5)
  have hb5 := hb4.trans (hc5.mono hb4.size)
  clear hc5 hb4 ho4 x4
  go_wp2
  go_loopw [1, 24] (fun v i wr => ∃ k : Nat, k ≤ 7 ∧ v = .bool true ∧ i = .int .i64 (k : Int) ∧ Below w.heap.size w wr ∧ Hid (Ok6 wr) ∧ Hid (w5.heap.size < wr.heap.size ∧ ∀ j (s : List UInt8), bad6[j]? = some s → wr.cell? ⟨w5.heap.size, j, none⟩ = some (.string ⟨s.toArray⟩))) (fun _ i _ => (7 - intOf i).toNat)
  case atStart =>
    refine ⟨0, Nat.zero_le _, rfl, rfl, hb5.alloc hb5.size _, Lib.hid (ho5.out.below ((Below.refl _ w5).alloc (Nat.le_refl _) _)), ?_⟩
    show _ ∧ _
    refine ⟨by simp, fun j s hj => ?_⟩
    have h1 := rd_new w5 (strV bad6) 9
    have h2 := h1.cell (k := j) (u := .string ⟨s.toArray⟩) (strV_get hj)
    rw [Nat.zero_add] at h2
    exact h2
  case round =>
    obtain ⟨k, hk, rfl, rfl, hbw, how, hrow⟩ := hrel
    have hN := hrow.out.1
    by_cases hk7 : k = 7
    · subst hk7
      go_wp2_with (go_at_call 34; refine (x5.out wr how.out).mono ?_)
      rintro e u1 ⟨rfl, hc6⟩
      have ho6 := Lib.hid (how.out.below hc6)
      have hb6 := hbw.trans (hc6.mono hbw.size)
      clear hc6
      go_wp2_with (go_at_call 34; refine (x6.out u1 ho6.out).mono ?_)
      rintro e u2 ⟨rfl, hc7⟩
      have ho7 := Lib.hid (ho6.out.below hc7)
      have hb7 := hb6.trans (hc7.mono hb6.size)
      clear hc7
      go_wp2
      go_ret
      exact ⟨rfl, hb7⟩
    · obtain ⟨s, hs⟩ : ∃ s, bad6[k]? = some s := ⟨_, List.getElem?_eq_getElem (show k < 7 by omega)⟩
      have hcell := hrow.out.2 k s hs
      have hmem := xb.out s (List.mem_of_getElem? hs)
      have hn := Lib.hid (xn.out s hmem.1 hmem.2 wr how.out)
      have hk2 : (k : Int) < 7 := by omega
      have hk3 : (0 : Int) ≤ (k : Int) := by omega
      clear hs hmem hk7
      go_wp2_with (go_at_call 44; refine hn.out.mono ?_)
      rintro e w8 ⟨rfl, hc⟩
      have hon := Lib.hid (how.out.below hc)
      have hrown : Hid (w5.heap.size < w8.heap.size ∧ ∀ j (s : List UInt8), bad6[j]? = some s → w8.cell? ⟨w5.heap.size, j, none⟩ = some (.string ⟨s.toArray⟩)) := by
        show _ ∧ _
        exact ⟨Nat.lt_of_lt_of_le hN hc.size, fun j s hj => (hc.cell (p := ⟨w5.heap.size, j, none⟩) hN).trans (hrow.out.2 j s hj)⟩
      have hbn := hbw.trans (hc.mono hbw.size)
      clear hcell hc
      go_wp2
      refine ⟨⟨k + 1, by omega, rfl, ?_, hbn, hon, hrown⟩, ?_⟩
      · rw [Int.natCast_add]
        rfl
      · simp only [intOf]
        omega
#print axioms awake6_true
end Go.Proofs.YtmobeppmdakjmaaDoor
