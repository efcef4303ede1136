/- Law: FourForms answers true at every address, every number of parts, and however each is written. (Printed by fourforms3.py.) -/
import Derived.Test.YtmobeppmdakjmaaGreatDoorV2
import Derived.Test.YtmobeppmdakjmaaGreatDoorF1
import Derived.RangeFuncBox
import Derived.Deep.RegionHeld3
import Derived.IntWalk
namespace Go.Proofs.YtmobeppmdakjmaaGreatDoor
open Go.RowKit Go.Shelf

theorem Ok.drew {w : World} (h : Ok w) : Ok w.drew := h.below ((Below.refl _ w).drew)
theorem Tz.drew {w : World} (h : Tz w) : Tz w.drew := h.below ((Below.refl _ w).drew)
theorem byte_u64 (y : Nat) (h : y < 4294967296) : IntKind.u64.wrap (bits BinOp.and IntKind.u32 (y : Int) 255) = ((y % 256 : Nat) : Int) := by
  rw [show bits BinOp.and IntKind.u32 (y : Int) 255 = (y : Int) % 256 from bits_mask .u32 32 (by decide) wraps_u32 8 (by decide) (y : Int) (by omega) (by omega)]
  rw [wraps_u64 _ (by omega) (by omega)]
  omega
theorem mask_u64 (y i : Nat) (hi : i ≤ 64) (h : y < 4294967296) : bits BinOp.and IntKind.u64 (y : Int) (2 ^ i - 1) = ((y % 2 ^ i : Nat) : Int) := by
  rw [bits_mask .u64 64 (by decide) wraps_u64 i hi (y : Int) (by omega) (by omega)]
  rw [Int.natCast_emod, Int.natCast_pow]
  rfl
theorem written_val (v : Int) (n : Nat) (hv : v = (n : Int)) (hn : n < 4294967296) (g : UInt8) (t : List UInt8) (ht0 : writ n g.toNat = t) (w : World) (ho : Ok w) (ht : Tz w) :
    Calls Tryz.prog 4 #[.int .u64 v, .int .u8 g.toNat] w fun e w' => e = .returned (.string ⟨t.toArray⟩) ∧ Below w.heap.size w w' := by
  subst hv ht0; exact written_any n hn g w ho ht
/-- The ways in which the parts are written, in a block of the call's own. -/
def How (N : Nat) (hw : List UInt8) (w : World) : Prop := w.heap[N]? = some (.cells (bytV hw).toArray 23 (0, 0))
theorem How.below {N : Nat} {hw : List UInt8} {w w' : World} (h : How N hw w) (hb : Below w.heap.size w w') : How N hw w' := (hb.block N (Array.getElem?_eq_some_iff.1 h).1).trans h
theorem How.cell {N : Nat} {hw : List UInt8} {w : World} (h : How N hw w) {k : Nat} {b : UInt8} (hk : hw[k]? = some b) : w.cell? ⟨N, k, none⟩ = some (.int .u8 b.toNat) := by
  unfold World.cell?
  rw [show w.heap[N]? = _ from h]
  have := bytV_get hk
  simpa using this
theorem How.alloc {N : Nat} {hw : List UInt8} {w : World} (h : How N hw w) (o : Obj) : How N hw (w.alloc o) := (Below.heap_alloc _ _ _ (Array.getElem?_eq_some_iff.1 h).1).trans h
theorem How.grown {N : Nat} {hw : List UInt8} {w w' : World} {row : Option Nat} (h : How N hw w) (hg : w.grownBy w' row) (hne : row ≠ some N) : How N hw w' := (hg.block N (Array.getElem?_eq_some_iff.1 h).1 (fun e => hne e.symm)).trans h
theorem How.lt {N : Nat} {hw : List UInt8} {w : World} (h : How N hw w) : N < w.heap.size := (Array.getElem?_eq_some_iff.1 h).1
set_option maxHeartbeats 8000000 in
set_option maxRecDepth 100000 in
theorem fourForms_main (x : Nat) (hx : x < 4294967296) (m h0 h1 h2 h3 : UInt8) (n : Nat) (hn1 : 1 ≤ n) (hn4 : n ≤ 4) (f1 : 1 + (m.toNat : Int) % 4 = (n : Int)) (w : World) (ho : Ok w) (ht : Tz w) :
    Calls Tryz.prog 3 #[.int .u32 (x : Int), .int .u8 m.toNat, .agg #[.int .u8 h0.toNat, .int .u8 h1.toNat, .int .u8 h2.toNat, .int .u8 h3.toNat]] w fun e w' => e = .returned (.bool true) ∧ Below w.heap.size w w' := by
  obtain ⟨i0, hi, hz0, hz1, hz2⟩ := info_parts Tryz.info9
  have hm := m.toNat_lt
  obtain ⟨hw, hhw⟩ : ∃ hw, hw = [h0, h1, h2, h3] := ⟨_, rfl⟩
  have hb0 : Below w.heap.size w (w.alloc (.cells #[.int .u8 h0.toNat, .int .u8 h1.toNat, .int .u8 h2.toNat, .int .u8 h3.toNat] 23)) := (Below.refl _ w).alloc (Nat.le_refl _) _
  have HH : Hid (How w.heap.size hw (w.alloc (.cells #[.int .u8 h0.toNat, .int .u8 h1.toNat, .int .u8 h2.toNat, .int .u8 h3.toNat] 23))) := by
    show How _ _ _
    rw [hhw]
    exact World.alloc_heap_new w _
  have Ho := Lib.hid ho
  have Ht := Lib.hid ht
  have Hb0 := Lib.hid hb0
  have Hhw := Lib.hid hhw
  have hg0 : hw.getD 0 0 = h0 := by rw [hhw]; rfl
  have hg1 : hw.getD 1 0 = h1 := by rw [hhw]; rfl
  have hg2 : hw.getD 2 0 = h2 := by rw [hhw]; rfl
  have hg3 : hw.getD 3 0 = h3 := by rw [hhw]; rfl
  have Hs0 : Hid (partsW x hw 1 = partsW x hw 0 ++ [writ (x / 16777216 % 256) h0.toNat]) := by show _ = _; rw [partsW_succ, hg0]
  have Hs1 : Hid (partsW x hw 2 = partsW x hw 1 ++ [writ (x / 65536 % 256) h1.toNat]) := by show _ = _; rw [partsW_succ, hg1]
  have Hs2 : Hid (partsW x hw 3 = partsW x hw 2 ++ [writ (x / 256 % 256) h2.toNat]) := by show _ = _; rw [partsW_succ, hg2]
  have Ha1 : Hid (allW x hw 1 = partsW x hw 0 ++ [writ (x % 4294967296) h0.toNat]) := by show _ = _; unfold allW; rw [show 1 - 1 = 0 from rfl, hg0]
  have Ha2 : Hid (allW x hw 2 = partsW x hw 1 ++ [writ (x % 16777216) h1.toNat]) := by show _ = _; unfold allW; rw [show 2 - 1 = 1 from rfl, hg1]
  have Ha3 : Hid (allW x hw 3 = partsW x hw 2 ++ [writ (x % 65536) h2.toNat]) := by show _ = _; unfold allW; rw [show 3 - 1 = 2 from rfl, hg2]
  have Ha4 : Hid (allW x hw 4 = partsW x hw 3 ++ [writ (x % 256) h3.toNat]) := by show _ = _; unfold allW; rw [show 4 - 1 = 3 from rfl, hg3]
  have x9 := Lib.hid (fun W h => awake_true W h)
  obtain ⟨tj, htj⟩ : ∃ t, Lib.join (allW x hw n) [46] = t := ⟨_, rfl⟩
  have hpj := allW_parse x hx hw hn1 hn4
  have hej := allW_ends x hx hw hn1 hn4
  have hlj := join_short (allW x hw n) (allW_short x hw hn1) (by rw [allW_len x hw hn1]; omega)
  rw [htj] at hpj hej hlj
  have Hsay := Lib.hid (fun W h => says_true tj x hpj hlj W h)
  have Hend := Lib.hid (fun W h => ends_is tj true hej hlj W h)
  have HJ : Hid (∀ (v : Value) (W : World) (base : Nat), W.ownsRow base 9 1 v n (strV (allW x hw n)) → Calls Tryz.prog 5 #[v, .string ⟨#[46]⟩] W fun e w' => e = .returned (.string ⟨tj.toArray⟩) ∧ Below W.heap.size W w') := by
    show ∀ (v : Value), _
    intro v W base h
    rw [← htj]
    have hl := allW_len x hw hn1
    rw [← hl] at h
    exact join_own (allW x hw n) (by omega) v W base (by rw [hl] at h ⊢; exact h) [46] (by rw [htj]; exact hlj) (by decide) (by omega)
  have Hx := Lib.hid hx
  clear hhw hg0 hg1 hg2 hg3 hb0 ho ht htj hpj hej hlj
  go_enter Tryz.func3, Tryz.ntmps3
  go_wp2
  generalize hW : w.alloc (.cells #[.int .u8 h0.toNat, .int .u8 h1.toNat, .int .u8 h2.toNat, .int .u8 h3.toNat] 23) = W at *
  clear hW
  have hNW := HH.out.lt
  go_loopw [8, 18] (fun v i wr => ∃ j : Nat, j + 1 ≤ n ∧ i = .int .i64 (j : Int) ∧ Hid (wr.ownsRow (w.heap.size + 1) 9 1 v j (strV (partsW x hw j))) ∧ Below w.heap.size w wr ∧ Hid (How w.heap.size hw wr)) (fun _ i _ => 8 - (intOf i).toNat)
  case atStart => exact ⟨0, by omega, rfl, World.ownsRow_nil _ _ _ _, Hb0.out, HH.out⟩
  case round =>
    obtain ⟨j, hj, rfl, hown, hbw, hhow⟩ := hrel
    have hok := Lib.hid (And.intro (Ho.out.below hbw) (Ht.out.below hbw))
    obtain ⟨A', c', rfl, hlc⟩ := own_slice_le hown.out
    have hsz := hbw.size
    have hNr := hhow.out.lt
    clear HH Hb0
    by_cases hlt : j + 1 < n
    · have i1 : (j : Int) < (n : Int) - 1 := by omega
      have q : j = 0 ∨ j = 1 ∨ j = 2 := by omega
      have w0 : IntKind.i64.wrap 0 = 0 := by decide
      have w8 : IntKind.i64.wrap 8 = 8 := by decide
      have w16 : IntKind.i64.wrap 16 = 16 := by decide
      have w24 : IntKind.i64.wrap 24 = 24 := by decide
      rcases q with rfl | rfl | rfl
      · skip
        have hcell : wr.cell? ⟨w.heap.size, 0, none⟩ = some (.int .u8 h0.toNat) := hhow.out.cell (by rw [Hhw.out]; rfl)
        have hv : Hid (IntKind.u64.wrap (bits BinOp.and IntKind.u32 ((x : Int) / 16777216) 255) = ((x / 16777216 % 256 : Nat) : Int)) := by
          have := byte_u64 (x / 16777216) (by omega)
          rwa [Int.natCast_ediv] at this
        obtain ⟨tw, htw⟩ : ∃ t, writ (x / 16777216 % 256) h0.toNat = t := ⟨_, rfl⟩
        have HWr := Lib.hid (fun W ho ht => written_val _ (x / 16777216 % 256) hv.out (by omega) h0 tw htw W ho ht)
        have Hst : Hid (partsW x hw (0 + 1) = partsW x hw 0 ++ [tw]) := by show _ = _; rw [← htw]; exact Hs0.out
        have hone := strV_one [tw]
        have hmx : 0 + [Value.string ⟨tw.toArray⟩].length ≤ maxLen := by simp only [List.length_cons, List.length_nil]; unfold maxLen; omega
        have hmb : (0 + [Value.string ⟨tw.toArray⟩].length) * 16 ≤ 140737488355328 := by simp
        clear htw
        go_wp2
        go_region_held3 (fun w' => w'.cell? ⟨w.heap.size, 0, none⟩ = some (.int .u8 h0.toNat))
          (first | exact hcell | exact hk2 | exact hk3 | exact ((hh2.out.alloc _).cell (k := 0) (b := h0) (by rw [Hhw.out]; rfl)))
          (first
            | (go_at_call 4; refine (HWr.out wr.drew hok.out.1.drew hok.out.2.drew).mono ?_; rintro e w2 ⟨rfl, hc2⟩; have hb2 := hbw.drew.trans (hc2.mono hbw.size); have hh2 := Lib.hid (How.below (w := wr.drew) hhow.out hc2); have hk2 := hh2.out.cell (k := 0) (b := h0) (by rw [Hhw.out]; rfl); have hl2 := hh2.out.lt; have hown2 := Lib.hid ((own_below (World.ownsRow.drew hown.out) hc2 (Nat.le_refl _)).alloc (.cells #[.string ⟨tw.toArray⟩] 9)); have hbs2 : w.heap.size + 1 ≤ (w2.alloc (.cells #[.string ⟨tw.toArray⟩] 9)).heap.size := Nat.le_trans hl2 (by simp))
            | (refine step_append_rd _ rfl (.tmp 21) (.tmp 33) 24 rfl (w.heap.size + 1) 9 i0 (.string ⟨#[]⟩) 16 Tryz.underlying24 hi hz0 hz1 hz2 rfl (.slice A' 0 c') 0 (strV (partsW x hw 0)) rfl hown2.out (w2.heap.size + 1) (some ⟨w2.heap.size, 0, none⟩) 1 [.string ⟨tw.toArray⟩] rfl (rd_new w2 [.string ⟨tw.toArray⟩] 9) hone hmx hmb hbs2 ?_; intro v' w3 hown3 hg3 hat3; have hne3 := (fun (e : (Value.slice A' 0 c').ownBlock = some w.heap.size) => Nat.not_succ_le_self _ (hown2.out.lt _ e).1); have hh3 := Lib.hid (How.grown (hh2.out.alloc _) hg3 hne3); have hk3 := hh3.out.cell (k := 0) (b := h0) (by rw [Hhw.out]; rfl); have hb3 := (hb2.alloc hb2.size (.cells #[.string ⟨tw.toArray⟩] 9)).grown hg3 (Nat.le_of_succ_le hbs2) (fun q e => Nat.le_of_succ_le (hown2.out.lt q e).1)))
        all_goals
          rw [show strV (partsW x hw 0) ++ [Value.string ⟨tw.toArray⟩] = strV (partsW x hw (0 + 1)) from by rw [Hst.out, strV_append]; rfl] at hown3
          go_wp2
          exact ⟨⟨0 + 1, by omega, rfl, hown3, hb3, hh3⟩, by simp [intOf]⟩
      · skip
        have hcell : wr.cell? ⟨w.heap.size, 1, none⟩ = some (.int .u8 h1.toNat) := hhow.out.cell (by rw [Hhw.out]; rfl)
        have hv : Hid (IntKind.u64.wrap (bits BinOp.and IntKind.u32 ((x : Int) / 65536) 255) = ((x / 65536 % 256 : Nat) : Int)) := by
          have := byte_u64 (x / 65536) (by omega)
          rwa [Int.natCast_ediv] at this
        obtain ⟨tw, htw⟩ : ∃ t, writ (x / 65536 % 256) h1.toNat = t := ⟨_, rfl⟩
        have HWr := Lib.hid (fun W ho ht => written_val _ (x / 65536 % 256) hv.out (by omega) h1 tw htw W ho ht)
        have Hst : Hid (partsW x hw (1 + 1) = partsW x hw 1 ++ [tw]) := by show _ = _; rw [← htw]; exact Hs1.out
        have hone := strV_one [tw]
        have hmx : 1 + [Value.string ⟨tw.toArray⟩].length ≤ maxLen := by simp only [List.length_cons, List.length_nil]; unfold maxLen; omega
        have hmb : (1 + [Value.string ⟨tw.toArray⟩].length) * 16 ≤ 140737488355328 := by simp
        clear htw
        go_wp2
        go_region_held3 (fun w' => w'.cell? ⟨w.heap.size, 1, none⟩ = some (.int .u8 h1.toNat))
          (first | exact hcell | exact hk2 | exact hk3 | exact ((hh2.out.alloc _).cell (k := 1) (b := h1) (by rw [Hhw.out]; rfl)))
          (first
            | (go_at_call 4; refine (HWr.out wr.drew hok.out.1.drew hok.out.2.drew).mono ?_; rintro e w2 ⟨rfl, hc2⟩; have hb2 := hbw.drew.trans (hc2.mono hbw.size); have hh2 := Lib.hid (How.below (w := wr.drew) hhow.out hc2); have hk2 := hh2.out.cell (k := 1) (b := h1) (by rw [Hhw.out]; rfl); have hl2 := hh2.out.lt; have hown2 := Lib.hid ((own_below (World.ownsRow.drew hown.out) hc2 (Nat.le_refl _)).alloc (.cells #[.string ⟨tw.toArray⟩] 9)); have hbs2 : w.heap.size + 1 ≤ (w2.alloc (.cells #[.string ⟨tw.toArray⟩] 9)).heap.size := Nat.le_trans hl2 (by simp))
            | (refine step_append_rd _ rfl (.tmp 21) (.tmp 33) 24 rfl (w.heap.size + 1) 9 i0 (.string ⟨#[]⟩) 16 Tryz.underlying24 hi hz0 hz1 hz2 rfl (.slice A' 1 c') 1 (strV (partsW x hw 1)) rfl hown2.out (w2.heap.size + 1) (some ⟨w2.heap.size, 0, none⟩) 1 [.string ⟨tw.toArray⟩] rfl (rd_new w2 [.string ⟨tw.toArray⟩] 9) hone hmx hmb hbs2 ?_; intro v' w3 hown3 hg3 hat3; have hne3 := (fun (e : (Value.slice A' 1 c').ownBlock = some w.heap.size) => Nat.not_succ_le_self _ (hown2.out.lt _ e).1); have hh3 := Lib.hid (How.grown (hh2.out.alloc _) hg3 hne3); have hk3 := hh3.out.cell (k := 1) (b := h1) (by rw [Hhw.out]; rfl); have hb3 := (hb2.alloc hb2.size (.cells #[.string ⟨tw.toArray⟩] 9)).grown hg3 (Nat.le_of_succ_le hbs2) (fun q e => Nat.le_of_succ_le (hown2.out.lt q e).1)))
        all_goals
          rw [show strV (partsW x hw 1) ++ [Value.string ⟨tw.toArray⟩] = strV (partsW x hw (1 + 1)) from by rw [Hst.out, strV_append]; rfl] at hown3
          go_wp2
          exact ⟨⟨1 + 1, by omega, rfl, hown3, hb3, hh3⟩, by simp [intOf]⟩
      · skip
        have hcell : wr.cell? ⟨w.heap.size, 2, none⟩ = some (.int .u8 h2.toNat) := hhow.out.cell (by rw [Hhw.out]; rfl)
        have hv : Hid (IntKind.u64.wrap (bits BinOp.and IntKind.u32 ((x : Int) / 256) 255) = ((x / 256 % 256 : Nat) : Int)) := by
          have := byte_u64 (x / 256) (by omega)
          rwa [Int.natCast_ediv] at this
        obtain ⟨tw, htw⟩ : ∃ t, writ (x / 256 % 256) h2.toNat = t := ⟨_, rfl⟩
        have HWr := Lib.hid (fun W ho ht => written_val _ (x / 256 % 256) hv.out (by omega) h2 tw htw W ho ht)
        have Hst : Hid (partsW x hw (2 + 1) = partsW x hw 2 ++ [tw]) := by show _ = _; rw [← htw]; exact Hs2.out
        have hone := strV_one [tw]
        have hmx : 2 + [Value.string ⟨tw.toArray⟩].length ≤ maxLen := by simp only [List.length_cons, List.length_nil]; unfold maxLen; omega
        have hmb : (2 + [Value.string ⟨tw.toArray⟩].length) * 16 ≤ 140737488355328 := by simp
        clear htw
        go_wp2
        go_region_held3 (fun w' => w'.cell? ⟨w.heap.size, 2, none⟩ = some (.int .u8 h2.toNat))
          (first | exact hcell | exact hk2 | exact hk3 | exact ((hh2.out.alloc _).cell (k := 2) (b := h2) (by rw [Hhw.out]; rfl)))
          (first
            | (go_at_call 4; refine (HWr.out wr.drew hok.out.1.drew hok.out.2.drew).mono ?_; rintro e w2 ⟨rfl, hc2⟩; have hb2 := hbw.drew.trans (hc2.mono hbw.size); have hh2 := Lib.hid (How.below (w := wr.drew) hhow.out hc2); have hk2 := hh2.out.cell (k := 2) (b := h2) (by rw [Hhw.out]; rfl); have hl2 := hh2.out.lt; have hown2 := Lib.hid ((own_below (World.ownsRow.drew hown.out) hc2 (Nat.le_refl _)).alloc (.cells #[.string ⟨tw.toArray⟩] 9)); have hbs2 : w.heap.size + 1 ≤ (w2.alloc (.cells #[.string ⟨tw.toArray⟩] 9)).heap.size := Nat.le_trans hl2 (by simp))
            | (refine step_append_rd _ rfl (.tmp 21) (.tmp 33) 24 rfl (w.heap.size + 1) 9 i0 (.string ⟨#[]⟩) 16 Tryz.underlying24 hi hz0 hz1 hz2 rfl (.slice A' 2 c') 2 (strV (partsW x hw 2)) rfl hown2.out (w2.heap.size + 1) (some ⟨w2.heap.size, 0, none⟩) 1 [.string ⟨tw.toArray⟩] rfl (rd_new w2 [.string ⟨tw.toArray⟩] 9) hone hmx hmb hbs2 ?_; intro v' w3 hown3 hg3 hat3; have hne3 := (fun (e : (Value.slice A' 2 c').ownBlock = some w.heap.size) => Nat.not_succ_le_self _ (hown2.out.lt _ e).1); have hh3 := Lib.hid (How.grown (hh2.out.alloc _) hg3 hne3); have hk3 := hh3.out.cell (k := 2) (b := h2) (by rw [Hhw.out]; rfl); have hb3 := (hb2.alloc hb2.size (.cells #[.string ⟨tw.toArray⟩] 9)).grown hg3 (Nat.le_of_succ_le hbs2) (fun q e => Nat.le_of_succ_le (hown2.out.lt q e).1)))
        all_goals
          rw [show strV (partsW x hw 2) ++ [Value.string ⟨tw.toArray⟩] = strV (partsW x hw (2 + 1)) from by rw [Hst.out, strV_append]; rfl] at hown3
          go_wp2
          exact ⟨⟨2 + 1, by omega, rfl, hown3, hb3, hh3⟩, by simp [intOf]⟩
    · have i1 : ¬ (j : Int) < (n : Int) - 1 := by omega
      have hxw : IntKind.u64.wrap (x : Int) = (x : Int) := wraps_u64 _ (by omega) (by omega)
      clear f1 i1
      have q : n = 1 ∨ n = 2 ∨ n = 3 ∨ n = 4 := by omega
      rcases q with rfl | rfl | rfl | rfl
      · obtain rfl : j = 0 := by omega
        have hrest : bits BinOp.and IntKind.u64 (x : Int) 4294967295 = ((x % 4294967296 : Nat) : Int) := by simpa using mask_u64 x 32 (by decide) Hx.out
        have hcell : wr.cell? ⟨w.heap.size, 0, none⟩ = some (.int .u8 h0.toNat) := hhow.out.cell (by rw [Hhw.out]; rfl)
        have Hrest := Lib.hid hrest
        clear hrest
        obtain ⟨tw, htw⟩ : ∃ t, writ (x % 4294967296) h0.toNat = t := ⟨_, rfl⟩
        have Hst : Hid (allW x hw 1 = partsW x hw 0 ++ [tw]) := by show _ = _; rw [← htw]; exact Ha1.out
        have HWr := Lib.hid (fun v hv W ho ht => written_val v (x % 4294967296) hv (by omega) h0 tw htw W ho ht)
        have hone := strV_one [tw]
        have hmx : 0 + [Value.string ⟨tw.toArray⟩].length ≤ maxLen := by simp only [List.length_cons, List.length_nil]; unfold maxLen; omega
        have hmb : (0 + [Value.string ⟨tw.toArray⟩].length) * 16 ≤ 140737488355328 := by simp
        clear htw
        go_wp2_with fail
        refine (HWr.out _ (by exact Hrest.out) _ hok.out.1 hok.out.2).mono ?_
        rintro e w2 ⟨rfl, hc2⟩
        have hb2 := hbw.trans (hc2.mono hbw.size)
        have hl2 := (How.below hhow.out hc2).lt
        have hown2 := Lib.hid ((own_below hown.out hc2 (Nat.le_refl _)).alloc (.cells #[.string ⟨tw.toArray⟩] 9))
        have hbs2 : w.heap.size + 1 ≤ (w2.alloc (.cells #[.string ⟨tw.toArray⟩] 9)).heap.size := Nat.le_trans hl2 (by simp)
        clear hcell
        go_wp2_with (at_builtin; refine wpList_append_rd _ rfl _ _ 24 rfl (w.heap.size + 1) 9 i0 (.string ⟨#[]⟩) 16 Tryz.underlying24 hi hz0 hz1 hz2 rfl (.slice A' 0 c') 0 (strV (partsW x hw 0)) rfl hown2.out (w2.heap.size + 1) (some ⟨w2.heap.size, 0, none⟩) 1 [.string ⟨tw.toArray⟩] rfl (rd_new w2 [.string ⟨tw.toArray⟩] 9) hone hmx hmb hbs2 ?_)
        intro v' w3 hown3 hg3 hat3
        have hb3 := (hb2.alloc hb2.size (.cells #[.string ⟨tw.toArray⟩] 9)).grown hg3 (Nat.le_of_succ_le hbs2) (fun q e => Nat.le_of_succ_le (hown2.out.lt q e).1)
        rw [show strV (partsW x hw 0) ++ [Value.string ⟨tw.toArray⟩] = strV (allW x hw 1) from by rw [Hst.out, strV_append]; rfl] at hown3
        have HJ3 := Lib.hid (HJ.out v' w3 (w.heap.size + 1) hown3)
        clear hown3 hown2 hg3 hown
        go_wp2_with fail
        refine HJ3.out.mono ?_
        rintro e w4 ⟨rfl, hc4⟩
        have hb4 := hb3.trans (hc4.mono hb3.size)
        have ho4 := Lib.hid (Ho.out.below hb4)
        go_wp2_with fail
        refine (Hsay.out _ ho4.out).mono ?_
        rintro e w5 ⟨rfl, hc5⟩
        have hb5 := hb4.trans (hc5.mono hb4.size)
        have ho5 := Lib.hid (Ho.out.below hb5)
        go_wp2_with fail
        refine (Hend.out _ ho5.out).mono ?_
        rintro e w6 ⟨rfl, hc6⟩
        have hb6 := hb5.trans (hc6.mono hb5.size)
        have ho6 := Lib.hid (Ho.out.below hb6)
        go_wp2_with fail
        refine (x9.out _ ho6.out).mono ?_
        rintro e w7 ⟨rfl, hc7⟩
        go_wp2
        go_ret
        exact ⟨rfl, hb6.trans (hc7.mono hb6.size)⟩
      · obtain rfl : j = 1 := by omega
        have hrest : bits BinOp.and IntKind.u64 (x : Int) 16777215 = ((x % 16777216 : Nat) : Int) := by simpa using mask_u64 x 24 (by decide) Hx.out
        have hcell : wr.cell? ⟨w.heap.size, 1, none⟩ = some (.int .u8 h1.toNat) := hhow.out.cell (by rw [Hhw.out]; rfl)
        have Hrest := Lib.hid hrest
        clear hrest
        obtain ⟨tw, htw⟩ : ∃ t, writ (x % 16777216) h1.toNat = t := ⟨_, rfl⟩
        have Hst : Hid (allW x hw 2 = partsW x hw 1 ++ [tw]) := by show _ = _; rw [← htw]; exact Ha2.out
        have HWr := Lib.hid (fun v hv W ho ht => written_val v (x % 16777216) hv (by omega) h1 tw htw W ho ht)
        have hone := strV_one [tw]
        have hmx : 1 + [Value.string ⟨tw.toArray⟩].length ≤ maxLen := by simp only [List.length_cons, List.length_nil]; unfold maxLen; omega
        have hmb : (1 + [Value.string ⟨tw.toArray⟩].length) * 16 ≤ 140737488355328 := by simp
        clear htw
        go_wp2_with fail
        refine (HWr.out _ (by exact Hrest.out) _ hok.out.1 hok.out.2).mono ?_
        rintro e w2 ⟨rfl, hc2⟩
        have hb2 := hbw.trans (hc2.mono hbw.size)
        have hl2 := (How.below hhow.out hc2).lt
        have hown2 := Lib.hid ((own_below hown.out hc2 (Nat.le_refl _)).alloc (.cells #[.string ⟨tw.toArray⟩] 9))
        have hbs2 : w.heap.size + 1 ≤ (w2.alloc (.cells #[.string ⟨tw.toArray⟩] 9)).heap.size := Nat.le_trans hl2 (by simp)
        clear hcell
        go_wp2_with (at_builtin; refine wpList_append_rd _ rfl _ _ 24 rfl (w.heap.size + 1) 9 i0 (.string ⟨#[]⟩) 16 Tryz.underlying24 hi hz0 hz1 hz2 rfl (.slice A' 1 c') 1 (strV (partsW x hw 1)) rfl hown2.out (w2.heap.size + 1) (some ⟨w2.heap.size, 0, none⟩) 1 [.string ⟨tw.toArray⟩] rfl (rd_new w2 [.string ⟨tw.toArray⟩] 9) hone hmx hmb hbs2 ?_)
        intro v' w3 hown3 hg3 hat3
        have hb3 := (hb2.alloc hb2.size (.cells #[.string ⟨tw.toArray⟩] 9)).grown hg3 (Nat.le_of_succ_le hbs2) (fun q e => Nat.le_of_succ_le (hown2.out.lt q e).1)
        rw [show strV (partsW x hw 1) ++ [Value.string ⟨tw.toArray⟩] = strV (allW x hw 2) from by rw [Hst.out, strV_append]; rfl] at hown3
        have HJ3 := Lib.hid (HJ.out v' w3 (w.heap.size + 1) hown3)
        clear hown3 hown2 hg3 hown
        go_wp2_with fail
        refine HJ3.out.mono ?_
        rintro e w4 ⟨rfl, hc4⟩
        have hb4 := hb3.trans (hc4.mono hb3.size)
        have ho4 := Lib.hid (Ho.out.below hb4)
        go_wp2_with fail
        refine (Hsay.out _ ho4.out).mono ?_
        rintro e w5 ⟨rfl, hc5⟩
        have hb5 := hb4.trans (hc5.mono hb4.size)
        have ho5 := Lib.hid (Ho.out.below hb5)
        go_wp2_with fail
        refine (Hend.out _ ho5.out).mono ?_
        rintro e w6 ⟨rfl, hc6⟩
        have hb6 := hb5.trans (hc6.mono hb5.size)
        have ho6 := Lib.hid (Ho.out.below hb6)
        go_wp2_with fail
        refine (x9.out _ ho6.out).mono ?_
        rintro e w7 ⟨rfl, hc7⟩
        go_wp2
        go_ret
        exact ⟨rfl, hb6.trans (hc7.mono hb6.size)⟩
      · obtain rfl : j = 2 := by omega
        have hrest : bits BinOp.and IntKind.u64 (x : Int) 65535 = ((x % 65536 : Nat) : Int) := by simpa using mask_u64 x 16 (by decide) Hx.out
        have hcell : wr.cell? ⟨w.heap.size, 2, none⟩ = some (.int .u8 h2.toNat) := hhow.out.cell (by rw [Hhw.out]; rfl)
        have Hrest := Lib.hid hrest
        clear hrest
        obtain ⟨tw, htw⟩ : ∃ t, writ (x % 65536) h2.toNat = t := ⟨_, rfl⟩
        have Hst : Hid (allW x hw 3 = partsW x hw 2 ++ [tw]) := by show _ = _; rw [← htw]; exact Ha3.out
        have HWr := Lib.hid (fun v hv W ho ht => written_val v (x % 65536) hv (by omega) h2 tw htw W ho ht)
        have hone := strV_one [tw]
        have hmx : 2 + [Value.string ⟨tw.toArray⟩].length ≤ maxLen := by simp only [List.length_cons, List.length_nil]; unfold maxLen; omega
        have hmb : (2 + [Value.string ⟨tw.toArray⟩].length) * 16 ≤ 140737488355328 := by simp
        clear htw
        go_wp2_with fail
        refine (HWr.out _ (by exact Hrest.out) _ hok.out.1 hok.out.2).mono ?_
        rintro e w2 ⟨rfl, hc2⟩
        have hb2 := hbw.trans (hc2.mono hbw.size)
        have hl2 := (How.below hhow.out hc2).lt
        have hown2 := Lib.hid ((own_below hown.out hc2 (Nat.le_refl _)).alloc (.cells #[.string ⟨tw.toArray⟩] 9))
        have hbs2 : w.heap.size + 1 ≤ (w2.alloc (.cells #[.string ⟨tw.toArray⟩] 9)).heap.size := Nat.le_trans hl2 (by simp)
        clear hcell
        go_wp2_with (at_builtin; refine wpList_append_rd _ rfl _ _ 24 rfl (w.heap.size + 1) 9 i0 (.string ⟨#[]⟩) 16 Tryz.underlying24 hi hz0 hz1 hz2 rfl (.slice A' 2 c') 2 (strV (partsW x hw 2)) rfl hown2.out (w2.heap.size + 1) (some ⟨w2.heap.size, 0, none⟩) 1 [.string ⟨tw.toArray⟩] rfl (rd_new w2 [.string ⟨tw.toArray⟩] 9) hone hmx hmb hbs2 ?_)
        intro v' w3 hown3 hg3 hat3
        have hb3 := (hb2.alloc hb2.size (.cells #[.string ⟨tw.toArray⟩] 9)).grown hg3 (Nat.le_of_succ_le hbs2) (fun q e => Nat.le_of_succ_le (hown2.out.lt q e).1)
        rw [show strV (partsW x hw 2) ++ [Value.string ⟨tw.toArray⟩] = strV (allW x hw 3) from by rw [Hst.out, strV_append]; rfl] at hown3
        have HJ3 := Lib.hid (HJ.out v' w3 (w.heap.size + 1) hown3)
        clear hown3 hown2 hg3 hown
        go_wp2_with fail
        refine HJ3.out.mono ?_
        rintro e w4 ⟨rfl, hc4⟩
        have hb4 := hb3.trans (hc4.mono hb3.size)
        have ho4 := Lib.hid (Ho.out.below hb4)
        go_wp2_with fail
        refine (Hsay.out _ ho4.out).mono ?_
        rintro e w5 ⟨rfl, hc5⟩
        have hb5 := hb4.trans (hc5.mono hb4.size)
        have ho5 := Lib.hid (Ho.out.below hb5)
        go_wp2_with fail
        refine (Hend.out _ ho5.out).mono ?_
        rintro e w6 ⟨rfl, hc6⟩
        have hb6 := hb5.trans (hc6.mono hb5.size)
        have ho6 := Lib.hid (Ho.out.below hb6)
        go_wp2_with fail
        refine (x9.out _ ho6.out).mono ?_
        rintro e w7 ⟨rfl, hc7⟩
        go_wp2
        go_ret
        exact ⟨rfl, hb6.trans (hc7.mono hb6.size)⟩
      · obtain rfl : j = 3 := by omega
        have hrest : bits BinOp.and IntKind.u64 (x : Int) 255 = ((x % 256 : Nat) : Int) := by simpa using mask_u64 x 8 (by decide) Hx.out
        have hcell : wr.cell? ⟨w.heap.size, 3, none⟩ = some (.int .u8 h3.toNat) := hhow.out.cell (by rw [Hhw.out]; rfl)
        have Hrest := Lib.hid hrest
        clear hrest
        obtain ⟨tw, htw⟩ : ∃ t, writ (x % 256) h3.toNat = t := ⟨_, rfl⟩
        have Hst : Hid (allW x hw 4 = partsW x hw 3 ++ [tw]) := by show _ = _; rw [← htw]; exact Ha4.out
        have HWr := Lib.hid (fun v hv W ho ht => written_val v (x % 256) hv (by omega) h3 tw htw W ho ht)
        have hone := strV_one [tw]
        have hmx : 3 + [Value.string ⟨tw.toArray⟩].length ≤ maxLen := by simp only [List.length_cons, List.length_nil]; unfold maxLen; omega
        have hmb : (3 + [Value.string ⟨tw.toArray⟩].length) * 16 ≤ 140737488355328 := by simp
        clear htw
        go_wp2_with fail
        refine (HWr.out _ (by exact Hrest.out) _ hok.out.1 hok.out.2).mono ?_
        rintro e w2 ⟨rfl, hc2⟩
        have hb2 := hbw.trans (hc2.mono hbw.size)
        have hl2 := (How.below hhow.out hc2).lt
        have hown2 := Lib.hid ((own_below hown.out hc2 (Nat.le_refl _)).alloc (.cells #[.string ⟨tw.toArray⟩] 9))
        have hbs2 : w.heap.size + 1 ≤ (w2.alloc (.cells #[.string ⟨tw.toArray⟩] 9)).heap.size := Nat.le_trans hl2 (by simp)
        clear hcell
        go_wp2_with (at_builtin; refine wpList_append_rd _ rfl _ _ 24 rfl (w.heap.size + 1) 9 i0 (.string ⟨#[]⟩) 16 Tryz.underlying24 hi hz0 hz1 hz2 rfl (.slice A' 3 c') 3 (strV (partsW x hw 3)) rfl hown2.out (w2.heap.size + 1) (some ⟨w2.heap.size, 0, none⟩) 1 [.string ⟨tw.toArray⟩] rfl (rd_new w2 [.string ⟨tw.toArray⟩] 9) hone hmx hmb hbs2 ?_)
        intro v' w3 hown3 hg3 hat3
        have hb3 := (hb2.alloc hb2.size (.cells #[.string ⟨tw.toArray⟩] 9)).grown hg3 (Nat.le_of_succ_le hbs2) (fun q e => Nat.le_of_succ_le (hown2.out.lt q e).1)
        rw [show strV (partsW x hw 3) ++ [Value.string ⟨tw.toArray⟩] = strV (allW x hw 4) from by rw [Hst.out, strV_append]; rfl] at hown3
        have HJ3 := Lib.hid (HJ.out v' w3 (w.heap.size + 1) hown3)
        clear hown3 hown2 hg3 hown
        go_wp2_with fail
        refine HJ3.out.mono ?_
        rintro e w4 ⟨rfl, hc4⟩
        have hb4 := hb3.trans (hc4.mono hb3.size)
        have ho4 := Lib.hid (Ho.out.below hb4)
        go_wp2_with fail
        refine (Hsay.out _ ho4.out).mono ?_
        rintro e w5 ⟨rfl, hc5⟩
        have hb5 := hb4.trans (hc5.mono hb4.size)
        have ho5 := Lib.hid (Ho.out.below hb5)
        go_wp2_with fail
        refine (Hend.out _ ho5.out).mono ?_
        rintro e w6 ⟨rfl, hc6⟩
        have hb6 := hb5.trans (hc6.mono hb5.size)
        have ho6 := Lib.hid (Ho.out.below hb6)
        go_wp2_with fail
        refine (x9.out _ ho6.out).mono ?_
        rintro e w7 ⟨rfl, hc7⟩
        go_wp2
        go_ret
        exact ⟨rfl, hb6.trans (hc7.mono hb6.size)⟩
#print axioms fourForms_main
end Go.Proofs.YtmobeppmdakjmaaGreatDoor
