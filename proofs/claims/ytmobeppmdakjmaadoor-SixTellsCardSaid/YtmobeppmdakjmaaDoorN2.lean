/- Walks: strconv.FormatUint at bases eight and sixteen (formatBits). (Printed by fb.py.) -/
import Derived.Test.YtmobeppmdakjmaaDoorN0
import Derived.Test.YtmobeppmdakjmaaDoorN1
import Derived.Lib.VarintBits
namespace Go.Proofs.YtmobeppmdakjmaaDoor
open Go.RowKit

/-- The library's table of bits, at the places that bases eight and sixteen look at. -/
structure Tz (w : World) : Prop where
  t8 : w.cell? ⟨8, 7, none⟩ = some (.int .u8 3)
  t16 : w.cell? ⟨8, 15, none⟩ = some (.int .u8 4)
theorem Tz.below {w w' : World} (h : Tz w) (hb : Below w.heap.size w w') : Tz w' :=
  ⟨(hb.cell (World.block_lt_of_cell? w _ h.t8)).trans h.t8, (hb.cell (World.block_lt_of_cell? w _ h.t16)).trans h.t16⟩
/-- A row of bytes in a block of its own, the written ones from place i on. -/
structure Arr (w : World) (N n i : Nat) (t : List UInt8) : Prop where
  any : ∀ j, j < n → ∃ v, w.cell? ⟨N, j, none⟩ = some (.int .u8 v)
  fz : ∀ j, w.frozen? ⟨N, j, none⟩ = false
  at_ : ∀ k b, t[k]? = some b → w.cell? ⟨N, i + k, none⟩ = some (.int .u8 b.toNat)
theorem Arr.put {w : World} {N n i : Nat} {t : List UInt8} (h : Arr w N n (i + 1) t) (hi : i < n) (b : UInt8) : Arr (w.setCell ⟨N, i, none⟩ (.int .u8 b.toNat)) N n i (b :: t) := by
  obtain ⟨v, hv⟩ := h.any i hi
  refine ⟨fun j hj => ?_, fun j => ?_, fun k c hk => ?_⟩
  · by_cases hji : j = i
    · subst hji; exact ⟨_, World.cell?_setCell_same _ _ _ hv⟩
    · obtain ⟨u, hu⟩ := h.any j hj
      exact ⟨u, (World.cell?_setCell_other _ _ _ _ (fun e => hji (by injection e with _ e2 _; exact e2.symm))).trans hu⟩
  · rw [World.frozen?_setCell]; exact h.fz j
  · cases k with
    | zero =>
      simp at hk
      subst hk
      exact World.cell?_setCell_same _ _ _ hv
    | succ k =>
      rw [World.cell?_setCell_other _ _ _ _ (by simp)]
      have := h.at_ k c (by simpa using hk)
      rw [show i + (k + 1) = i + 1 + k by omega]
      exact this
def zeros65 : Array Value := Array.replicate 65 (Value.int .u8 0)
theorem arr_new (w : World) (T : TypeId) : Arr (w.alloc (.cells zeros65 T)) w.heap.size 65 65 [] := by
  refine ⟨fun j hj => ⟨0, ?_⟩, fun j => World.frozen?_alloc_new _ _ _ _, fun k b h => by simp at h⟩
  rw [World.cell?_alloc_new, zeros65, Array.getElem?_replicate, if_pos hj]
theorem digS_at (m : Nat) (h : m < (⟨#[48, 49, 50, 51, 52, 53, 54, 55, 56, 57, 97, 98, 99, 100, 101, 102, 103, 104, 105, 106, 107, 108, 109, 110, 111, 112, 113, 114, 115, 116, 117, 118, 119, 120, 121, 122]⟩ : ByteArray).size) :
    (⟨#[48, 49, 50, 51, 52, 53, 54, 55, 56, 57, 97, 98, 99, 100, 101, 102, 103, 104, 105, 106, 107, 108, 109, 110, 111, 112, 113, 114, 115, 116, 117, 118, 119, 120, 121, 122]⟩ : ByteArray)[m] = dig m := by
  have e : ∀ m : Fin 36, (⟨#[48, 49, 50, 51, 52, 53, 54, 55, 56, 57, 97, 98, 99, 100, 101, 102, 103, 104, 105, 106, 107, 108, 109, 110, 111, 112, 113, 114, 115, 116, 117, 118, 119, 120, 121, 122]⟩ : ByteArray)[m.1]'(m.2) = dig m.1 := by decide +kernel
  exact e ⟨m, h⟩

set_option maxHeartbeats 1000000 in
theorem tz_8 (w : World) (h : Tz w) : Calls Tryd.prog 131 #[.int .u64 8] w fun e w' => e = .returned (.int .i64 3) ∧ w' = w := by
  have H : Calls Tryd.prog 145 #[.int .u64 8] w fun e w' => e = .returned (.int .i64 3) ∧ w' = w := by
    have hc := h.t8
    have key : IntKind.u64.wrap (bits BinOp.and IntKind.u64 8 (IntKind.u64.wrap (-8)) * 285870213051353865) / 288230376151711744 = 7 := by decide +kernel
    go_enter Tryd.func145, Tryd.ntmps145
    go_wp2
    go_ret
    exact ⟨rfl, rfl⟩
  have H' := Lib.hid H
  clear h H
  go_enter Tryd.func131, Tryd.ntmps131
  go_wp2_with (go_at_call 145; refine H'.out.mono ?_; rintro e w' ⟨rfl, rfl⟩)
  go_ret
  exact ⟨rfl, rfl⟩
theorem pow2_8 (w : World) : Calls Tryd.prog 130 #[.int .i64 8] w fun e w' => e = .returned (.bool true) ∧ w' = w := by
  have key : bits BinOp.and IntKind.i64 8 7 = 0 := by decide +kernel
  go_enter Tryd.func130, Tryd.ntmps130
  go_wp2
  go_ret
  exact ⟨by simp, rfl⟩
theorem mask_8 (u : Nat) (hu : u < 18446744073709551616) : bits BinOp.and IntKind.u64 (u : Int) 7 = ((u % 8 : Nat) : Int) :=
  bits_mask .u64 64 (by decide) wraps_u64 3 (by decide) (u : Int) (by omega) (by omega)
set_option maxHeartbeats 4000000 in
set_option maxRecDepth 100000 in
theorem fmtbits_8 (U : Nat) (hU : U < 18446744073709551616) (w : World) (h : Tz w) :
    Calls Tryd.prog 99 #[.slice none 0 0, .int .u64 (U : Int), .int .i64 8, .bool false, .bool false] w fun e w' => e = .returned (.tuple #[.slice none 0 0, .string ⟨(digs 6 U).toArray⟩]) ∧ Below w.heap.size w w' := by
  have hlen := digs_len 6 63 U hU
  have Hp := Lib.hid (fun W => pow2_8 W)
  have Ht := Lib.hid (tz_8 (w.alloc (.cells zeros65 144)) (h.below ((Below.refl _ _).alloc (Nat.le_refl _) _)))
  have hb0 : Below w.heap.size w (w.alloc (.cells zeros65 144)) := (Below.refl _ _).alloc (Nat.le_refl _) _
  clear h
  go_enter Tryd.func99, Tryd.ntmps99
  go_wp2_with (first | (go_at_call 130; refine (Hp.out _).mono ?_; rintro e w' ⟨rfl, rfl⟩) | (go_at_call 131; refine Ht.out.mono ?_; rintro e w' ⟨rfl, rfl⟩))
  go_loopw [1, 13] (fun uu i wr => ∃ (u q : Nat) (t : List UInt8), uu = .int .u64 (u : Int) ∧ i = .int .i64 (q : Int) ∧ q + t.length = 65 ∧ digs 6 U = digs 6 u ++ t ∧ Arr wr w.heap.size 65 q t ∧ Below w.heap.size w wr ∧ u < 18446744073709551616) (fun uu _ _ => (intOf uu).toNat)
  case atStart => exact ⟨U, 65, [], rfl, rfl, rfl, by simp, arr_new _ _, hb0, hU⟩
  case round =>
    obtain ⟨u, q, t, rfl, rfl, hq, hd, harr, hb, hu⟩ := hrel
    have hpos := List.length_pos_iff.2 (digs_ne 6 u)
    have hl2 := congrArg List.length hd
    rw [List.length_append] at hl2
    obtain ⟨p, rfl⟩ : ∃ p, q = p + 1 := ⟨q - 1, by omega⟩
    have hp : p < 65 := by omega
    obtain ⟨v, hcell⟩ := harr.any p hp
    have hfz := harr.fz p
    have HA := Lib.hid harr
    have HD := Lib.hid hd
    clear harr hd hl2 hpos
    have hdg := digS_at
    by_cases hs : u < 8
    · have i1 : ¬ (8 : Int) ≤ (u : Int) := by omega
      have h36 : (u : Int) < 36 := by omega
      have hsl : ∀ W, (Instr.sliceAt 144 (.pointer (some ⟨w.heap.size, 0, none⟩)) (some (.int .i64 (p : Int))) none none).run Tryd.prog W = .ok (.slice (some ⟨w.heap.size, p, none⟩) (65 - p) (65 - p)) W := fun W => by
        rw [run_sliceAt_array_l W 144 ⟨w.heap.size, 0, none⟩ (by simp [Program.arrayLen, Program.elem, Tryd.underlying144]) .i64 (p : Int) (by omega) (by simp [Program.arrayLen, Tryd.underlying144]; omega)]
        go_simp
        omega
      have hfin : digs 6 U = dig u :: t := by rw [HD.out, digs_small hs]; rfl
      have harr2 := HA.out.put hp (dig u)
      have hcv : (convert 41 9 (.slice (some ⟨w.heap.size, p, none⟩) (65 - p) (65 - p))).run Tryd.prog (wr.setCell ⟨w.heap.size, p, none⟩ (.int .u8 (dig u).toNat)) = .ok (.string ⟨(digs 6 U).toArray⟩) (wr.setCell ⟨w.heap.size, p, none⟩ (.int .u8 (dig u).toNat)) := by
        have h := run_convert_bytes_back (P := Tryd.prog) (wr.setCell ⟨w.heap.size, p, none⟩ (.int .u8 (dig u).toNat)) 41 9 5 ⟨w.heap.size, p, none⟩ (65 - p) (dig u :: t) Tryd.underlying41 Tryd.underlying5 Tryd.underlying9 (fun j hj => by
          rw [Lib.add_plain]
          exact harr2.at_ j _ (List.getElem?_eq_getElem hj))
        rw [List.length_cons, show t.length + 1 = 65 - p by omega] at h
        rw [hfin]
        exact h
      have hb2 : Below w.heap.size w (wr.setCell ⟨w.heap.size, p, none⟩ (.int .u8 (dig u).toNat)) := hb.setCell (Nat.le_refl _) _
      clear Hp Ht hb0 hs hfin harr2
      go_wp2
      go_ret2
      exact ⟨rfl, hb2⟩
    · have i1 : (8 : Int) ≤ (u : Int) := by omega
      obtain ⟨m, hm⟩ : ∃ m, u % 8 = m := ⟨_, rfl⟩
      have hmb : bits BinOp.and IntKind.u64 (u : Int) 7 = (m : Int) := by rw [← hm]; exact mask_8 u hu
      have h36 : (m : Int) < 36 := by omega
      have HM := Lib.hid hm
      clear Hp Ht hb0 hm
      go_wp2
      have hm2 : m = u % 8 := HM.out.symm
      refine ⟨⟨u / 8, p, dig m :: t, (by first | rfl | (congr 1; omega)), rfl, by simp only [List.length_cons]; omega, ?_, HA.out.put hp (dig m), hb.setCell (Nat.le_refl _) _, by omega⟩, by simp [intOf]; omega⟩
      rw [HD.out, digs_big hs, hm2]
      simp

set_option maxHeartbeats 1000000 in
theorem tz_16 (w : World) (h : Tz w) : Calls Tryd.prog 131 #[.int .u64 16] w fun e w' => e = .returned (.int .i64 4) ∧ w' = w := by
  have H : Calls Tryd.prog 145 #[.int .u64 16] w fun e w' => e = .returned (.int .i64 4) ∧ w' = w := by
    have hc := h.t16
    have key : IntKind.u64.wrap (bits BinOp.and IntKind.u64 16 (IntKind.u64.wrap (-16)) * 285870213051353865) / 288230376151711744 = 15 := by decide +kernel
    go_enter Tryd.func145, Tryd.ntmps145
    go_wp2
    go_ret
    exact ⟨rfl, rfl⟩
  have H' := Lib.hid H
  clear h H
  go_enter Tryd.func131, Tryd.ntmps131
  go_wp2_with (go_at_call 145; refine H'.out.mono ?_; rintro e w' ⟨rfl, rfl⟩)
  go_ret
  exact ⟨rfl, rfl⟩
theorem pow2_16 (w : World) : Calls Tryd.prog 130 #[.int .i64 16] w fun e w' => e = .returned (.bool true) ∧ w' = w := by
  have key : bits BinOp.and IntKind.i64 16 15 = 0 := by decide +kernel
  go_enter Tryd.func130, Tryd.ntmps130
  go_wp2
  go_ret
  exact ⟨by simp, rfl⟩
theorem mask_16 (u : Nat) (hu : u < 18446744073709551616) : bits BinOp.and IntKind.u64 (u : Int) 15 = ((u % 16 : Nat) : Int) :=
  bits_mask .u64 64 (by decide) wraps_u64 4 (by decide) (u : Int) (by omega) (by omega)
set_option maxHeartbeats 4000000 in
set_option maxRecDepth 100000 in
theorem fmtbits_16 (U : Nat) (hU : U < 18446744073709551616) (w : World) (h : Tz w) :
    Calls Tryd.prog 99 #[.slice none 0 0, .int .u64 (U : Int), .int .i64 16, .bool false, .bool false] w fun e w' => e = .returned (.tuple #[.slice none 0 0, .string ⟨(digs 14 U).toArray⟩]) ∧ Below w.heap.size w w' := by
  have hlen := digs_len 14 63 U hU
  have Hp := Lib.hid (fun W => pow2_16 W)
  have Ht := Lib.hid (tz_16 (w.alloc (.cells zeros65 144)) (h.below ((Below.refl _ _).alloc (Nat.le_refl _) _)))
  have hb0 : Below w.heap.size w (w.alloc (.cells zeros65 144)) := (Below.refl _ _).alloc (Nat.le_refl _) _
  clear h
  go_enter Tryd.func99, Tryd.ntmps99
  go_wp2_with (first | (go_at_call 130; refine (Hp.out _).mono ?_; rintro e w' ⟨rfl, rfl⟩) | (go_at_call 131; refine Ht.out.mono ?_; rintro e w' ⟨rfl, rfl⟩))
  go_loopw [1, 13] (fun uu i wr => ∃ (u q : Nat) (t : List UInt8), uu = .int .u64 (u : Int) ∧ i = .int .i64 (q : Int) ∧ q + t.length = 65 ∧ digs 14 U = digs 14 u ++ t ∧ Arr wr w.heap.size 65 q t ∧ Below w.heap.size w wr ∧ u < 18446744073709551616) (fun uu _ _ => (intOf uu).toNat)
  case atStart => exact ⟨U, 65, [], rfl, rfl, rfl, by simp, arr_new _ _, hb0, hU⟩
  case round =>
    obtain ⟨u, q, t, rfl, rfl, hq, hd, harr, hb, hu⟩ := hrel
    have hpos := List.length_pos_iff.2 (digs_ne 14 u)
    have hl2 := congrArg List.length hd
    rw [List.length_append] at hl2
    obtain ⟨p, rfl⟩ : ∃ p, q = p + 1 := ⟨q - 1, by omega⟩
    have hp : p < 65 := by omega
    obtain ⟨v, hcell⟩ := harr.any p hp
    have hfz := harr.fz p
    have HA := Lib.hid harr
    have HD := Lib.hid hd
    clear harr hd hl2 hpos
    have hdg := digS_at
    by_cases hs : u < 16
    · have i1 : ¬ (16 : Int) ≤ (u : Int) := by omega
      have h36 : (u : Int) < 36 := by omega
      have hsl : ∀ W, (Instr.sliceAt 144 (.pointer (some ⟨w.heap.size, 0, none⟩)) (some (.int .i64 (p : Int))) none none).run Tryd.prog W = .ok (.slice (some ⟨w.heap.size, p, none⟩) (65 - p) (65 - p)) W := fun W => by
        rw [run_sliceAt_array_l W 144 ⟨w.heap.size, 0, none⟩ (by simp [Program.arrayLen, Program.elem, Tryd.underlying144]) .i64 (p : Int) (by omega) (by simp [Program.arrayLen, Tryd.underlying144]; omega)]
        go_simp
        omega
      have hfin : digs 14 U = dig u :: t := by rw [HD.out, digs_small hs]; rfl
      have harr2 := HA.out.put hp (dig u)
      have hcv : (convert 41 9 (.slice (some ⟨w.heap.size, p, none⟩) (65 - p) (65 - p))).run Tryd.prog (wr.setCell ⟨w.heap.size, p, none⟩ (.int .u8 (dig u).toNat)) = .ok (.string ⟨(digs 14 U).toArray⟩) (wr.setCell ⟨w.heap.size, p, none⟩ (.int .u8 (dig u).toNat)) := by
        have h := run_convert_bytes_back (P := Tryd.prog) (wr.setCell ⟨w.heap.size, p, none⟩ (.int .u8 (dig u).toNat)) 41 9 5 ⟨w.heap.size, p, none⟩ (65 - p) (dig u :: t) Tryd.underlying41 Tryd.underlying5 Tryd.underlying9 (fun j hj => by
          rw [Lib.add_plain]
          exact harr2.at_ j _ (List.getElem?_eq_getElem hj))
        rw [List.length_cons, show t.length + 1 = 65 - p by omega] at h
        rw [hfin]
        exact h
      have hb2 : Below w.heap.size w (wr.setCell ⟨w.heap.size, p, none⟩ (.int .u8 (dig u).toNat)) := hb.setCell (Nat.le_refl _) _
      clear Hp Ht hb0 hs hfin harr2
      go_wp2
      go_ret2
      exact ⟨rfl, hb2⟩
    · have i1 : (16 : Int) ≤ (u : Int) := by omega
      obtain ⟨m, hm⟩ : ∃ m, u % 16 = m := ⟨_, rfl⟩
      have hmb : bits BinOp.and IntKind.u64 (u : Int) 15 = (m : Int) := by rw [← hm]; exact mask_16 u hu
      have h36 : (m : Int) < 36 := by omega
      have HM := Lib.hid hm
      clear Hp Ht hb0 hm
      go_wp2
      have hm2 : m = u % 16 := HM.out.symm
      refine ⟨⟨u / 16, p, dig m :: t, (by first | rfl | (congr 1; omega)), rfl, by simp only [List.length_cons]; omega, ?_, HA.out.put hp (dig m), hb.setCell (Nat.le_refl _) _, by omega⟩, by simp [intOf]; omega⟩
      rw [HD.out, digs_big hs, hm2]
      simp

set_option maxHeartbeats 1000000 in
set_option maxRecDepth 100000 in
/-- strconv.FormatUint at base 8. -/
theorem fmtuint_8 (u : Nat) (hu : u < 18446744073709551616) (w : World) (h : Tz w) :
    Calls Tryd.prog 27 #[.int .u64 (u : Int), .int .i64 8] w fun e w' => e = .returned (.string ⟨(digs 6 u).toArray⟩) ∧ Below w.heap.size w w' := by
  have Hi : Hid (Calls Tryd.prog 59 #[.int .u64 (u : Int), .int .i64 8] w fun e w' => e = .returned (.string ⟨(digs 6 u).toArray⟩) ∧ Below w.heap.size w w') := by
    have Hb := Lib.hid (fmtbits_8 u hu w h)
    clear h hu
    show Calls _ _ _ _ _
    go_enter Tryd.func59, Tryd.ntmps59
    go_wp2_with (go_at_call 99; refine Hb.out.mono ?_; rintro e w' ⟨rfl, hb⟩)
    go_ret
    exact ⟨rfl, hb⟩
  clear h hu
  go_enter Tryd.func27, Tryd.ntmps27
  go_wp2_with (go_at_call 59; refine Hi.out.mono ?_; rintro e w' ⟨rfl, hb⟩)
  go_ret
  exact ⟨rfl, hb⟩

set_option maxHeartbeats 1000000 in
set_option maxRecDepth 100000 in
/-- strconv.FormatUint at base 16. -/
theorem fmtuint_16 (u : Nat) (hu : u < 18446744073709551616) (w : World) (h : Tz w) :
    Calls Tryd.prog 27 #[.int .u64 (u : Int), .int .i64 16] w fun e w' => e = .returned (.string ⟨(digs 14 u).toArray⟩) ∧ Below w.heap.size w w' := by
  have Hi : Hid (Calls Tryd.prog 59 #[.int .u64 (u : Int), .int .i64 16] w fun e w' => e = .returned (.string ⟨(digs 14 u).toArray⟩) ∧ Below w.heap.size w w') := by
    have Hb := Lib.hid (fmtbits_16 u hu w h)
    clear h hu
    show Calls _ _ _ _ _
    go_enter Tryd.func59, Tryd.ntmps59
    go_wp2_with (go_at_call 99; refine Hb.out.mono ?_; rintro e w' ⟨rfl, hb⟩)
    go_ret
    exact ⟨rfl, hb⟩
  clear h hu
  go_enter Tryd.func27, Tryd.ntmps27
  go_wp2_with (go_at_call 59; refine Hi.out.mono ?_; rintro e w' ⟨rfl, hb⟩)
  go_ret
  exact ⟨rfl, hb⟩

#print axioms fmtuint_16
end Go.Proofs.YtmobeppmdakjmaaDoor
