/- Walks: utf's scalars and bytes. -/
import Derived.Test.YtpahiipfmccbiaaDoorM1
import Derived.Test.YtpahiipfmccbiaaDoorP0
import Derived.Deep.QuietTactic
import Derived.BigQuiet
import Derived.StillTailTactics
import Derived.Deep.RegionHeld3
import Derived.Deep.AppendLies
namespace Go.Proofs.YtpahiipfmccbiaaDoor
open Go.RowKit

/-- A scalar. -/
def scalarB (r : Int) : Bool := decide (0 ≤ r ∧ r ≤ 1114111 ∧ (r < 55296 ∨ 57343 < r))

set_option maxHeartbeats 400000 in
theorem scalar_any (r : Int) (w : World) : Calls Tryd.prog 54 #[.int .i32 r] w fun e w' => e = .returned (.bool (scalarB r)) ∧ w = w' := by
  go_enter Tryd.func54, Tryd.ntmps54
  go_wp2
  all_goals go_ret
  all_goals (refine ⟨ret_bool ?_, rfl⟩; rw [Bool.eq_iff_iff]; simp [scalarB]; try omega)

set_option maxHeartbeats 400000 in
theorem refScalar_any (r : Int) (w : World) : Calls Tryd.prog 78 #[.int .i32 r] w fun e w' => e = .returned (.bool (scalarB r)) ∧ w = w' := by
  go_enter Tryd.func78, Tryd.ntmps78
  go_wp2
  all_goals go_ret
  all_goals (refine ⟨ret_bool ?_, rfl⟩; rw [Bool.eq_iff_iff]; simp [scalarB]; try omega)

set_option maxHeartbeats 400000 in
theorem tail0_any (r : Int) (b : Nat) (w : World) (_h0 : 0 ≤ r) (_h1 : r ≤ 1114111) (hc : w.cell? ⟨b, 0, none⟩ = some (.int .i32 r)) :
    Calls Tryd.prog 73 #[.int .i64 0, .pointer (some ⟨b, 0, none⟩)] w fun e w' => e = .returned (.int .u8 (128 + r % 64)) ∧ w = w' := by
  go_enter Tryd.func73, Tryd.ntmps73
  go_wp2
  go_ret
  exact ⟨rfl, rfl⟩
set_option maxHeartbeats 400000 in
theorem tail6_any (r : Int) (b : Nat) (w : World) (_h0 : 0 ≤ r) (_h1 : r ≤ 1114111) (hc : w.cell? ⟨b, 0, none⟩ = some (.int .i32 r)) :
    Calls Tryd.prog 73 #[.int .i64 6, .pointer (some ⟨b, 0, none⟩)] w fun e w' => e = .returned (.int .u8 (128 + r / 64 % 64)) ∧ w = w' := by
  go_enter Tryd.func73, Tryd.ntmps73
  go_wp2
  go_ret
  exact ⟨rfl, rfl⟩
set_option maxHeartbeats 400000 in
theorem tail12_any (r : Int) (b : Nat) (w : World) (_h0 : 0 ≤ r) (_h1 : r ≤ 1114111) (hc : w.cell? ⟨b, 0, none⟩ = some (.int .i32 r)) :
    Calls Tryd.prog 73 #[.int .i64 12, .pointer (some ⟨b, 0, none⟩)] w fun e w' => e = .returned (.int .u8 (128 + r / 4096 % 64)) ∧ w = w' := by
  go_enter Tryd.func73, Tryd.ntmps73
  go_wp2
  go_ret
  exact ⟨rfl, rfl⟩

set_option maxHeartbeats 400000 in
theorem more_any (w : World) :
    Calls Tryd.prog 29 #[.int .u8 5] w fun e w' => e = .returned (.tuple #[.string ⟨#[63, 94, 123, 125, 96, 32, 34, 35, 60, 62]⟩, .bool true]) ∧ w = w' := by
  go_enter Tryd.func29, Tryd.ntmps29
  go_wp2
  go_ret2
  exact ⟨rfl, rfl⟩

theorem bits192 {r : Int} (h0 : 0 ≤ r) (h1 : r ≤ 2047) : bits .or .u8 192 (IntKind.u8.wrap (r / 64)) = 192 + r / 64 := by
  rw [IntKind.wrap_u8, show r / 64 % 256 = r / 64 by omega]
  exact u8_or192 _ (by omega) (by omega)
theorem bits224 {r : Int} (h0 : 0 ≤ r) (h1 : r ≤ 65535) : bits .or .u8 224 (IntKind.u8.wrap (r / 4096)) = 224 + r / 4096 := by
  rw [IntKind.wrap_u8, show r / 4096 % 256 = r / 4096 by omega]
  exact u8_or224 _ (by omega) (by omega)
theorem bits240 {r : Int} (h0 : 0 ≤ r) (h1 : r ≤ 1114111) : bits .or .u8 240 (IntKind.u8.wrap (r / 262144)) = 240 + r / 262144 := by
  rw [IntKind.wrap_u8, show r / 262144 % 256 = r / 262144 by omega]
  exact u8_or240 _ (by omega) (by omega)

set_option maxHeartbeats 4000000 in
set_option maxRecDepth 100000 in
theorem put_two (base : Nat) (v : Value) (xs : List Value) (r : Int) (w : World) (hown : w.ownsRow base 5 1 v xs.length xs) (hl : xs.length ≤ 4294967296) (h0 : 128 ≤ r) (h1 : r ≤ 2047) (hb : base ≤ w.heap.size) :
    Calls Tryd.prog 55 #[v, .int .i32 r] w (Grew base 5 v (xs ++ Lib.runeCells r) w) := by
  obtain ⟨i0, hi, hz0, hz1, hz2⟩ := info_parts Tryd.info5
  have hmf : ∀ (fn : Fn) (first cap : Array Value) (w : World), (Instr.makeFunc fn first cap).run Tryd.prog w = .ok (.func fn first cap) w := fun _ _ _ _ => rfl
  have hd : decide (r ≤ 127) = false := by simp; omega
  have hc0 : (w.alloc (.cells #[.int .i32 r] 21)).cell? ⟨w.heap.size, 0, none⟩ = some (.int .i32 r) := by rw [World.cell?_alloc_at _ _ _ _ rfl]; rfl
  have hvn : some w.heap.size ≠ v.ownBlock := fun e => by have := (hown.lt _ e.symm).2; omega
  have hfin : Hid (xs ++ Lib.runeCells r = xs ++ [.int .u8 (bits .or .u8 192 (IntKind.u8.wrap (r / 64))), .int .u8 (128 + r % 64)]) := by show _ = _; rw [bits192 (by omega) h1]; simp [Lib.runeCells, Lib.encodeRuneZ_two h0 h1]
  go_enter Tryd.func55, Tryd.ntmps55
  go_wp2
  go_region_held3 (fun w' => w'.cell? ⟨w.heap.size, 0, none⟩ = some (.int .i32 r)) (first | assumption | (simp [World.cell?_alloc_past]; done))
    (first | (go_at_call 73; refine (tail0_any r w.heap.size _ (by omega) (by omega) (by assumption)).mono ?_; rintro e w' ⟨rfl, rfl⟩) | (refine step_append_rd _ rfl (.tmp 18) (.tmp 25) 40 rfl base 5 i0 (.int .u8 0) 1 Tryd.underlying40 hi hz0 hz1 hz2 rfl v xs.length xs rfl (by exact (hown.alloc _).alloc _) (w.heap.size + 2) (some ⟨w.heap.size + 1, 0, none⟩) 2 [.int .u8 (bits .or .u8 192 (IntKind.u8.wrap (r / 64))), .int .u8 (128 + r % 64)] rfl (by exact rd_new2 _ _ [.int .u8 _, .int .u8 _] 5) (by simp [Value.oneCell']) (by unfold maxLen; simp; omega) (by simp; omega) (by simp; omega) ?_; intro v' w' hown' hg' hat'; have hcell' := World.grownBy.cell hg' (a := ⟨w.heap.size, 0, none⟩) (v := .int .i32 r) (by first | assumption | (simp [World.cell?_alloc_past]; done)) hvn))
  go_wp2
  go_ret
  exact Grew.of (((Kp.refl _ w).alloc _).alloc _).drew hown' hg' hat' hfin.out

set_option maxHeartbeats 4000000 in
set_option maxRecDepth 100000 in
theorem put_three (base : Nat) (v : Value) (xs : List Value) (r : Int) (w : World) (hown : w.ownsRow base 5 1 v xs.length xs) (hl : xs.length ≤ 4294967296) (h0 : 2048 ≤ r) (h1 : r ≤ 65535) (hs : r < 55296 ∨ 57343 < r) (hb : base ≤ w.heap.size) :
    Calls Tryd.prog 55 #[v, .int .i32 r] w (Grew base 5 v (xs ++ Lib.runeCells r) w) := by
  obtain ⟨i0, hi, hz0, hz1, hz2⟩ := info_parts Tryd.info5
  have hmf : ∀ (fn : Fn) (first cap : Array Value) (w : World), (Instr.makeFunc fn first cap).run Tryd.prog w = .ok (.func fn first cap) w := fun _ _ _ _ => rfl
  have hd : decide (r ≤ 127) = false := by simp; omega
  have hd2 : decide (r ≤ 2047) = false := by simp; omega
  have hc0 : (w.alloc (.cells #[.int .i32 r] 21)).cell? ⟨w.heap.size, 0, none⟩ = some (.int .i32 r) := by rw [World.cell?_alloc_at _ _ _ _ rfl]; rfl
  have hvn : some w.heap.size ≠ v.ownBlock := fun e => by have := (hown.lt _ e.symm).2; omega
  have hfin : Hid (xs ++ Lib.runeCells r = xs ++ [.int .u8 (bits .or .u8 224 (IntKind.u8.wrap (r / 4096))), .int .u8 (128 + r / 64 % 64), .int .u8 (128 + r % 64)]) := by show _ = _; rw [bits224 (by omega) h1]; simp [Lib.runeCells, Lib.encodeRuneZ_three (r := r) (by omega)]
  go_enter Tryd.func55, Tryd.ntmps55
  go_wp2
  go_region_held3 (fun w' => w'.cell? ⟨w.heap.size, 0, none⟩ = some (.int .i32 r)) (first | assumption | (simp [World.cell?_alloc_past]; done))
    (first | (go_at_call 73; refine (tail6_any r w.heap.size _ (by omega) (by omega) (by assumption)).mono ?_; rintro e w' ⟨rfl, rfl⟩) | (go_at_call 73; refine (tail0_any r w.heap.size _ (by omega) (by omega) (by assumption)).mono ?_; rintro e w' ⟨rfl, rfl⟩) | (refine step_append_rd _ rfl (.tmp 30) (.tmp 39) 40 rfl base 5 i0 (.int .u8 0) 1 Tryd.underlying40 hi hz0 hz1 hz2 rfl v xs.length xs rfl (by exact (hown.alloc _).alloc _) (w.heap.size + 2) (some ⟨w.heap.size + 1, 0, none⟩) 3 [.int .u8 (bits .or .u8 224 (IntKind.u8.wrap (r / 4096))), .int .u8 (128 + r / 64 % 64), .int .u8 (128 + r % 64)] rfl (by exact rd_new2 _ _ [.int .u8 _, .int .u8 _, .int .u8 _] 5) (by simp [Value.oneCell']) (by unfold maxLen; simp; omega) (by simp; omega) (by simp; omega) ?_; intro v' w' hown' hg' hat'; have hcell' := World.grownBy.cell hg' (a := ⟨w.heap.size, 0, none⟩) (v := .int .i32 r) (by first | assumption | (simp [World.cell?_alloc_past]; done)) hvn))
  go_wp2
  go_ret
  exact Grew.of (((Kp.refl _ w).alloc _).alloc _).drew hown' hg' hat' hfin.out

set_option maxHeartbeats 4000000 in
set_option maxRecDepth 100000 in
theorem put_four (base : Nat) (v : Value) (xs : List Value) (r : Int) (w : World) (hown : w.ownsRow base 5 1 v xs.length xs) (hl : xs.length ≤ 4294967296) (h0 : 65536 ≤ r) (h1 : r ≤ 1114111) (hb : base ≤ w.heap.size) :
    Calls Tryd.prog 55 #[v, .int .i32 r] w (Grew base 5 v (xs ++ Lib.runeCells r) w) := by
  obtain ⟨i0, hi, hz0, hz1, hz2⟩ := info_parts Tryd.info5
  have hmf : ∀ (fn : Fn) (first cap : Array Value) (w : World), (Instr.makeFunc fn first cap).run Tryd.prog w = .ok (.func fn first cap) w := fun _ _ _ _ => rfl
  have hd : decide (r ≤ 127) = false := by simp; omega
  have hd2 : decide (r ≤ 2047) = false := by simp; omega
  have hd3 : decide (r ≤ 65535) = false := by simp; omega
  have hc0 : (w.alloc (.cells #[.int .i32 r] 21)).cell? ⟨w.heap.size, 0, none⟩ = some (.int .i32 r) := by rw [World.cell?_alloc_at _ _ _ _ rfl]; rfl
  have hvn : some w.heap.size ≠ v.ownBlock := fun e => by have := (hown.lt _ e.symm).2; omega
  have hfin : Hid (xs ++ Lib.runeCells r = xs ++ [.int .u8 (bits .or .u8 240 (IntKind.u8.wrap (r / 262144))), .int .u8 (128 + r / 4096 % 64), .int .u8 (128 + r / 64 % 64), .int .u8 (128 + r % 64)]) := by show _ = _; rw [bits240 (by omega) h1]; simp [Lib.runeCells, Lib.encodeRuneZ_four h0 h1]
  go_enter Tryd.func55, Tryd.ntmps55
  go_wp2
  go_region_held3 (fun w' => w'.cell? ⟨w.heap.size, 0, none⟩ = some (.int .i32 r)) (first | assumption | (simp [World.cell?_alloc_past]; done))
    (first | (go_at_call 73; refine (tail12_any r w.heap.size _ (by omega) (by omega) (by assumption)).mono ?_; rintro e w' ⟨rfl, rfl⟩) | (go_at_call 73; refine (tail6_any r w.heap.size _ (by omega) (by omega) (by assumption)).mono ?_; rintro e w' ⟨rfl, rfl⟩) | (go_at_call 73; refine (tail0_any r w.heap.size _ (by omega) (by omega) (by assumption)).mono ?_; rintro e w' ⟨rfl, rfl⟩) | (refine step_append_rd _ rfl (.tmp 41) (.tmp 52) 40 rfl base 5 i0 (.int .u8 0) 1 Tryd.underlying40 hi hz0 hz1 hz2 rfl v xs.length xs rfl (by exact (hown.alloc _).alloc _) (w.heap.size + 2) (some ⟨w.heap.size + 1, 0, none⟩) 4 [.int .u8 (bits .or .u8 240 (IntKind.u8.wrap (r / 262144))), .int .u8 (128 + r / 4096 % 64), .int .u8 (128 + r / 64 % 64), .int .u8 (128 + r % 64)] rfl (by exact rd_new2 _ _ [.int .u8 _, .int .u8 _, .int .u8 _, .int .u8 _] 5) (by simp [Value.oneCell']) (by unfold maxLen; simp; omega) (by simp; omega) (by simp; omega) ?_; intro v' w' hown' hg' hat'; have hcell' := World.grownBy.cell hg' (a := ⟨w.heap.size, 0, none⟩) (v := .int .i32 r) (by first | assumption | (simp [World.cell?_alloc_past]; done)) hvn))
  go_wp2
  go_ret
  exact Grew.of (((Kp.refl _ w).alloc _).alloc _).drew hown' hg' hat' hfin.out
end Go.Proofs.YtpahiipfmccbiaaDoor
