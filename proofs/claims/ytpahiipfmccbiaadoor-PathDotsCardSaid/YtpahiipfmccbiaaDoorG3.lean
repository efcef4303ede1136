/- Walks: the reference's set of a path, a digit, a scalar's bytes, code points as bytes. -/
import Derived.Test.YtpahiipfmccbiaaDoorA8
namespace Go.Proofs.YtpahiipfmccbiaaDoor
open Go.RowKit

set_option maxHeartbeats 2000000 in
theorem refIn_any (r : Int) (w : World) : Calls Tryd.prog 61 #[.int .u8 5, .int .i32 r] w fun e w' => e = .returned (.bool (inP r)) ∧ w = w' := by
  by_cases h0 : r < 32
  · have hin : Hid (inP r = true) := by show _ = _; simp [inP, h0]
    go_enter Tryd.func61, Tryd.ntmps61
    go_wp2
    go_ret
    exact ⟨ret_bool hin.out.symm, rfl⟩
  by_cases h1 : 126 < r
  · have hin : Hid (inP r = true) := by show _ = _; simp [inP, h1]
    go_enter Tryd.func61, Tryd.ntmps61
    go_wp2
    go_ret
    exact ⟨ret_bool hin.out.symm, rfl⟩
  · have hin : Hid (inP r = [63, 94, 123, 125, 96, 32, 34, 35, 60, 62].contains r) := by
      show _ = _
      simp [inP, h0, h1]
    go_enter Tryd.func61, Tryd.ntmps61
    go_wp2
    all_goals go_ret
    all_goals (refine ⟨ret_bool ?_, rfl⟩; rw [hin.out]; simp at *; try omega)

theorem hexB_nat : ∀ n : Fin 16, ((hexB n.val).toNat : Int) = if n.val < 10 then 48 + (n.val : Int) else 55 + n.val := by decide
set_option maxHeartbeats 400000 in
theorem hex_any (n : Int) (w : World) (h0 : 0 ≤ n) (h1 : n < 16) : Calls Tryd.prog 63 #[.int .i64 n] w fun e w' => e = .returned (.int .u8 (hexB n.toNat).toNat) ∧ w = w' := by
  have h := hexB_nat ⟨n.toNat, by omega⟩
  have e : ((n.toNat : Nat) : Int) = n := by omega
  simp only [e] at h
  have H := Lib.hid h
  clear h
  go_enter Tryd.func63, Tryd.ntmps63
  go_wp2
  all_goals go_ret
  all_goals (refine ⟨ret_int ?_, rfl⟩; rw [H.out]; split <;> omega)

/-- What a call leaves that makes a row of bytes' cells. -/
def MadeB (xs : List Value) (w : World) (en : Ending) (w' : World) : Prop :=
  ∃ v', en = .returned v' ∧ w'.ownsRow w.heap.size 5 1 v' xs.length xs ∧ Below w.heap.size w w'
theorem madeB_lit (w : World) (xs : List Value) (n : Nat) (hn : xs.length = n) (h : n ≤ 4) : MadeB xs w (.returned (.slice (some ⟨w.heap.size, 0, none⟩) n n)) (w.alloc (.cells xs.toArray 5)) := by
  subst hn
  refine ⟨_, rfl, ?_, (Below.refl _ w).alloc (Nat.le_refl _) _⟩
  have := World.ownsRow_lit (base := w.heap.size) (e := 5) (size := 1) w xs.toArray xs.length (Nat.le_refl _) (by unfold maxLen; omega) (by simp)
  simpa using this

set_option maxHeartbeats 1000000 in
theorem bytes_any (r : Int) (w : World) (hs : scalarB r = true) : Calls Tryd.prog 79 #[.int .i32 r] w (MadeB (Lib.runeCells r) w) := by
  have h : 0 ≤ r ∧ r ≤ 1114111 ∧ (r < 55296 ∨ 57343 < r) := by simpa [scalarB] using hs
  obtain ⟨h0, h1, h2⟩ := h
  clear hs
  by_cases c1 : r ≤ 127
  · have hfin : Hid (Lib.runeCells r = [.int .u8 r]) := by show _ = _; simp [Lib.runeCells, Lib.encodeRuneZ_one h0 c1]
    clear h2
    go_enter Tryd.func79, Tryd.ntmps79
    go_wp2
    go_ret
    rw [hfin.out]; exact madeB_lit w _ 1 rfl (by decide)
  by_cases c2 : r ≤ 2047
  · have hfin : Hid (Lib.runeCells r = [.int .u8 (192 + r / 64), .int .u8 (128 + r % 64)]) := by show _ = _; simp [Lib.runeCells, Lib.encodeRuneZ_two (r := r) (by omega) c2]
    clear h2
    go_enter Tryd.func79, Tryd.ntmps79
    go_wp2
    go_ret
    rw [hfin.out]; exact madeB_lit w _ 2 rfl (by decide)
  by_cases c3 : r ≤ 65535
  · have hfin : Hid (Lib.runeCells r = [.int .u8 (224 + r / 4096), .int .u8 (128 + r / 64 % 64), .int .u8 (128 + r % 64)]) := by show _ = _; simp [Lib.runeCells, Lib.encodeRuneZ_three (r := r) (by omega)]
    clear h2
    go_enter Tryd.func79, Tryd.ntmps79
    go_wp2
    go_ret
    rw [hfin.out]; exact madeB_lit w _ 3 rfl (by decide)
  · have hfin : Hid (Lib.runeCells r = [.int .u8 (240 + r / 262144), .int .u8 (128 + r / 4096 % 64), .int .u8 (128 + r / 64 % 64), .int .u8 (128 + r % 64)]) := by show _ = _; simp [Lib.runeCells, Lib.encodeRuneZ_four (r := r) (by omega) h1]
    clear h2
    go_enter Tryd.func79, Tryd.ntmps79
    go_wp2
    go_ret
    rw [hfin.out]; exact madeB_lit w _ 4 rfl (by decide)

theorem runeCells_one (r : Int) : ∀ u ∈ Lib.runeCells r, u.oneCell' = true := by
  intro u hu; simp only [Lib.runeCells, List.mem_map] at hu; obtain ⟨x, _, rfl⟩ := hu; rfl

theorem bytes_key {v : Value} {n : Nat} {xs : List Value} {r : Int} {w0 wr : World} (hown : wr.ownsRow w0.heap.size 5 1 v n xs) (hbw : Below w0.heap.size w0 wr) (x : Int) (hx : scalarB x = true) (hxe : Lib.runeCells x = Lib.runeCells r) :
    Calls Tryd.prog 79 #[.int .i32 x] wr fun e w' => ∃ A' c', e = .returned (.slice A' (Lib.runeCells r).length c') ∧ Rd w' w'.heap.size A' (Lib.runeCells r) ∧ w'.ownsRow w0.heap.size 5 1 v n xs ∧ Below w0.heap.size w0 w' := by
  refine (bytes_any x wr hx).mono ?_
  rintro e w' ⟨v', rfl, ho, hb'⟩
  rw [hxe] at ho
  obtain ⟨A', c', rfl⟩ := own_slice ho
  exact ⟨A', c', rfl, Rd.of_own ho, own_below hown hb' (Nat.le_refl _), hbw.trans (hb'.mono hbw.size)⟩

set_option maxHeartbeats 2000000 in
set_option maxRecDepth 100000 in
/-- The reference's code points as bytes. -/
theorem refUtf_any (A : Option Addr) (c : Nat) (rs : List Int) (w : World) (B : Nat) (hr : Rd w B A (runV rs)) (hB : B ≤ w.heap.size) (hl : rs.length ≤ 1048576) :
    Calls Tryd.prog 62 #[.slice A rs.length c] w (MadeB (encCells rs) w) := by
  obtain ⟨i0, hi, hz0, hz1, hz2⟩ := info_parts Tryd.info5
  go_enter Tryd.func62, Tryd.ntmps62
  go_wp2
  go_loopw [3, 4] (fun v i wr => ∃ k : Nat, k ≤ rs.length ∧ i = .int .i64 k ∧ wr.ownsRow w.heap.size 5 1 v (encCells (rs.take k)).length (encCells (rs.take k)) ∧ Below w.heap.size w wr) (fun _ i _ => rs.length - (intOf i).toNat)
  case atStart => exact ⟨0, Nat.zero_le _, rfl, World.ownsRow_nil _ _ _ _, Below.refl _ _⟩
  case round =>
    obtain ⟨k, hk, rfl, hown, hbw⟩ := hrel
    by_cases hlt : k < rs.length
    · have hr2 := hr.below (hbw.mono hB)
      obtain ⟨b, off, rfl, _, hc⟩ := hr2 k _ (runV_get (List.getElem?_eq_getElem hlt))
      have Hr := Lib.hid hr
      have hlen := encCells_le (rs.take k)
      have hlen2 : (rs.take k).length ≤ k := List.length_take_le _ _
      have hrl := (Lib.runeCells_le rs[k]).2
      have hsn : Hid (encCells (rs.take (k + 1)) = encCells (rs.take k) ++ Lib.runeCells rs[k]) := by show _ = _; rw [runV_take_succ hlt, encCells_snoc]
      have Key := Lib.hid (bytes_key (r := rs[k]) hown hbw)
      clear hr hr2
      by_cases hs : scalarB rs[k] = true
      · clear hown
        go_wp2_with (first | (go_at_call 78; refine (refScalar_any _ _).mono ?_; rintro e w' ⟨rfl, rfl⟩) | (go_at_call 79; refine (Key.out _ hs rfl).mono ?_))
        rintro e w' ⟨A', c', rfl, hrd, hown', hbw'⟩
        go_wp2_with (at_builtin; refine wpList_append_rd _ rfl _ _ 40 rfl w.heap.size 5 i0 (.int .u8 0) 1 Tryd.underlying40 hi hz0 hz1 hz2 rfl _ _ _ rfl hown' w'.heap.size A' c' (Lib.runeCells rs[k]) rfl hrd (runeCells_one _) (by unfold maxLen; omega) (by omega) hbw'.size ?_; intro v2 w2 hown2 hg2 hat2)
        refine ⟨⟨k + 1, by omega, by go_num, by rw [hsn.out, List.length_append]; exact hown2, ?_⟩, by simp [intOf]; omega⟩
        exact hbw'.grown hg2 hbw'.size (fun j hj => (hown'.lt j hj).1)
      · have hs2 : scalarB rs[k] = false := by simpa using hs
        have hbad := Lib.hid (runeCells_bad hs2)
        clear hs hown
        go_wp2_with (first | (go_at_call 78; refine (refScalar_any _ _).mono ?_; rintro e w' ⟨rfl, rfl⟩) | (go_at_call 79; refine (Key.out _ (by decide) hbad.out).mono ?_))
        rintro e w' ⟨A', c', rfl, hrd, hown', hbw'⟩
        go_wp2_with (at_builtin; refine wpList_append_rd _ rfl _ _ 40 rfl w.heap.size 5 i0 (.int .u8 0) 1 Tryd.underlying40 hi hz0 hz1 hz2 rfl _ _ _ rfl hown' w'.heap.size A' c' (Lib.runeCells rs[k]) rfl hrd (runeCells_one _) (by unfold maxLen; omega) (by omega) hbw'.size ?_; intro v2 w2 hown2 hg2 hat2)
        refine ⟨⟨k + 1, by omega, by go_num, by rw [hsn.out, List.length_append]; exact hown2, ?_⟩, by simp [intOf]; omega⟩
        exact hbw'.grown hg2 hbw'.size (fun j hj => (hown'.lt j hj).1)
    · go_wp2
      go_ret
      rw [List.take_of_length_le (by omega)] at hown
      exact ⟨_, rfl, hown, hbw⟩
#print axioms refUtf_any
end Go.Proofs.YtpahiipfmccbiaaDoor
