/- Walks: a scalar's bytes behind others (put), code points as bytes (utf.Encode), what is in the set of a path (In). -/
import Derived.Test.YtpahiipfmccbiaaDoorA3
namespace Go.Proofs.YtpahiipfmccbiaaDoor
open Go.RowKit

set_option maxHeartbeats 1000000 in
set_option maxRecDepth 100000 in
theorem put_one (base : Nat) (v : Value) (xs : List Value) (r : Int) (w : World) (hown : w.ownsRow base 5 1 v xs.length xs) (hl : xs.length ≤ 4294967296) (h0 : 0 ≤ r) (h1 : r ≤ 127) (hb : base ≤ w.heap.size) :
    Calls Tryd.prog 55 #[v, .int .i32 r] w (Grew base 5 v (xs ++ Lib.runeCells r) w) := by
  obtain ⟨i0, hi, hz0, hz1, hz2⟩ := info_parts Tryd.info5
  have hmf : ∀ (fn : Fn) (first cap : Array Value) (w : World), (Instr.makeFunc fn first cap).run Tryd.prog w = .ok (.func fn first cap) w := fun _ _ _ _ => rfl
  have hc0 : (w.alloc (.cells #[.int .i32 r] 21)).cell? ⟨w.heap.size, 0, none⟩ = some (.int .i32 r) := by rw [World.cell?_alloc_at _ _ _ _ rfl]; rfl
  have hfin : Hid (xs ++ Lib.runeCells r = xs ++ [.int .u8 r]) := by show _ = _; simp [Lib.runeCells, Lib.encodeRuneZ_one h0 h1]
  go_enter Tryd.func55, Tryd.ntmps55
  go_wp2_with (at_builtin; refine wpList_append_rd _ rfl _ _ 40 rfl base 5 i0 (.int .u8 0) 1 Tryd.underlying40 hi hz0 hz1 hz2 rfl v xs.length xs rfl ((hown.alloc _).alloc _) (w.heap.size + 2) (some ⟨w.heap.size + 1, 0, none⟩) 1 [.int .u8 r] rfl (rd_new2 _ _ [.int .u8 r] 5) (by simp [Value.oneCell']) (by unfold maxLen; simp; omega) (by simp; omega) (by simp; omega) ?_; intro v' w' hown' hg' hat')
  go_ret
  exact Grew.of (((Kp.refl _ w).alloc _).alloc _) hown' hg' hat' hfin.out

theorem put_any (base : Nat) (v : Value) (xs : List Value) (r : Int) (w : World) (hown : w.ownsRow base 5 1 v xs.length xs) (hl : xs.length ≤ 4294967296) (hs : scalarB r = true) (hb : base ≤ w.heap.size) :
    Calls Tryd.prog 55 #[v, .int .i32 r] w (Grew base 5 v (xs ++ Lib.runeCells r) w) := by
  have h : 0 ≤ r ∧ r ≤ 1114111 ∧ (r < 55296 ∨ 57343 < r) := by simpa [scalarB] using hs
  by_cases h1 : r ≤ 127
  · exact put_one base v xs r w hown hl h.1 h1 hb
  by_cases h2 : r ≤ 2047
  · exact put_two base v xs r w hown hl (by omega) h2 hb
  by_cases h3 : r ≤ 65535
  · exact put_three base v xs r w hown hl (by omega) h3 h.2.2 hb
  · exact put_four base v xs r w hown hl (by omega) h.2.1 hb

/-- Code points as bytes' cells. -/
def encCells (rs : List Int) : List Value := rs.flatMap Lib.runeCells
theorem encCells_snoc (rs : List Int) (r : Int) : encCells (rs ++ [r]) = encCells rs ++ Lib.runeCells r := by simp [encCells]
theorem encCells_le (rs : List Int) : (encCells rs).length ≤ 4 * rs.length := by
  induction rs with
  | nil => simp [encCells]
  | cons r t ih =>
    have := Lib.runeCells_le r
    simp only [encCells, List.flatMap_cons, List.length_append, List.length_cons] at ih ⊢
    omega
theorem runeCells_bad {r : Int} (h : scalarB r = false) : Lib.runeCells 65533 = Lib.runeCells r := by
  have h' : ¬ (0 ≤ r ∧ r ≤ 1114111 ∧ (r < 55296 ∨ 57343 < r)) := by simpa [scalarB] using h
  rw [Lib.runeCells, Lib.runeCells, Lib.encodeRuneZ_bad (r := r) (by omega), Lib.encodeRuneZ_three (r := 65533) (by omega)]
  rfl

theorem runV_take_succ {rs : List Int} {k : Nat} (h : k < rs.length) : rs.take (k + 1) = rs.take k ++ [rs[k]] := List.take_succ_eq_append_getElem h

set_option maxHeartbeats 1000000 in
theorem utfEncode_any (A : Option Addr) (c : Nat) (rs : List Int) (w : World) (B : Nat) (hr : Rd w B A (runV rs)) (hB : B ≤ w.heap.size) (hl : rs.length ≤ 1048576) :
    Calls Tryd.prog 32 #[.slice A rs.length c] w fun e w' => ∃ v, e = .returned v ∧ w'.ownsRow w.heap.size 5 1 v (encCells rs).length (encCells rs) ∧ Below w.heap.size w w' := by
  go_enter Tryd.func32, Tryd.ntmps32
  go_wp2
  go_loopw [3, 8] (fun v i wr => ∃ k : Nat, k ≤ rs.length ∧ i = .int .i64 k ∧ wr.ownsRow w.heap.size 5 1 v (encCells (rs.take k)).length (encCells (rs.take k)) ∧ Below w.heap.size w wr) (fun _ i _ => rs.length - (intOf i).toNat)
  case atStart => exact ⟨0, Nat.zero_le _, rfl, World.ownsRow_nil _ _ _ _, Below.refl _ _⟩
  case round =>
    obtain ⟨k, hk, rfl, hown, hbw⟩ := hrel
    by_cases hlt : k < rs.length
    · have hr2 := hr.below (hbw.mono hB)
      obtain ⟨b, off, rfl, _, hc⟩ := hr2 k _ (runV_get (List.getElem?_eq_getElem hlt))
      have Hr := Lib.hid hr
      have hsz := hbw.size
      have hlen := encCells_le (rs.take k)
      have hlen2 : (rs.take k).length ≤ k := List.length_take_le _ _
      have hsn : Hid (encCells (rs.take (k + 1)) = encCells (rs.take k) ++ Lib.runeCells rs[k]) := by show _ = _; rw [runV_take_succ hlt, encCells_snoc]
      clear hr hr2
      by_cases hs : scalarB rs[k] = true
      · go_wp2_with (first | (go_at_call 54; refine (scalar_any _ _).mono ?_; rintro e w' ⟨rfl, rfl⟩) | (go_at_call 55; refine (put_any w.heap.size _ _ _ _ hown (by omega) hs hsz).mono ?_))
        rintro e w' ⟨v', rfl, hown', hk', -⟩
        go_wp2
        refine ⟨⟨k + 1, by omega, by go_num, by rw [hsn.out]; exact hown', ?_⟩, by simp [intOf]; omega⟩
        exact hbw.trans (hk'.below hsz (fun j hj e => by have := (hown.lt j e).1; omega))
      · have hs2 : scalarB rs[k] = false := by simpa using hs
        have hbad := Lib.hid (runeCells_bad hs2)
        clear hs
        go_wp2_with (first | (go_at_call 54; refine (scalar_any _ _).mono ?_; rintro e w' ⟨rfl, rfl⟩) | (go_at_call 55; refine (put_any w.heap.size _ _ _ _ hown (by omega) (by decide) hsz).mono ?_))
        rintro e w' ⟨v', rfl, hown', hk', -⟩
        go_wp2
        refine ⟨⟨k + 1, by omega, by go_num, by rw [hsn.out, ← hbad.out]; exact hown', ?_⟩, by simp [intOf]; omega⟩
        exact hbw.trans (hk'.below hsz (fun j hj e => by have := (hown.lt j e).1; omega))
    · go_wp2
      go_ret
      refine ⟨_, rfl, ?_, hbw⟩
      rw [List.take_of_length_le (by omega)] at hown
      exact hown

/-- What In says of an ASCII code point. -/
theorem in_table : ∀ n : Fin 127, 32 ≤ n.val → decide (0 ≤ Lib.indexByte [63, 94, 123, 125, 96, 32, 34, 35, 60, 62] n.val.toUInt8) = [63, 94, 123, 125, 96, 32, 34, 35, 60, 62].contains (n.val : Int) := by decide
theorem in_table' {r : Int} (h0 : 32 ≤ r) (h1 : r ≤ 126) : decide (0 ≤ Lib.indexByte [63, 94, 123, 125, 96, 32, 34, 35, 60, 62] r.toNat.toUInt8) = inP r := by
  have h := in_table ⟨r.toNat, by omega⟩ (by show 32 ≤ r.toNat; omega)
  simp only at h
  have e : ((r.toNat : Nat) : Int) = r := by omega
  rw [e] at h
  rw [h, inP]
  have a : decide (r < 32) = false := by simp; omega
  have b : decide (126 < r) = false := by simp; omega
  rw [a, b]
  rfl

set_option maxHeartbeats 400000 in
theorem in_any (r : Int) (w : World) : Calls Tryd.prog 30 #[.int .u8 5, .int .i32 r] w fun e w' => e = .returned (.bool (inP r)) ∧ w = w' := by
  by_cases h0 : r < 32
  · have hin : Hid (inP r = true) := by show _ = _; simp [inP, h0]
    go_enter Tryd.func30, Tryd.ntmps30
    go_wp2_with (go_at_call 29; refine (more_any _).mono ?_; rintro e w' ⟨rfl, rfl⟩)
    go_ret
    exact ⟨ret_bool hin.out.symm, rfl⟩
  by_cases h1 : 126 < r
  · have hin : Hid (inP r = true) := by show _ = _; simp [inP, h1]
    go_enter Tryd.func30, Tryd.ntmps30
    go_wp2_with (go_at_call 29; refine (more_any _).mono ?_; rintro e w' ⟨rfl, rfl⟩)
    go_ret
    exact ⟨ret_bool hin.out.symm, rfl⟩
  · have hin := Lib.hid (in_table' (r := r) (by omega) (by omega))
    have a0 : 32 ≤ r := by omega
    have a1 : r ≤ 126 := by omega
    clear h0 h1
    go_enter Tryd.func30, Tryd.ntmps30
    go_wp2_with (first | (go_at_call 29; refine (more_any _).mono ?_; rintro e w' ⟨rfl, rfl⟩) | (go_at_call 42; refine (Tryd.strings_ContainsRune_ascii _ _ _ (by omega) (by omega)).mono ?_; rintro e w' ⟨rfl, rfl⟩))
    go_ret
    have d0 : decide (r < 32) = false := by simp; omega
    have d1 : decide (126 < r) = false := by simp; omega
    exact ⟨ret_bool (by rw [d0, d1]; exact hin.out), rfl⟩
end Go.Proofs.YtpahiipfmccbiaaDoor
