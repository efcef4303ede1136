/- Walk: strings.ContainsRune over a row of digits, at whatever code point. (Printed by g0b.py.) -/
import Derived.Test.YtmobeppmdakjmaaDoorG0
namespace Go.Proofs.YtmobeppmdakjmaaDoor
open Go.RowKit

theorem asc_oct : Asc ⟨#[48, 49, 50, 51, 52, 53, 54, 55]⟩ := by unfold Asc; decide
set_option maxHeartbeats 2000000 in
set_option maxRecDepth 100000 in
theorem indexRune_oct_at2 (r : Int) (R : ByteArray) (w : World) (h1 : 128 ≤ r) (hb' : (r == 65533) = false) (hv : Utf8.valid r = true) (hn : R.size = 2) (c : UInt8) (hc : R[1]'(by omega) = c) (hcl : 128 ≤ c.toNat)
    (hconv : (convert 21 9 (.int .i32 r)).run Tryd.prog w = .ok (.string R) w) : Calls Tryd.prog 117 #[.string ⟨#[48, 49, 50, 51, 52, 53, 54, 55]⟩, .int .i32 r] w fun e w' => e = .returned (.int .i64 (-1)) ∧ Below w.heap.size w w' := by
  have Hv := Lib.hid hv
  have hne : (((((⟨#[48, 49, 50, 51, 52, 53, 54, 55]⟩ : ByteArray))[1]'(by decide)).toNat : Int) != (c.toNat : Int)) = true := by
    have e : ((⟨#[48, 49, 50, 51, 52, 53, 54, 55]⟩ : ByteArray))[1]'(by decide) = 49 := rfl
    rw [e, bne_iff_ne]
    have : (49 : UInt8).toNat < 128 := by decide
    omega
  have hix : Hid (∀ l : List UInt8, (∀ b ∈ l, b.toNat < 128) → Lib.indexByte l c = -1) := indexByte_high c hcl
  clear hv
  go_enter Tryd.func117, Tryd.ntmps117
  go_wp2_with (go_at_call 141; refine (validRune_any _ _).mono ?_; rintro e w' ⟨rfl, rfl⟩; rw [Hv.out])
  go_step3
  go_wp2
  refine wp_loop_rounds 1 ?_
  rw [rounds_succ]
  go_wp2
  go_step3
  go_wp2
  go_quiet (fail)
  go_wp2
  go_region_with (go_at_call 28; refine (strings_IndexByte' _ _ _).mono ?_; rintro e w' ⟨rfl, hw⟩; rw [hw, hix.out _ (by decide)])
  all_goals
    go_wp2
    rw [Exit.noGoto_ret]
    simp only [Exit.inBlock, Exit.then]
    rw [Exit.noGoto_ret]
    go_ret
    exact ⟨rfl, below_drewN (Below.refl _ _) _⟩

set_option maxHeartbeats 2000000 in
set_option maxRecDepth 100000 in
theorem indexRune_oct_at3 (r : Int) (R : ByteArray) (w : World) (h1 : 128 ≤ r) (hb' : (r == 65533) = false) (hv : Utf8.valid r = true) (hn : R.size = 3) (c : UInt8) (hc : R[2]'(by omega) = c) (hcl : 128 ≤ c.toNat)
    (hconv : (convert 21 9 (.int .i32 r)).run Tryd.prog w = .ok (.string R) w) : Calls Tryd.prog 117 #[.string ⟨#[48, 49, 50, 51, 52, 53, 54, 55]⟩, .int .i32 r] w fun e w' => e = .returned (.int .i64 (-1)) ∧ Below w.heap.size w w' := by
  have Hv := Lib.hid hv
  have hne : (((((⟨#[48, 49, 50, 51, 52, 53, 54, 55]⟩ : ByteArray))[2]'(by decide)).toNat : Int) != (c.toNat : Int)) = true := by
    have e : ((⟨#[48, 49, 50, 51, 52, 53, 54, 55]⟩ : ByteArray))[2]'(by decide) = 50 := rfl
    rw [e, bne_iff_ne]
    have : (50 : UInt8).toNat < 128 := by decide
    omega
  have hix : Hid (∀ l : List UInt8, (∀ b ∈ l, b.toNat < 128) → Lib.indexByte l c = -1) := indexByte_high c hcl
  clear hv
  go_enter Tryd.func117, Tryd.ntmps117
  go_wp2_with (go_at_call 141; refine (validRune_any _ _).mono ?_; rintro e w' ⟨rfl, rfl⟩; rw [Hv.out])
  go_step3
  go_wp2
  refine wp_loop_rounds 1 ?_
  rw [rounds_succ]
  go_wp2
  go_step3
  go_wp2
  go_quiet (fail)
  go_wp2
  go_region_with (go_at_call 28; refine (strings_IndexByte' _ _ _).mono ?_; rintro e w' ⟨rfl, hw⟩; rw [hw, hix.out _ (by decide)])
  all_goals
    go_wp2
    rw [Exit.noGoto_ret]
    simp only [Exit.inBlock, Exit.then]
    rw [Exit.noGoto_ret]
    go_ret
    exact ⟨rfl, below_drewN (Below.refl _ _) _⟩

set_option maxHeartbeats 2000000 in
set_option maxRecDepth 100000 in
theorem indexRune_oct_at4 (r : Int) (R : ByteArray) (w : World) (h1 : 128 ≤ r) (hb' : (r == 65533) = false) (hv : Utf8.valid r = true) (hn : R.size = 4) (c : UInt8) (hc : R[3]'(by omega) = c) (hcl : 128 ≤ c.toNat)
    (hconv : (convert 21 9 (.int .i32 r)).run Tryd.prog w = .ok (.string R) w) : Calls Tryd.prog 117 #[.string ⟨#[48, 49, 50, 51, 52, 53, 54, 55]⟩, .int .i32 r] w fun e w' => e = .returned (.int .i64 (-1)) ∧ Below w.heap.size w w' := by
  have Hv := Lib.hid hv
  have hne : (((((⟨#[48, 49, 50, 51, 52, 53, 54, 55]⟩ : ByteArray))[3]'(by decide)).toNat : Int) != (c.toNat : Int)) = true := by
    have e : ((⟨#[48, 49, 50, 51, 52, 53, 54, 55]⟩ : ByteArray))[3]'(by decide) = 51 := rfl
    rw [e, bne_iff_ne]
    have : (51 : UInt8).toNat < 128 := by decide
    omega
  have hix : Hid (∀ l : List UInt8, (∀ b ∈ l, b.toNat < 128) → Lib.indexByte l c = -1) := indexByte_high c hcl
  clear hv
  go_enter Tryd.func117, Tryd.ntmps117
  go_wp2_with (go_at_call 141; refine (validRune_any _ _).mono ?_; rintro e w' ⟨rfl, rfl⟩; rw [Hv.out])
  go_step3
  go_wp2
  refine wp_loop_rounds 1 ?_
  rw [rounds_succ]
  go_wp2
  go_step3
  go_wp2
  go_quiet (fail)
  go_wp2
  go_region_with (go_at_call 28; refine (strings_IndexByte' _ _ _).mono ?_; rintro e w' ⟨rfl, hw⟩; rw [hw, hix.out _ (by decide)])
  all_goals
    go_wp2
    rw [Exit.noGoto_ret]
    simp only [Exit.inBlock, Exit.then]
    rw [Exit.noGoto_ret]
    go_ret
    exact ⟨rfl, below_drewN (Below.refl _ _) _⟩

set_option maxHeartbeats 2000000 in
set_option maxRecDepth 100000 in
theorem indexRune_oct_none (r : Int) (w : World) (h128 : ¬ (0 ≤ r ∧ r < 128)) : Calls Tryd.prog 117 #[.string ⟨#[48, 49, 50, 51, 52, 53, 54, 55]⟩, .int .i32 r] w fun e w' => e = .returned (.int .i64 (-1)) ∧ Below w.heap.size w w' := by
  by_cases hb : r = 65533
  · subst hb; exact indexRune_bad ⟨#[48, 49, 50, 51, 52, 53, 54, 55]⟩ (asc_oct) w
  have hb' : (r == 65533) = false := beq_eq_false_iff_ne.2 hb
  cases hv : Utf8.valid r with
  | false =>
    have Hv := Lib.hid hv
    clear hv
    go_enter Tryd.func117, Tryd.ntmps117
    go_wp2_with (go_at_call 141; refine (validRune_any _ _).mono ?_; rintro e w' ⟨rfl, rfl⟩; rw [Hv.out])
    all_goals go_wp2
    all_goals go_ret
    all_goals exact ⟨rfl, Below.refl _ _⟩
  | true =>
    have h0 := valid_pos hv
    have h1 : 128 ≤ r := by omega
    obtain ⟨e2, e4, ef⟩ := encode_facts r hv h1
    have hpos : (Utf8.encode r).size - 1 < (Utf8.encode r).size := by omega
    obtain ⟨c, hc⟩ : ∃ c : UInt8, (Utf8.encode r)[(Utf8.encode r).size - 1]'hpos = c := ⟨_, rfl⟩
    have hcl : 128 ≤ c.toNat := by rw [← hc]; exact ef hpos
    have hconv := run_convert_int_string (P := Tryd.prog) w 21 9 .i32 r (by rw [Tryd.underlying21]; rfl) Tryd.underlying9
    generalize Utf8.encode r = R at *
    have hn : R.size = 2 ∨ R.size = 3 ∨ R.size = 4 := by omega
    have hcc : ∀ k (hk : k < R.size), k = R.size - 1 → R[k]'hk = c := fun k hk e => by subst e; exact hc
    rcases hn with hn | hn | hn
    · exact indexRune_oct_at2 r R w h1 hb' hv hn c (hcc 1 (by omega) (by omega)) hcl hconv
    · exact indexRune_oct_at3 r R w h1 hb' hv hn c (hcc 2 (by omega) (by omega)) hcl hconv
    · exact indexRune_oct_at4 r R w h1 hb' hv hn c (hcc 3 (by omega) (by omega)) hcl hconv

theorem containsRune_oct (r : Int) (w : World) : Calls Tryd.prog 88 #[.string ⟨#[48, 49, 50, 51, 52, 53, 54, 55]⟩, .int .i32 r] w fun e w' => e = .returned (.bool (hasR [48, 49, 50, 51, 52, 53, 54, 55] r)) ∧ Below w.heap.size w w' := by
  by_cases h : 0 ≤ r ∧ r < 128
  · refine (Tryd.strings_ContainsRune_ascii _ r w h.1 h.2).mono ?_
    rintro e w' ⟨rfl, rfl⟩
    exact ⟨ret_bool (by rw [hasR, Lib.contains_iff_indexByte]; simp [h]), Below.refl _ _⟩
  · have hf : Hid (hasR [48, 49, 50, 51, 52, 53, 54, 55] r = false) := by
      show _ = _
      rw [hasR]
      cases h0 : decide (0 ≤ r) with
      | false => rfl
      | true =>
        have : decide (r < 128) = false := by simp at h0 ⊢; omega
        rw [this]; rfl
    have Hi := Lib.hid (indexRune_oct_none r w h)
    clear h
    go_enter Tryd.func88, Tryd.ntmps88
    go_wp2_with (go_at_call 117; refine Hi.out.mono ?_; rintro e w' ⟨rfl, hb⟩)
    go_ret
    exact ⟨ret_bool hf.out.symm, hb⟩
#print axioms containsRune_oct
end Go.Proofs.YtmobeppmdakjmaaDoor
