/- Walk: is a code point one of the four that may stand behind a drive (strings.ContainsRune over a constant text), at whatever code point. -/
import Derived.Test.YtpahiipfmccbiaaDoorA1
import Derived.Laws.Runes
import Derived.Laws.RangeAny
import Derived.Handy
import Derived.Deep.RegionWith
import Derived.Deep.QuietTactic
import Derived.Lib.IndexAny
namespace Go.Proofs.YtpahiipfmccbiaaDoor
open Go.RowKit

def four : List Int := [47, 92, 63, 35]
theorem four_table : ∀ n : Fin 128, decide (0 ≤ Lib.indexByte [47, 92, 63, 35] n.val.toUInt8) = four.contains (n.val : Int) := by decide
theorem four_not {r : Int} (h : ¬ (0 ≤ r ∧ r < 128)) : four.contains r = false := by
  simp [four]; omega

set_option maxHeartbeats 400000 in
set_option maxRecDepth 100000 in
theorem validRune_any (r : Int) (w : World) : Calls Tryd.prog 75 #[.int .i32 r] w fun e w' => e = .returned (.bool (Utf8.valid r)) ∧ w = w' := by
  go_enter Tryd.func75, Tryd.ntmps75
  go_wp2
  all_goals go_ret
  all_goals (refine ⟨ret_bool ?_, rfl⟩; rw [Bool.eq_iff_iff]; simp [Utf8.valid]; try omega)

theorem below_iter {B : Nat} {w w' : World} (h : Below B w w') (hB : B ≤ w'.heap.size) (s : ByteArray) (p : Nat) : Below B w (w'.iter s p) := by
  have := h.alloc hB (.stringIter s p)
  exact this

set_option maxHeartbeats 1000000 in
set_option maxRecDepth 100000 in
theorem indexRune_bad (w : World) : Calls Tryd.prog 59 #[.string ⟨#[47, 92, 63, 35]⟩, .int .i32 65533] w fun e w' => e = .returned (.int .i64 (-1)) ∧ Below w.heap.size w w' := by
  obtain ⟨s, hs⟩ : ∃ s : ByteArray, s = ⟨#[47, 92, 63, 35]⟩ := ⟨_, rfl⟩
  have H : Hid (∀ (i : Nat) (h : i < s.size), (s[i]'h).toNat < 128) := by
    show ∀ _, _
    subst hs
    decide
  rw [← hs]
  clear hs
  go_enter Tryd.func59, Tryd.ntmps59
  go_wp2
  go_loopg [5, 6] s.size (fun g _ _ wx => ∃ i : Nat, i + g = s.size ∧ wx = w.iter s i)
  case atStart => exact ⟨0, by omega, rfl⟩
  case round =>
    obtain ⟨i, hig, rfl⟩ := hrel
    cases gk with
    | zero =>
      obtain rfl : i = s.size := by omega
      have hnx := run_next_end (P := Tryd.prog) w s s.size
      go_wp2
      go_ret
      exact ⟨rfl, below_iter (Below.refl _ _) (Nat.le_refl _) _ _⟩

    | succ g =>
      have hi : i < s.size := by omega
      obtain ⟨x, hx⟩ : ∃ x : UInt8, s[i]'hi = x := ⟨_, rfl⟩
      have hx128 : x.toNat < 128 := by rw [← hx]; exact H.out i hi
      have hnx := fun ty => run_next_ascii (P := Tryd.prog) w s i ty hi (by rw [hx]; exact hx128)
      rw [hx] at hnx
      clear hx
      go_wp2
      go_roundg g
      case measure => omega
      case rel => exact ⟨i + 1, by omega, rfl⟩

theorem valid_pos {r : Int} (h : Utf8.valid r = true) : 0 ≤ r := by simp [Utf8.valid] at h; omega


set_option maxRecDepth 100000 in
theorem Tryd.strings_IndexByte (s : ByteArray) (c : UInt8) (w : World) :
    Calls Tryd.prog 74 #[.string s, .int .u8 c.toNat] w fun e w' => e = .returned (.int .i64 (Lib.indexByte s.data.toList c)) ∧ w' = w :=
  (Any.strings_IndexByte { Tryd.lays151 with } s c.toNat w).mono fun e w' h => by simpa using h
theorem indexByte_high (c : UInt8) (hc : 128 ≤ c.toNat) : ∀ l : List UInt8, (∀ b ∈ l, b.toNat < 128) → Lib.indexByte l c = -1 := by
  intro l h
  have h1 := Lib.contains_iff_indexByte l c
  have h2 : l.contains c = false := by
    rw [Bool.eq_false_iff]
    intro e
    have := h c (by simpa using e)
    omega
  rw [h2] at h1
  have h3 : ¬ (0 ≤ Lib.indexByte l c) := of_decide_eq_false h1.symm
  have := Lib.indexByte_ge l c
  omega
theorem below_drewN0 {B : Nat} {w w' : World} (h : Below B w w') (n : Nat) : Below B w (w'.drewN n) := h.trans ⟨rfl, rfl, rfl, Nat.le_refl _, fun _ _ => rfl⟩

set_option maxHeartbeats 2000000 in
set_option maxRecDepth 100000 in
theorem indexRune_at2 (r : Int) (R : ByteArray) (w : World) (h1 : 128 ≤ r) (hb' : (r == 65533) = false) (hv : Utf8.valid r = true) (hn : R.size = 2) (c : UInt8) (hc : R[1]'(by omega) = c) (hcl : 128 ≤ c.toNat)
    (hconv : (convert 21 9 (.int .i32 r)).run Tryd.prog w = .ok (.string R) w) : Calls Tryd.prog 59 #[.string ⟨#[47, 92, 63, 35]⟩, .int .i32 r] w fun e w' => e = .returned (.int .i64 (-1)) ∧ Below w.heap.size w w' := by
  have Hv := Lib.hid hv
  have hne : ((((⟨#[47, 92, 63, 35]⟩ : ByteArray)[1]'(by decide)).toNat : Int) != (c.toNat : Int)) = true := by
    have e : (⟨#[47, 92, 63, 35]⟩ : ByteArray)[1]'(by decide) = 92 := rfl
    rw [e, bne_iff_ne]
    have : (92 : UInt8).toNat < 128 := by decide
    omega
  have hix : Hid (∀ l : List UInt8, (∀ b ∈ l, b.toNat < 128) → Lib.indexByte l c = -1) := indexByte_high c hcl
  clear hv
  go_enter Tryd.func59, Tryd.ntmps59
  go_wp2_with (go_at_call 75; refine (validRune_any _ _).mono ?_; rintro e w' ⟨rfl, rfl⟩; rw [Hv.out])
  go_step3
  go_wp2
  refine wp_loop_rounds 1 ?_
  rw [rounds_succ]
  go_wp2
  go_step3
  go_wp2
  go_quiet (fail)
  go_wp2
  go_region_with (go_at_call 74; refine (Tryd.strings_IndexByte _ _ _).mono ?_; rintro e w' ⟨rfl, hw⟩; rw [hw, hix.out _ (by decide)])
  all_goals
    go_wp2
    rw [Exit.noGoto_ret]
    simp only [Exit.inBlock, Exit.then]
    rw [Exit.noGoto_ret]
    go_ret
    exact ⟨rfl, below_drewN0 (Below.refl _ _) _⟩

set_option maxHeartbeats 2000000 in
set_option maxRecDepth 100000 in
theorem indexRune_at3 (r : Int) (R : ByteArray) (w : World) (h1 : 128 ≤ r) (hb' : (r == 65533) = false) (hv : Utf8.valid r = true) (hn : R.size = 3) (c : UInt8) (hc : R[2]'(by omega) = c) (hcl : 128 ≤ c.toNat)
    (hconv : (convert 21 9 (.int .i32 r)).run Tryd.prog w = .ok (.string R) w) : Calls Tryd.prog 59 #[.string ⟨#[47, 92, 63, 35]⟩, .int .i32 r] w fun e w' => e = .returned (.int .i64 (-1)) ∧ Below w.heap.size w w' := by
  have Hv := Lib.hid hv
  have hne : ((((⟨#[47, 92, 63, 35]⟩ : ByteArray)[2]'(by decide)).toNat : Int) != (c.toNat : Int)) = true := by
    have e : (⟨#[47, 92, 63, 35]⟩ : ByteArray)[2]'(by decide) = 63 := rfl
    rw [e, bne_iff_ne]
    have : (63 : UInt8).toNat < 128 := by decide
    omega
  have hix : Hid (∀ l : List UInt8, (∀ b ∈ l, b.toNat < 128) → Lib.indexByte l c = -1) := indexByte_high c hcl
  clear hv
  go_enter Tryd.func59, Tryd.ntmps59
  go_wp2_with (go_at_call 75; refine (validRune_any _ _).mono ?_; rintro e w' ⟨rfl, rfl⟩; rw [Hv.out])
  go_step3
  go_wp2
  refine wp_loop_rounds 1 ?_
  rw [rounds_succ]
  go_wp2
  go_step3
  go_wp2
  go_quiet (fail)
  go_wp2
  go_region_with (go_at_call 74; refine (Tryd.strings_IndexByte _ _ _).mono ?_; rintro e w' ⟨rfl, hw⟩; rw [hw, hix.out _ (by decide)])
  all_goals
    go_wp2
    rw [Exit.noGoto_ret]
    simp only [Exit.inBlock, Exit.then]
    rw [Exit.noGoto_ret]
    go_ret
    exact ⟨rfl, below_drewN0 (Below.refl _ _) _⟩

set_option maxHeartbeats 2000000 in
set_option maxRecDepth 100000 in
theorem indexRune_at4 (r : Int) (R : ByteArray) (w : World) (h1 : 128 ≤ r) (hb' : (r == 65533) = false) (hv : Utf8.valid r = true) (hn : R.size = 4) (c : UInt8) (hc : R[3]'(by omega) = c) (hcl : 128 ≤ c.toNat)
    (hconv : (convert 21 9 (.int .i32 r)).run Tryd.prog w = .ok (.string R) w) : Calls Tryd.prog 59 #[.string ⟨#[47, 92, 63, 35]⟩, .int .i32 r] w fun e w' => e = .returned (.int .i64 (-1)) ∧ Below w.heap.size w w' := by
  have Hv := Lib.hid hv
  have hne : ((((⟨#[47, 92, 63, 35]⟩ : ByteArray)[3]'(by decide)).toNat : Int) != (c.toNat : Int)) = true := by
    have e : (⟨#[47, 92, 63, 35]⟩ : ByteArray)[3]'(by decide) = 35 := rfl
    rw [e, bne_iff_ne]
    have : (35 : UInt8).toNat < 128 := by decide
    omega
  have hix : Hid (∀ l : List UInt8, (∀ b ∈ l, b.toNat < 128) → Lib.indexByte l c = -1) := indexByte_high c hcl
  clear hv
  go_enter Tryd.func59, Tryd.ntmps59
  go_wp2_with (go_at_call 75; refine (validRune_any _ _).mono ?_; rintro e w' ⟨rfl, rfl⟩; rw [Hv.out])
  go_step3
  go_wp2
  refine wp_loop_rounds 1 ?_
  rw [rounds_succ]
  go_wp2
  go_step3
  go_wp2
  go_quiet (fail)
  go_wp2
  go_region_with (go_at_call 74; refine (Tryd.strings_IndexByte _ _ _).mono ?_; rintro e w' ⟨rfl, hw⟩; rw [hw, hix.out _ (by decide)])
  all_goals
    go_wp2
    rw [Exit.noGoto_ret]
    simp only [Exit.inBlock, Exit.then]
    rw [Exit.noGoto_ret]
    go_ret
    exact ⟨rfl, below_drewN0 (Below.refl _ _) _⟩

set_option maxHeartbeats 2000000 in
set_option maxRecDepth 100000 in
theorem indexRune_none (r : Int) (w : World) (h128 : ¬ (0 ≤ r ∧ r < 128)) : Calls Tryd.prog 59 #[.string ⟨#[47, 92, 63, 35]⟩, .int .i32 r] w fun e w' => e = .returned (.int .i64 (-1)) ∧ Below w.heap.size w w' := by
  by_cases hb : r = 65533
  · subst hb; exact indexRune_bad w
  have hb' : (r == 65533) = false := beq_eq_false_iff_ne.2 hb
  cases hv : Utf8.valid r with
  | false =>
    have Hv := Lib.hid hv
    clear hv
    go_enter Tryd.func59, Tryd.ntmps59
    go_wp2_with (go_at_call 75; refine (validRune_any _ _).mono ?_; rintro e w' ⟨rfl, rfl⟩; rw [Hv.out])
    all_goals go_wp2
    all_goals go_ret
    all_goals exact ⟨rfl, Below.refl _ _⟩
  | true =>
    have h0 := valid_pos hv
    have h1 : 128 ≤ r := by omega
    obtain ⟨e2, e4, ef⟩ := encode_facts r hv h1
    have hpos : (Utf8.encode r).size - 1 < (Utf8.encode r).size := by omega
    obtain ⟨c, hc⟩ : ∃ c : UInt8, (Utf8.encode r)[(Utf8.encode r).size - 1]'hpos = c := ⟨_, rfl⟩
    have hcl : 128 ≤ c.toNat := by rw [← hc]; exact ef hpos
    have hconv := run_convert_int_string (P := Tryd.prog) w 21 9 .i32 r (by rw [Tryd.underlying21]; rfl) Tryd.underlying9
    generalize Utf8.encode r = R at *
    have hn : R.size = 2 ∨ R.size = 3 ∨ R.size = 4 := by omega
    have hcc : ∀ k (hk : k < R.size), k = R.size - 1 → R[k]'hk = c := fun k hk e => by subst e; exact hc
    rcases hn with hn | hn | hn
    · exact indexRune_at2 r R w h1 hb' hv hn c (hcc 1 (by omega) (by omega)) hcl hconv
    · exact indexRune_at3 r R w h1 hb' hv hn c (hcc 2 (by omega) (by omega)) hcl hconv
    · exact indexRune_at4 r R w h1 hb' hv hn c (hcc 3 (by omega) (by omega)) hcl hconv

theorem containsRune_any (r : Int) (w : World) : Calls Tryd.prog 42 #[.string ⟨#[47, 92, 63, 35]⟩, .int .i32 r] w fun e w' => e = .returned (.bool (four.contains r)) ∧ Below w.heap.size w w' := by
  by_cases h : 0 ≤ r ∧ r < 128
  · refine (Tryd.strings_ContainsRune_ascii _ r w h.1 h.2).mono ?_
    rintro e w' ⟨rfl, rfl⟩
    have ht := four_table ⟨r.toNat, by omega⟩
    have e : ((r.toNat : Nat) : Int) = r := by omega
    simp only [e] at ht
    exact ⟨ret_bool ht, Below.refl _ _⟩
  · have hf := Lib.hid (four_not h)
    have Hi := Lib.hid (indexRune_none r w h)
    clear h
    go_enter Tryd.func42, Tryd.ntmps42
    go_wp2_with (go_at_call 59; refine Hi.out.mono ?_; rintro e w' ⟨rfl, hb⟩)
    go_ret
    exact ⟨ret_bool hf.out.symm, hb⟩
#print axioms containsRune_any
end Go.Proofs.YtpahiipfmccbiaaDoor
