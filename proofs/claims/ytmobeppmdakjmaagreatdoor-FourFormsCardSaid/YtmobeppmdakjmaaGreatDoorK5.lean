/- The cards' kit for FourForms: four bytes that came in. -/
import Derived.Test.YtmobeppmdakjmaaGreatDoorK0
import Derived.Test.YtmobeppmdakjmaaGreatDoorN2
import Derived.WideKeyArr2
namespace Go.Proofs.YtmobeppmdakjmaaGreatDoor
open Go.ChangeShapes Go.WideShapes Go.ChangeAt Go.RowKit

theorem Tryz.cells23 : Tryz.prog.cellsOf 23 = 4 := by kernel_rfl
theorem Tryz.cells5 : Tryz.prog.cellsOf 5 = 1 := by kernel_rfl
theorem mapM_get {α β : Type} (f : α → Option β) : ∀ (L : List α) (ys : List β), L.mapM f = some ys → ∀ a ∈ L, ∃ y, f a = some y
  | [], _, _, a, h => by cases h
  | b :: L, ys, h, a, ha => by
    rw [List.mapM_cons] at h
    simp only [bind, Option.bind_eq_some_iff, pure, Option.some.injEq] at h
    obtain ⟨y, hy, zs, hzs, _⟩ := h
    rcases List.mem_cons.1 ha with rfl | ha
    · exact ⟨y, hy⟩
    · exact mapM_get f L zs hzs a ha
section
variable {H : Type} {enc : TypeId × Value → H} {W : World}
set_option maxRecDepth 100000 in
/-- Four bytes that came in. -/
theorem open_how {r : Reach} {b0 base : Nat} {sp : Nat → Bool} {held : Bool} {v : Value} {d : DataW H} {ps : List MemPlace} (hval : Value.okWide Tryz.prog W r b0 23 v) (hd : DataW.Trod enc Tryz.prog W base sp held 23 v d ps) :
    ∃ h0 h1 h2 h3 : UInt8, v = .agg #[.int .u8 h0.toNat, .int .u8 h1.toNat, .int .u8 h2.toNat, .int .u8 h3.toNat] := by
  obtain ⟨xs, rfl, hn⟩ : ∃ xs : Array Value, v = .agg xs ∧ xs.size = 4 := by
    simp only [Value.okWide, Tryz.underlying23] at hval
    obtain ⟨cs, h1, h2, _⟩ := hval
    exact ⟨cs, h1, by rw [h2, Tryz.cells23]⟩
  obtain ⟨fuel, hf⟩ := hd
  cases fuel with
  | zero => simp [DataW.trod] at hf
  | succ m =>
    rw [DataW.trod_step] at hf
    unfold DataW.trodStep at hf
    simp only [Tryz.underlying23, Value.cells] at hf
    rw [if_pos (by rw [Tryz.cells23]; simpa using hn)] at hf
    simp only [Option.map_eq_some_iff] at hf
    obtain ⟨ys, hy, _⟩ := hf
    have hat : ∀ i : Nat, i < 4 → ∃ u : UInt8, xs.toList[i]? = some (.int .u8 u.toNat) := by
      intro i hi
      obtain ⟨y, h⟩ := mapM_get _ _ _ hy i (by simpa using hi)
      obtain ⟨a, ea, _, wa⟩ := DataW.trod_int Tryz.underlying5 h
      obtain ⟨u, rfl⟩ := byte_of_wf wa
      refine ⟨u, ?_⟩
      rw [Tryz.cells5, Nat.mul_one] at ea
      have := congrArg (fun l => l[0]?) ea
      simp only [List.getElem?_cons_zero] at this
      rw [List.getElem?_take, if_pos (by decide), List.getElem?_drop, Nat.add_zero] at this
      exact this
    have hl4 : xs.toList.length = 4 := by simpa using hn
    obtain ⟨u0, a0⟩ := hat 0 (by decide)
    obtain ⟨u1, a1⟩ := hat 1 (by decide)
    obtain ⟨u2, a2⟩ := hat 2 (by decide)
    obtain ⟨u3, a3⟩ := hat 3 (by decide)
    refine ⟨u0, u1, u2, u3, ?_⟩
    congr 1
    refine Array.toList_inj.1 (List.ext_getElem? fun i => ?_)
    by_cases h4 : i < 4
    · have q : i = 0 ∨ i = 1 ∨ i = 2 ∨ i = 3 := by omega
      rcases q with rfl | rfl | rfl | rfl <;> assumption
    · rw [List.getElem?_eq_none (by omega), List.getElem?_eq_none (by simp; omega)]
end
/-- The library's table of bits. -/
def tab64 : List Int := [0, 1, 56, 2, 57, 49, 28, 3, 61, 58, 42, 50, 38, 29, 17, 4, 62, 47, 59, 36, 45, 43, 51, 22, 53, 39, 33, 30, 24, 18, 12, 5, 63, 55, 48, 27, 60, 41, 37, 16, 46, 35, 44, 21, 52, 32, 23, 11, 54, 26, 40, 15, 34, 20, 31, 10, 25, 14, 19, 9, 13, 8, 7, 6]
theorem tz_of_laid {W : World} {l : List (String × DataW Unit)} (h : laidMet Tryz.prog l W) (h1 : ("math/bits.deBruijn64tab", Rows.laid_math_bits_deBruijn64tab) ∈ l) : Tz W := by
  obtain ⟨g', t', cs, fuel, p, hg', ht', hvar, hd⟩ := Lib.laidMet.reads h h1
  obtain rfl := Option.some.inj ((show Tryz.prog.globalNamed "math/bits.deBruijn64tab" = some 8 by kernel_rfl).symm.trans hg')
  obtain rfl := Option.some.inj ((show (Tryz.prog.globals[8]?).map (·.type) = some 138 by kernel_rfl).symm.trans ht')
  have hd' : DataW.trod (fun _ => ()) Tryz.prog W 0 (fun _ => true) false fuel 138 cs.toList = some (Lib.tabData .u8 tab64, p) := hd
  have e := Lib.cells_of_tab Tryz.underlying138 Tryz.underlying5 (by kernel_rfl) (by kernel_rfl) hd'
  have hT : Lib.TabIs Tryz.prog W "math/bits.deBruijn64tab" .u8 tab64 := by
    unfold Lib.TabIs
    rw [hvar, ← e]
  exact ⟨hT.cell (by kernel_rfl) 7 (by decide), hT.cell (by kernel_rfl) 15 (by decide)⟩
/-- What the library's variables hold, from the row's list. -/
theorem okz_of_laid {W : World} {l : List (String × DataW Unit)} (hsh : W.ShapedOpen Tryz.prog) (h : laidMet Tryz.prog l W) (h1 : ("strconv.ErrSyntax", Rows.laid_strconv_ErrSyntax) ∈ l) (h2 : ("strconv.ErrRange", Rows.laid_strconv_ErrRange) ∈ l)
    (h3 : ("internal/strconv.uint64pow10", Rows.laid_internal_strconv_uint64pow10) ∈ l) (h4 : ("math/bits.deBruijn64tab", Rows.laid_math_bits_deBruijn64tab) ∈ l) : Ok W ∧ Tz W :=
  ⟨ok_of_laid hsh h h1 h2 h3, tz_of_laid h h4⟩
#print axioms open_how
end Go.Proofs.YtmobeppmdakjmaaGreatDoor
