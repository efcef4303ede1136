/- The cards' kit for the layer of IPv6 addresses: an address that came in. -/
import Derived.Test.YtmobeppmdakjmaaDoorK0
import Derived.Test.YtmobeppmdakjmaaDoorQ2
import Derived.WideKeyArr2
namespace Go.Proofs.YtmobeppmdakjmaaDoor
open Go.ChangeShapes Go.WideShapes Go.ChangeAt Go.RowKit

theorem Tryd.cells44 : Tryd.prog.cellsOf 44 = 8 := by kernel_rfl
theorem Tryd.cells43 : Tryd.prog.cellsOf 43 = 1 := by kernel_rfl
theorem half_of_wf {n : Int} (h : (Lit.int .u16 n).wf = true) : ∃ u : Nat, n = (u : Int) ∧ u < 65536 := by
  simp only [Lit.wf, Bool.and_eq_true, decide_eq_true_eq] at h
  have h1 : 0 ≤ n := h.1
  have h2 : n ≤ 65535 := h.2
  exact ⟨n.toNat, by omega, by omega⟩
theorem mapM_get {α β : Type} (f : α → Option β) : ∀ (L : List α) (ys : List β), L.mapM f = some ys → ∀ a ∈ L, ∃ y, f a = some y
  | [], _, _, a, h => by cases h
  | b :: L, ys, h, a, ha => by
    rw [List.mapM_cons] at h
    simp only [bind, Option.bind_eq_some_iff, pure, Option.some.injEq] at h
    obtain ⟨y, hy, zs, hzs, _⟩ := h
    rcases List.mem_cons.1 ha with rfl | ha
    · exact ⟨y, hy⟩
    · exact mapM_get f L zs hzs a ha
section
variable {H : Type} {enc : TypeId × Value → H} {W : World}
set_option maxRecDepth 100000 in
/-- An address that came in. -/
theorem open_addr {r : Reach} {b0 base : Nat} {sp : Nat → Bool} {held : Bool} {v : Value} {d : DataW H} {ps : List MemPlace} (hval : Value.okWide Tryd.prog W r b0 44 v) (hd : DataW.Trod enc Tryd.prog W base sp held 44 v d ps) :
    ∃ x : List Nat, x.length = 8 ∧ (∀ n ∈ x, n < 65536) ∧ v = addrV x := by
  obtain ⟨xs, rfl, hn⟩ : ∃ xs : Array Value, v = .agg xs ∧ xs.size = 8 := by
    simp only [Value.okWide, Tryd.underlying44] at hval
    obtain ⟨cs, h1, h2, _⟩ := hval
    exact ⟨cs, h1, by rw [h2, Tryd.cells44]⟩
  obtain ⟨fuel, hf⟩ := hd
  cases fuel with
  | zero => simp [DataW.trod] at hf
  | succ m =>
    rw [DataW.trod_step] at hf
    unfold DataW.trodStep at hf
    simp only [Tryd.underlying44, Value.cells] at hf
    rw [if_pos (by rw [Tryd.cells44]; simpa using hn)] at hf
    simp only [Option.map_eq_some_iff] at hf
    obtain ⟨ys, hy, _⟩ := hf
    have hat : ∀ i : Nat, i < 8 → ∃ u : Nat, xs.toList[i]? = some (.int .u16 (u : Int)) ∧ u < 65536 := by
      intro i hi
      obtain ⟨y, h⟩ := mapM_get _ _ _ hy i (by simpa using hi)
      obtain ⟨a, ea, _, wa⟩ := DataW.trod_int Tryd.underlying43 h
      obtain ⟨u, rfl, hu⟩ := half_of_wf wa
      refine ⟨u, ?_, hu⟩
      rw [Tryd.cells43, Nat.mul_one] at ea
      have := congrArg (fun l => l[0]?) ea
      simp only [List.getElem?_cons_zero] at this
      rw [List.getElem?_take, if_pos (by decide), List.getElem?_drop, Nat.add_zero] at this
      exact this
    have hl8 : xs.toList.length = 8 := by simpa using hn
    have hex : ∃ x : List Nat, x.length = 8 ∧ (∀ n ∈ x, n < 65536) ∧ xs.toList = u16V x := by
      obtain ⟨u0, a0, b0⟩ := hat 0 (by decide)
      obtain ⟨u1, a1, b1⟩ := hat 1 (by decide)
      obtain ⟨u2, a2, b2⟩ := hat 2 (by decide)
      obtain ⟨u3, a3, b3⟩ := hat 3 (by decide)
      obtain ⟨u4, a4, b4⟩ := hat 4 (by decide)
      obtain ⟨u5, a5, b5⟩ := hat 5 (by decide)
      obtain ⟨u6, a6, b6⟩ := hat 6 (by decide)
      obtain ⟨u7, a7, b7⟩ := hat 7 (by decide)
      refine ⟨[u0, u1, u2, u3, u4, u5, u6, u7], rfl, ?_, ?_⟩
      · intro n hn
        simp only [List.mem_cons, List.not_mem_nil, or_false] at hn
        rcases hn with rfl | rfl | rfl | rfl | rfl | rfl | rfl | rfl <;> assumption
      · refine List.ext_getElem? fun i => ?_
        by_cases h8 : i < 8
        · have q : i = 0 ∨ i = 1 ∨ i = 2 ∨ i = 3 ∨ i = 4 ∨ i = 5 ∨ i = 6 ∨ i = 7 := by omega
          rcases q with rfl | rfl | rfl | rfl | rfl | rfl | rfl | rfl <;> assumption
        · rw [List.getElem?_eq_none (by omega), List.getElem?_eq_none (by rw [u16V_length]; simp; omega)]
    obtain ⟨x, h1, h2, h3⟩ := hex
    refine ⟨x, h1, h2, ?_⟩
    unfold addrV
    rw [← h3]
end
/-- The library's table of bits. -/
def tab64 : List Int := [0, 1, 56, 2, 57, 49, 28, 3, 61, 58, 42, 50, 38, 29, 17, 4, 62, 47, 59, 36, 45, 43, 51, 22, 53, 39, 33, 30, 24, 18, 12, 5, 63, 55, 48, 27, 60, 41, 37, 16, 46, 35, 44, 21, 52, 32, 23, 11, 54, 26, 40, 15, 34, 20, 31, 10, 25, 14, 19, 9, 13, 8, 7, 6]
theorem tz_of_laid {W : World} {l : List (String × DataW Unit)} (h : laidMet Tryd.prog l W) (h1 : ("math/bits.deBruijn64tab", Rows.laid_math_bits_deBruijn64tab) ∈ l) : Tz W := by
  obtain ⟨g', t', cs, fuel, p, hg', ht', hvar, hd⟩ := Lib.laidMet.reads h h1
  obtain rfl := Option.some.inj ((show Tryd.prog.globalNamed "math/bits.deBruijn64tab" = some 8 by kernel_rfl).symm.trans hg')
  obtain rfl := Option.some.inj ((show (Tryd.prog.globals[8]?).map (·.type) = some 170 by kernel_rfl).symm.trans ht')
  have hd' : DataW.trod (fun _ => ()) Tryd.prog W 0 (fun _ => true) false fuel 170 cs.toList = some (Lib.tabData .u8 tab64, p) := hd
  have e := Lib.cells_of_tab Tryd.underlying170 Tryd.underlying5 (by kernel_rfl) (by kernel_rfl) hd'
  have hT : Lib.TabIs Tryd.prog W "math/bits.deBruijn64tab" .u8 tab64 := by
    unfold Lib.TabIs
    rw [hvar, ← e]
  exact ⟨hT.cell (by kernel_rfl) 7 (by decide), hT.cell (by kernel_rfl) 15 (by decide)⟩
/-- What the library's variables hold, from the row's list. -/
theorem ok6_of_laid {W : World} {l : List (String × DataW Unit)} (hsh : W.ShapedOpen Tryd.prog) (h : laidMet Tryd.prog l W) (h1 : ("strconv.ErrSyntax", Rows.laid_strconv_ErrSyntax) ∈ l) (h2 : ("strconv.ErrRange", Rows.laid_strconv_ErrRange) ∈ l)
    (h3 : ("internal/strconv.uint64pow10", Rows.laid_internal_strconv_uint64pow10) ∈ l) (h4 : ("math/bits.deBruijn64tab", Rows.laid_math_bits_deBruijn64tab) ∈ l) : Ok6 W :=
  ⟨ok_of_laid hsh h h1 h2 h3, tz_of_laid h h4⟩
#print axioms open_addr
end Go.Proofs.YtmobeppmdakjmaaDoor
