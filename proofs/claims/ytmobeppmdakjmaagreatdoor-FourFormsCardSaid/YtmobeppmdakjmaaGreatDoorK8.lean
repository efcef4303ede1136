/- The card of FourForms. (Printed by card4.py.) -/
import Derived.Test.YtmobeppmdakjmaaGreatDoorK0
import Derived.Test.YtmobeppmdakjmaaGreatDoorK5
import Derived.Test.YtmobeppmdakjmaaGreatDoorV4
import Derived.Lib.LaidU8
import Derived.Lib.LaidCaseMet
import Derived.Test.YtmobeppmdakjmaaGreatDoorS0
import Derived.Deep.DeepWitnessRowRef
namespace Go.Proofs.YtmobeppmdakjmaaGreatDoor.fourForms
open Go.ChangeShapes Go.WideShapes Go.ChangeAt Go.RowKit
open Go.ChangeMaps (open_string)
open Go.Shelf

/-- The listed variables, in another order. -/
theorem LaidVars_perm {P : Program} {w : World} {l l' : List (String × DataW Unit)} (hp : l.Perm l') : ∀ ps, DataW.LaidVars P w l ps → ∃ ps', DataW.LaidVars P w l' ps' ∧ ps.Perm ps' := by
  induction hp with
  | nil => exact fun ps h => ⟨ps, h, .refl _⟩
  | cons x _ ih =>
    rintro ps ⟨g, t, cs, fuel, p, q, h1, h2, h3, h4, h5, rfl⟩
    obtain ⟨q', h6, h7⟩ := ih q h5
    exact ⟨_, ⟨g, t, cs, fuel, p, q', h1, h2, h3, h4, h6, rfl⟩, h7.append_left _⟩
  | swap x y l =>
    rintro ps ⟨g, t, cs, fuel, p, q, h1, h2, h3, h4, ⟨g', t', cs', fuel', p', q', k1, k2, k3, k4, k5, rfl⟩, rfl⟩
    refine ⟨_, ⟨g', t', cs', fuel', p', _, k1, k2, k3, k4, ⟨g, t, cs, fuel, p, q', h1, h2, h3, h4, k5, rfl⟩, rfl⟩, ?_⟩
    rw [← List.append_assoc, ← List.append_assoc (MemPlace.row ⟨g', 0, none⟩ cs'.size ++ p')]
    exact (List.perm_append_comm).append_right _
  | trans _ _ ih1 ih2 =>
    intro ps h
    obtain ⟨q, h1, h2⟩ := ih1 ps h
    obtain ⟨r, h3, h4⟩ := ih2 q h1
    exact ⟨r, h3, h2.trans h4⟩
theorem laidMet_perm {P : Program} {w : World} {l l' : List (String × DataW Unit)} (hp : l.Perm l') (h : laidMet P l w) : laidMet P l' w := by
  obtain ⟨ps, h1, h2, h3⟩ := h
  obtain ⟨q, k1, k2⟩ := LaidVars_perm hp ps h1
  exact ⟨q, k1, (k2.nodup_iff).1 h2, fun b off hm => h3 b off ((k2.mem_iff).2 hm)⟩
theorem caseExtra : CaseExtra Tryz.prog Tryz.lays158_ren := ⟨by kernel_rfl, by kernel_rfl, by kernel_rfl, by kernel_rfl, by kernel_rfl, by kernel_rfl⟩
theorem caseRanges_data : Go.Pinned.caseRanges = Lib.caseData := by kernel_rfl
/-- A world for the witness: the settled one, the listed tables as their initialisers lay them. -/
noncomputable def laidWorld (os : Os) : World :=
  let N := (World.settled Tryz.prog os).heap.size
  let w0 := World.holding Tryz.prog os ⟨#[.cells Lib.caseCells5 (Tryz.lays158_ren.t 208)], #[], []⟩
  let put (h : Array Obj) (g : Nat) (cs : Array Value) : Array Obj := h.modify g fun
    | .cells _ t frozen => .cells cs t frozen
    | o => o
  let ints (d : DataW Unit) : List Value := match d with
    | .agg l => l.flatMap fun x => match x with
      | .lit (.int k z) => [Value.int k z]
      | .agg l2 => l2.flatMap fun y => match y with
        | .lit (.int k z) => [Value.int k z]
        | _ => []
      | _ => []
    | _ => []
  let text (d : DataW Unit) : ByteArray := match d with
    | .iface _ (.ptr (.agg [.lit (.string l)])) => ⟨l.toArray⟩
    | _ => ⟨#[]⟩
  let h1 := put w0.heap 3 (ints Rows.laid_unicode_utf8_first).toArray
  let h2 := put h1 4 (ints Rows.laid_unicode_utf8_acceptRanges).toArray
  let h3 := put h2 7 (ints Rows.laid_math_bits_deBruijn32tab).toArray
  let h4 := put h3 8 (ints Rows.laid_math_bits_deBruijn64tab).toArray
  let h5 := put h4 0 (ints Rows.laid_internal_strconv_uint64pow10).toArray
  let n := h5.size
  let h6 := put h5 6 #[.iface 143 (.pointer (some ⟨n, 0, none⟩))]
  let h7 := put h6 5 #[.iface 143 (.pointer (some ⟨n + 1, 0, none⟩))]
  let h8 := put h7 1 #[.slice (some ⟨N, 0, none⟩) 336 336]
  let h9 := (h8.push (.cells #[.string (text Rows.laid_strconv_ErrRange)] 145)).push (.cells #[.string (text Rows.laid_strconv_ErrSyntax)] 145)
  { w0 with heap := h9 }
theorem laid_met (os : Os) : laidMet Tryz.prog Rows.fourFormsRow.laid ((laidWorld os).forCall (fun _ _ => 0) ⟨#[], #[.int .u32 0, .int .u8 0, .agg #[.int .u8 0, .int .u8 0, .int .u8 0, .int .u8 0]], []⟩).memory := by
  have h := laidMet_with_case (ρ := Tryz.lays158_ren) { Tryz.lays158 with } Tryz.lays158.t206 caseExtra
    (w := ((laidWorld os).forCall (fun _ _ => 0) ⟨#[], #[.int .u32 0, .int .u8 0, .agg #[.int .u8 0, .int .u8 0, .int .u8 0, .int .u8 0]], []⟩).memory)
    (l := [("math/bits.deBruijn32tab", Rows.laid_math_bits_deBruijn32tab), ("math/bits.deBruijn64tab", Rows.laid_math_bits_deBruijn64tab), ("internal/strconv.uint64pow10", Rows.laid_internal_strconv_uint64pow10), ("unicode/utf8.acceptRanges", Rows.laid_unicode_utf8_acceptRanges), ("strconv.ErrRange", Rows.laid_strconv_ErrRange), ("strconv.ErrSyntax", Rows.laid_strconv_ErrSyntax), ("unicode/utf8.first", Rows.laid_unicode_utf8_first)])
    10 (by kernel_rfl) (by kernel_rfl) (by kernel_rfl) ((World.settled Tryz.prog default).heap.size) (Tryz.lays158_ren.t 208) (of_decide_eq_true (by kernel_rfl)) (by kernel_rfl) (by kernel_rfl) (by kernel_rfl)
  rw [← caseRanges_data] at h
  exact laidMet_perm (.cons _ (.cons _ (.cons _ (.cons _ (.cons _ (.cons _ (.swap _ _ _))))))) h
theorem reads (os : Os) {H : Type} (enc : TypeId × Value → H) : ∃ places, DataW.whole enc Tryz.prog ((laidWorld os).forCall (fun _ _ => 0) ⟨#[], #[.int .u32 0, .int .u8 0, .agg #[.int .u8 0, .int .u8 0, .int .u8 0, .int .u8 0]], []⟩).memory Tryz.f3.params.toList Rows.fourFormsSpec.vars false (#[.int .u32 0, .int .u8 0, .agg #[.int .u8 0, .int .u8 0, .int .u8 0, .int .u8 0]] : Array Value).toList 8 = some ([.lit (.int .u32 0), .lit (.int .u8 0), .agg [.lit (.int .u8 0), .lit (.int .u8 0), .lit (.int .u8 0), .lit (.int .u8 0)]], [], places) :=
  ⟨[], by kernel_rfl⟩

theorem readable : ∀ t ∈ Tryz.f3.params.toList, Tryz.prog.readableRec t = true ∧ t < Tryz.prog.types.size := by
  have h : (Tryz.f3.params.toList.all fun t => Tryz.prog.readableRec t && decide (t < Tryz.prog.types.size)) = true := by kernel_rfl
  intro t ht
  have h2 := List.all_eq_true.1 h t ht
  simpa using h2

set_option maxRecDepth 100000 in
/-- The contract. -/
theorem contract (H : Type) (enc : TypeId × Value → H) (W : World) (base : Nat) (args : Array Value) (ds gs : List (DataW H)) (before : List MemPlace)
    (hval : ∀ (j : Nat) t v, Tryz.f3.params[j]? = some t → args[j]? = some v → Value.okWide Tryz.prog W .any base t v)
    (hW : DataW.Whole enc Tryz.prog Tryz.f3.params.toList Rows.fourFormsSpec.vars false W args.toList ds gs before) (hsh : W.ShapedOpen Tryz.prog) (hlaid : laidMetH Tryz.prog Rows.fourFormsRow.laid W) :
    Calls Tryz.prog 3 args W fun e W' => ∃ v, e = .returned v ∧ Rows.fourFormsSpec.post enc Tryz.prog Tryz.f3 false true false false W args v W' := by
  have hW' := hW
  have hlt : ∀ p ∈ before, p.block < W.heap.size := fun p hp => hW.lt p hp
  obtain ⟨p, q, hA0, hV, rfl, hfz, hnd⟩ := hW
  obtain ⟨rfl, rfl⟩ := trodVars_none hV
  have hA1 : DataW.TrodAll enc Tryz.prog W 0 (fun _ => true) true Tryz.f3.params.toList args.toList ds p := hA0
  have hA := hA1
  rw [Tryz.params3] at hA hval
  obtain ⟨v0, vs0, d0, ds0, p0, q0, hargs0, rfl, rfl, h0, r0⟩ := trodAll_cons hA
  obtain ⟨v1, vs1, d1, ds1, p1, q1, hargs1, rfl, rfl, h1, r1⟩ := trodAll_cons r0
  obtain ⟨v2, vs2, d2, ds2, p2, q2, hargs2, rfl, rfl, h2, r2⟩ := trodAll_cons r1
  obtain ⟨rfl, rfl, rfl⟩ := trodAll_nil r2
  obtain rfl : args = #[v0, v1, v2] := by cases args; simp_all
  have hres : ∀ W', Below W.heap.size W W' → ∃ v, (.returned (.bool true) : Ending) = .returned v ∧ Rows.fourFormsSpec.post enc Tryz.prog Tryz.f3 false true false false W #[v0, v1, v2] v W' := by
    intro W' hb
    have e1 : Rows.fourFormsSpec.fn H ([d0, d1, d2] ++ []) = { results := [.lit (.bool true)], args := [d0, d1, d2] } := rfl
    refine ⟨_, rfl, _, _, _, [], (p0 ++ (p1 ++ (p2 ++ []))), [], hW', ?_, ?_, ?_, hb.frame _, fun h => by cases h⟩
    · rw [e1]; exact trodAll_mk1 (shut_bool Tryz.underlying4 _)
    · rw [e1]; exact all_stays readable hA1 (fun x hx => hb.same (hlt x (List.mem_append_left _ hx))) (fun x hx => by simpa using hlt x (List.mem_append_left _ hx))
    · rw [e1]; rfl
  obtain ⟨n0, rfl, rfl, rfl, wf0⟩ := open_int Tryz.underlying22 (hval 0 22 v0 rfl rfl) h0
  obtain ⟨x0, rfl, hx0⟩ := word_of_wf wf0
  obtain ⟨n1, rfl, rfl, rfl, wf1⟩ := open_int Tryz.underlying5 (hval 1 5 v1 rfl rfl) h1
  obtain ⟨x1, rfl⟩ := byte_of_wf wf1
  obtain ⟨g0, g1, g2, g3, rfl⟩ := open_how (hval 2 23 v2 rfl rfl) h2
  rw [MakeChecks.laidMetH_plain _ _ _ (by kernel_rfl)] at hlaid
  have hok : Ok W ∧ Tz W := okz_of_laid hsh hlaid (by simp [Rows.fourFormsRow]) (by simp [Rows.fourFormsRow]) (by simp [Rows.fourFormsRow]) (by simp [Rows.fourFormsRow])
  refine (fourForms_true x0 hx0 x1 g0 g1 g2 g3 W hok.1 hok.2).mono ?_
  rintro e W' ⟨rfl, hb⟩
  exact hres W' hb

set_option maxRecDepth 100000 in
theorem lifted (os : Os) (started : os.Started) (H : Type) (enc : TypeId × Value → H) (F : Stop.Interp) :
    ReturnsInHanded {} Tryz.checked os 3 .any ((OpenSpec.ofChange Rows.fourFormsSpec).preRow enc Tryz.prog Tryz.f3 Rows.fourFormsRow.domain false Rows.fourFormsRow.laid) (((OpenSpec.ofChange Rows.fourFormsSpec).at F).post enc Tryz.prog Tryz.f3 false true false false) := by
  obtain ⟨places, hx⟩ := reads os enc
  refine returnsInHanded_of_row (C := Tryz.checked) (s := OpenSpec.ofChange Rows.fourFormsSpec) Tryz.own started (by kernel_rfl) Tryz.func3
    (witness_row_atRef (enc := enc) (C := Tryz.checked) false (laidWorld os) #[.int .u32 0, .int .u8 0, .agg #[.int .u8 0, .int .u8 0, .int .u8 0, .int .u8 0]] rfl (by kernel_rfl) (by kernel_rfl) (by kernel_rfl)
      (OpenSpec.preRow_of_cond 8 hx (by kernel_rfl) (fun k hk => by cases hk) (by kernel_rfl) (laid_met os))) ?_
  intro W base args ds gs before hval hW _ _ _ hlaid hsh _
  exact contract H enc W base args ds gs before hval hW hsh hlaid

theorem said : Rows.FourFormsSaid :=
  OpenClaim.holds_of_cond 3 Tryz.f3 rfl rfl rfl rfl rfl rfl rfl ⟨rfl, rfl, rfl, rfl, rfl⟩ rfl rfl rfl rfl rfl (by kernel_rfl) Tryz.func3 (by kernel_rfl)
    (of_decide_eq_true (by kernel_rfl)) (by unfold Func.isWrapper; first | (rw [if_pos (by decide +kernel)]; kernel_rfl) | (rw [if_neg (by decide +kernel)]; exact ⟨rfl, rfl⟩))
    (fun os started H enc _ F => by rw [OpenClaim.pre_eq_preRow]; exact lifted os started H enc F)

/-- No parameter wants a stand-in; the program's own looks are off. -/
theorem plain (f : FuncId) (fn : Func) (hf : Tryz.pinned.checked.prog.funcNamed Rows.fourFormsRow.func = some f) (hfn : Tryz.pinned.checked.prog.funcs[f]? = some fn) :
    true = Tryz.pinned.checked.prog.looks [] ∧ ∀ (j : Nat) t, fn.params[j]? = some t → Tryz.pinned.checked.prog.wantsStandIn t = false := by
  obtain rfl : f = 3 := Option.some.inj ((show Tryz.prog.funcNamed Rows.fourFormsRow.func = some 3 by kernel_rfl).symm.trans hf) |>.symm
  obtain rfl : fn = Tryz.f3 := (Option.some.inj (Tryz.func3.symm.trans hfn)).symm
  refine ⟨by kernel_rfl, fun j t ht => ?_⟩
  have h : (Tryz.f3.params.all fun t => !Tryz.prog.wantsStandIn t) = true := by kernel_rfl
  have hm : t ∈ Tryz.f3.params := Array.mem_of_getElem? ht
  have h2 : Tryz.prog.wantsStandIn t = false := by simpa using Array.all_eq_true_iff_forall_mem.1 h t hm
  exact h2

theorem card : Rows.FourFormsCardSaid :=
  Claim7.holds_tied_plain_at .later [] _ _ _ _ said (fun _ h => by cases h) (by kernel_rfl) (fun _ h => by cases h) fourForms_row_tie rfl ⟨rfl, rfl⟩ (by kernel_rfl) rfl plain (by kernel_rfl)
#print axioms card
end Go.Proofs.YtmobeppmdakjmaaGreatDoor.fourForms
