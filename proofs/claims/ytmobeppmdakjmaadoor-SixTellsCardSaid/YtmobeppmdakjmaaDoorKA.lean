/- The card of SixTells. (Printed by card4.py.) -/
import Derived.Test.YtmobeppmdakjmaaDoorK0
import Derived.Test.YtmobeppmdakjmaaDoorK5
import Derived.Test.YtmobeppmdakjmaaDoorUZ
import Derived.Lib.LaidU8
namespace Go.Proofs.YtmobeppmdakjmaaDoor.sixTells
open Go.ChangeShapes Go.WideShapes Go.ChangeAt Go.RowKit
open Go.ChangeMaps (open_string)

/-- A world for the witness: the settled one, the listed tables as their initialisers lay them. -/
noncomputable def laidWorld (os : Os) : World :=
  let w0 := World.holding Tryd.prog os ⟨#[], #[], []⟩
  let put (h : Array Obj) (g : Nat) (cs : Array Value) : Array Obj := h.modify g fun
    | .cells _ t frozen => .cells cs t frozen
    | o => o
  let ints (d : DataW Unit) : List Value := match d with
    | .agg l => l.flatMap fun x => match x with
      | .lit (.int k z) => [Value.int k z]
      | .agg l2 => l2.flatMap fun y => match y with
        | .lit (.int k z) => [Value.int k z]
        | _ => []
      | _ => []
    | _ => []
  let text (d : DataW Unit) : ByteArray := match d with
    | .iface _ (.ptr (.agg [.lit (.string l)])) => ⟨l.toArray⟩
    | _ => ⟨#[]⟩
  let h1 := put w0.heap 5 (ints Rows.laid_unicode_utf8_first).toArray
  let h2 := put h1 6 (ints Rows.laid_unicode_utf8_acceptRanges).toArray
  let h3 := put h2 7 (ints Rows.laid_math_bits_deBruijn32tab).toArray
  let h4 := put h3 8 (ints Rows.laid_math_bits_deBruijn64tab).toArray
  let h5 := put h4 1 (ints Rows.laid_internal_strconv_uint64pow10).toArray
  let n := h5.size
  let h6 := put h5 4 #[.iface 166 (.pointer (some ⟨n, 0, none⟩))]
  let h7 := put h6 3 #[.iface 166 (.pointer (some ⟨n + 1, 0, none⟩))]
  let h8 := (h7.push (.cells #[.string (text Rows.laid_strconv_ErrRange)] 168)).push (.cells #[.string (text Rows.laid_strconv_ErrSyntax)] 168)
  { w0 with heap := h8 }
theorem laid_met (os : Os) : laidMet Tryd.prog Rows.sixTellsRow.laid ((laidWorld os).forCall (fun _ _ => 0) ⟨#[], #[.string ⟨#[]⟩, .agg #[.int .u16 0, .int .u16 0, .int .u16 0, .int .u16 0, .int .u16 0, .int .u16 0, .int .u16 0, .int .u16 0]], []⟩).memory :=
  laidMet_of_run' 8 (by kernel_rfl) (by kernel_rfl)
theorem reads (os : Os) {H : Type} (enc : TypeId × Value → H) : ∃ places, DataW.whole enc Tryd.prog ((laidWorld os).forCall (fun _ _ => 0) ⟨#[], #[.string ⟨#[]⟩, .agg #[.int .u16 0, .int .u16 0, .int .u16 0, .int .u16 0, .int .u16 0, .int .u16 0, .int .u16 0, .int .u16 0]], []⟩).memory Tryd.f6.params.toList Rows.sixTellsSpec.vars false (#[.string ⟨#[]⟩, .agg #[.int .u16 0, .int .u16 0, .int .u16 0, .int .u16 0, .int .u16 0, .int .u16 0, .int .u16 0, .int .u16 0]] : Array Value).toList 8 = some ([.lit (.string []), .agg [.lit (.int .u16 0), .lit (.int .u16 0), .lit (.int .u16 0), .lit (.int .u16 0), .lit (.int .u16 0), .lit (.int .u16 0), .lit (.int .u16 0), .lit (.int .u16 0)]], [], places) :=
  ⟨[], by kernel_rfl⟩

theorem readable : ∀ t ∈ Tryd.f6.params.toList, Tryd.prog.readableRec t = true ∧ t < Tryd.prog.types.size := by
  have h : (Tryd.f6.params.toList.all fun t => Tryd.prog.readableRec t && decide (t < Tryd.prog.types.size)) = true := by kernel_rfl
  intro t ht
  have h2 := List.all_eq_true.1 h t ht
  simpa using h2

set_option maxRecDepth 100000 in
/-- The contract. -/
theorem contract (H : Type) (enc : TypeId × Value → H) (W : World) (base : Nat) (args : Array Value) (ds gs : List (DataW H)) (before : List MemPlace)
    (hval : ∀ (j : Nat) t v, Tryd.f6.params[j]? = some t → args[j]? = some v → Value.okWide Tryd.prog W .any base t v)
    (hW : DataW.Whole enc Tryd.prog Tryd.f6.params.toList Rows.sixTellsSpec.vars false W args.toList ds gs before) (hsh : W.ShapedOpen Tryd.prog) (hlaid : laidMetH Tryd.prog Rows.sixTellsRow.laid W) :
    Calls Tryd.prog 6 args W fun e W' => ∃ v, e = .returned v ∧ Rows.sixTellsSpec.post enc Tryd.prog Tryd.f6 false true false false W args v W' := by
  have hW' := hW
  have hlt : ∀ p ∈ before, p.block < W.heap.size := fun p hp => hW.lt p hp
  obtain ⟨p, q, hA0, hV, rfl, hfz, hnd⟩ := hW
  obtain ⟨rfl, rfl⟩ := trodVars_none hV
  have hA1 : DataW.TrodAll enc Tryd.prog W 0 (fun _ => true) true Tryd.f6.params.toList args.toList ds p := hA0
  have hA := hA1
  rw [Tryd.params6] at hA hval
  obtain ⟨v0, vs0, d0, ds0, p0, q0, hargs0, rfl, rfl, h0, r0⟩ := trodAll_cons hA
  obtain ⟨v1, vs1, d1, ds1, p1, q1, hargs1, rfl, rfl, h1, r1⟩ := trodAll_cons r0
  obtain ⟨rfl, rfl, rfl⟩ := trodAll_nil r1
  obtain rfl : args = #[v0, v1] := by cases args; simp_all
  have hres : ∀ W', Below W.heap.size W W' → ∃ v, (.returned (.bool true) : Ending) = .returned v ∧ Rows.sixTellsSpec.post enc Tryd.prog Tryd.f6 false true false false W #[v0, v1] v W' := by
    intro W' hb
    have e1 : Rows.sixTellsSpec.fn H ([d0, d1] ++ []) = { results := [.lit (.bool true)], args := [d0, d1] } := rfl
    refine ⟨_, rfl, _, _, _, [], (p0 ++ (p1 ++ [])), [], hW', ?_, ?_, ?_, hb.frame _, fun h => by cases h⟩
    · rw [e1]; exact trodAll_mk1 (shut_bool Tryd.underlying4 _)
    · rw [e1]; exact all_stays readable hA1 (fun x hx => hb.same (hlt x (List.mem_append_left _ hx))) (fun x hx => by simpa using hlt x (List.mem_append_left _ hx))
    · rw [e1]; rfl
  obtain ⟨s0, rfl, rfl, rfl, ws0⟩ := open_string Tryd.underlying9 (hval 0 9 v0 rfl rfl) h0
  obtain ⟨x1, h8x1, hx1, rfl⟩ := open_addr (hval 1 44 v1 rfl rfl) h1
  rw [MakeChecks.laidMetH_plain _ _ _ (by kernel_rfl)] at hlaid
  have hok : Ok6 W := ok6_of_laid hsh hlaid (by simp [Rows.sixTellsRow]) (by simp [Rows.sixTellsRow]) (by simp [Rows.sixTellsRow]) (by simp [Rows.sixTellsRow])
  obtain ⟨⟨str0⟩⟩ := s0
  refine (sixTells_true str0 x1 h8x1 hx1 W hok).mono ?_
  rintro e W' ⟨rfl, hb⟩
  exact hres W' hb

set_option maxRecDepth 100000 in
theorem lifted (os : Os) (started : os.Started) (H : Type) (enc : TypeId × Value → H) (F : Stop.Interp) :
    ReturnsInHanded {} Tryd.checked os 6 .any ((OpenSpec.ofChange Rows.sixTellsSpec).preRow enc Tryd.prog Tryd.f6 Rows.sixTellsRow.domain false Rows.sixTellsRow.laid) (((OpenSpec.ofChange Rows.sixTellsSpec).at F).post enc Tryd.prog Tryd.f6 false true false false) := by
  obtain ⟨places, hx⟩ := reads os enc
  refine returnsInHanded_of_row (C := Tryd.checked) (s := OpenSpec.ofChange Rows.sixTellsSpec) Tryd.own started (by kernel_rfl) Tryd.func6
    (witness_row_at (enc := enc) (C := Tryd.checked) false (laidWorld os) #[.string ⟨#[]⟩, .agg #[.int .u16 0, .int .u16 0, .int .u16 0, .int .u16 0, .int .u16 0, .int .u16 0, .int .u16 0, .int .u16 0]] rfl (by kernel_rfl) (by kernel_rfl) (by kernel_rfl)
      (OpenSpec.preRow_of_cond 8 hx (by kernel_rfl) (fun k hk => by cases hk) (by kernel_rfl) (laid_met os))) ?_
  intro W base args ds gs before hval hW _ _ _ hlaid hsh _
  exact contract H enc W base args ds gs before hval hW hsh hlaid

theorem said : Rows.SixTellsSaid :=
  OpenClaim.holds_of_cond 6 Tryd.f6 rfl rfl rfl rfl rfl rfl rfl ⟨rfl, rfl, rfl, rfl, rfl⟩ rfl rfl rfl rfl rfl (by kernel_rfl) Tryd.func6 (by kernel_rfl)
    (of_decide_eq_true (by kernel_rfl)) (by unfold Func.isWrapper; first | (rw [if_pos (by decide +kernel)]; kernel_rfl) | (rw [if_neg (by decide +kernel)]; exact ⟨rfl, rfl⟩))
    (fun os started H enc _ F => by rw [OpenClaim.pre_eq_preRow]; exact lifted os started H enc F)

/-- No parameter wants a stand-in; the program's own looks are off. -/
theorem plain (f : FuncId) (fn : Func) (hf : Tryd.pinned.checked.prog.funcNamed Rows.sixTellsRow.func = some f) (hfn : Tryd.pinned.checked.prog.funcs[f]? = some fn) :
    true = Tryd.pinned.checked.prog.looks [] ∧ ∀ (j : Nat) t, fn.params[j]? = some t → Tryd.pinned.checked.prog.wantsStandIn t = false := by
  obtain rfl : f = 6 := Option.some.inj ((show Tryd.prog.funcNamed Rows.sixTellsRow.func = some 6 by kernel_rfl).symm.trans hf) |>.symm
  obtain rfl : fn = Tryd.f6 := (Option.some.inj (Tryd.func6.symm.trans hfn)).symm
  refine ⟨by kernel_rfl, fun j t ht => ?_⟩
  have h : (Tryd.f6.params.all fun t => !Tryd.prog.wantsStandIn t) = true := by kernel_rfl
  have hm : t ∈ Tryd.f6.params := Array.mem_of_getElem? ht
  have h2 : Tryd.prog.wantsStandIn t = false := by simpa using Array.all_eq_true_iff_forall_mem.1 h t hm
  exact h2

theorem card : Rows.SixTellsCardSaid :=
  Claim7.holds_tied_plain_at .later [] _ _ _ _ said (fun _ h => by cases h) (by kernel_rfl) (fun _ h => by cases h) sixTells_row_tie rfl ⟨rfl, rfl⟩ (by kernel_rfl) rfl plain (by kernel_rfl)
#print axioms card
end Go.Proofs.YtmobeppmdakjmaaDoor.sixTells
