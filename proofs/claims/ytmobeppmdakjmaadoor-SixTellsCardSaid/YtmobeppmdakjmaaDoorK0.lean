/- The cards' kit: arguments opened as rows that read, handed back as they were; a world for the witness. -/
import Derived.Test.YtmobeppmdakjmaaDoorM0
import Derived.Test.YtmobeppmdakjmaaDoorCards
import Derived.Test.YtmobeppmdakjmaaDoorTie
import Derived.WalkKit
import Derived.ProofKit
import Derived.OpenShut
import Derived.Deep.DeepHandedRow
import Derived.Lib.LaidTab
import Derived.SliceStrings
import Derived.Shelf.Vars
import Derived.WideKeyArgs
import Derived.Below
import Derived.ChangeSame
import Derived.Lib.LaidU8
import Derived.LaidLaws
import Derived.Test.YtmobeppmdakjmaaDoorB3
namespace Go.Proofs.YtmobeppmdakjmaaDoor
open Go.ChangeShapes Go.WideShapes Go.ChangeAt Go.RowKit

theorem Tryd.own : ownKnob Tryd.prog.godebug = none := by kernel_rfl
theorem Tryd.laidOut : laidOutB Tryd.prog = true := by kernel_rfl
section
variable {H : Type} {enc : TypeId × Value → H} {W W' : World}
/-- All arguments read as they did. -/
theorem all_stays {sp : Nat → Bool} : ∀ {ts : List TypeId} {vs : List Value} {ds : List (DataW H)} {ps : List MemPlace}, (∀ t ∈ ts, Tryd.prog.readableRec t = true ∧ t < Tryd.prog.types.size) →
    DataW.TrodAll enc Tryd.prog W 0 (fun _ => true) true ts vs ds ps → (∀ p ∈ ps, W.sameAt W' p) → (∀ p ∈ ps, sp p.block = true) → DataW.TrodAll enc Tryd.prog W' 0 sp true ts vs ds ps
  | [], [], [], _, _, h, _, _ => h
  | _ :: _, _ :: _, _ :: _, _, hT, ⟨p, q, h1, h2, e⟩, hs, hp =>
    ⟨p, q, WideElems.Trod_stays Tryd.laidOut (hT _ (List.mem_cons.2 (Or.inl rfl))).1 (hT _ (List.mem_cons.2 (Or.inl rfl))).2 h1 (fun x hx => hs x (by rw [e]; exact List.mem_append_left _ hx)) (fun x hx => hp x (by rw [e]; exact List.mem_append_left _ hx)),
      all_stays (fun t ht => hT t (List.mem_cons.2 (Or.inr ht))) h2 (fun x hx => hs x (by rw [e]; exact List.mem_append_right _ hx)) (fun x hx => hp x (by rw [e]; exact List.mem_append_right _ hx)), e⟩
end

/-- A byte that came in. -/
theorem byte_of_wf {n : Int} (h : (Lit.int .u8 n).wf = true) : ∃ u : UInt8, n = u.toNat := by
  simp only [Lit.wf, Bool.and_eq_true, decide_eq_true_eq] at h
  have h1 : 0 ≤ n := h.1
  have h2 : n ≤ 255 := h.2
  refine ⟨n.toNat.toUInt8, ?_⟩
  have : n.toNat.toUInt8.toNat = n.toNat := by
    show n.toNat % 256 = n.toNat
    omega
  rw [this]
  omega

/-- The library's variable MaxLen holds some number. -/
theorem mx_of_shaped {W : World} (h : W.ShapedOpen Tryd.prog) : Mx 0 W := by
  obtain ⟨m, hm⟩ := cell_of_shapedOpen_int (t := 3) (zero := #[.int .i64 0]) (k := .i64) h (of_decide_eq_true (by kernel_rfl)) (by kernel_rfl) rfl (by kernel_rfl) (by kernel_rfl) Tryd.underlying3
  refine ⟨?_, m, hm⟩
  unfold World.cell? at hm
  split at hm
  · rename_i x hx
    exact (Array.getElem?_eq_some_iff.1 hx).1
  · cases hm

/-- An address that came in. -/
theorem word_of_wf {n : Int} (h : (Lit.int .u32 n).wf = true) : ∃ u : Nat, n = u ∧ u < 4294967296 := by
  simp only [Lit.wf, Bool.and_eq_true, decide_eq_true_eq] at h
  have h1 : 0 ≤ n := h.1
  have h2 : n ≤ 4294967295 := h.2
  exact ⟨n.toNat, by omega, by omega⟩
theorem iface_reads {W : World} {n : String} {g t : Nat} {ms : Array (String × TypeId)} {name : String} {d : DataW Unit} (hg : Tryd.prog.globalNamed n = some g) (ht : (Tryd.prog.globals[g]?).map (·.type) = some t) (hi : Tryd.prog.underlying t = some (.interface ms))
    (h : Lib.VarReads Tryd.prog W n (.iface name d)) : ∃ te pe, W.cell? ⟨g, 0, none⟩ = some (.iface te pe) := by
  obtain ⟨g', t', cs, fuel, p, hg', ht', hvar, hd⟩ := h
  obtain rfl := Option.some.inj (hg.symm.trans hg')
  obtain rfl := Option.some.inj (ht.symm.trans ht')
  have hc := World.var?_cell hg hvar 0
  obtain ⟨_, u, v, hcs, _, _⟩ := iface_of_trod hi hd
  refine ⟨u, v, ?_⟩
  rw [hc, ← Array.getElem?_toList, hcs]; rfl
/-- What the library's variables hold, from the row's list. -/
theorem ok_of_laid {W : World} {l : List (String × DataW Unit)} (hsh : W.ShapedOpen Tryd.prog) (h : laidMet Tryd.prog l W) (h1 : ("strconv.ErrSyntax", Rows.laid_strconv_ErrSyntax) ∈ l) (h2 : ("strconv.ErrRange", Rows.laid_strconv_ErrRange) ∈ l)
    (h3 : ("internal/strconv.uint64pow10", Rows.laid_internal_strconv_uint64pow10) ∈ l) : Ok W := by
  refine ⟨mx_of_shaped hsh, ?_, ?_, ?_⟩
  · exact iface_reads (g := 3) (t := 65) (by kernel_rfl) (by kernel_rfl) Tryd.underlying65 (Lib.laidMet.reads h h1)
  · exact iface_reads (g := 4) (t := 65) (by kernel_rfl) (by kernel_rfl) Tryd.underlying65 (Lib.laidMet.reads h h2)
  · obtain ⟨g', t', cs, fuel, p, hg', ht', hvar, hd⟩ := Lib.laidMet.reads h h3
    obtain rfl := Option.some.inj ((show Tryd.prog.globalNamed "internal/strconv.uint64pow10" = some 1 by kernel_rfl).symm.trans hg')
    obtain rfl := Option.some.inj ((show (Tryd.prog.globals[1]?).map (·.type) = some 143 by kernel_rfl).symm.trans ht')
    have hd' : DataW.trod (fun _ => ()) Tryd.prog W 0 (fun _ => true) false fuel 143 cs.toList = some (Lib.tabData .u64 Lib.pow10Tab, p) := hd
    unfold Lib.TabIs
    rw [hvar, ← Lib.cells_of_tab Tryd.underlying143 Tryd.underlying24 (by kernel_rfl) (by kernel_rfl) hd']
#print axioms mx_of_shaped
end Go.Proofs.YtmobeppmdakjmaaDoor
