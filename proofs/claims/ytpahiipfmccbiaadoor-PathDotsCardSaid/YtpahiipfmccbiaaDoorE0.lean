/- The cards' kit: arguments opened as rows that read, handed back as they were; a world for the witness. -/
import Derived.Test.YtpahiipfmccbiaaDoorM0
import Derived.Test.YtpahiipfmccbiaaDoorCards
import Derived.Test.YtpahiipfmccbiaaDoorTie
import Derived.WalkKit
import Derived.ProofKit
import Derived.OpenShut
import Derived.Deep.DeepHandedRow
import Derived.Lib.LaidTab
import Derived.SliceStrings
import Derived.Shelf.Vars
import Derived.WideKeyArgs
import Derived.Below
import Derived.ChangeSame
namespace Go.Proofs.YtpahiipfmccbiaaDoor
open Go.ChangeShapes Go.WideShapes Go.ChangeAt Go.RowKit

theorem Tryd.own : ownKnob Tryd.prog.godebug = none := by kernel_rfl
theorem Tryd.laidOut : laidOutB Tryd.prog = true := by kernel_rfl
theorem Tryd.cells21 : Tryd.prog.cellsOf 21 = 1 := by kernel_rfl
theorem Tryd.cells9 : Tryd.prog.cellsOf 9 = 1 := by kernel_rfl

section
variable {H : Type} {enc : TypeId × Value → H} {W W' : World}
theorem rd_of_cells {a : Addr} {xs : List Value} (h : ∀ k u, xs[k]? = some u → W.cell? (a.add k) = some u) : Rd W W.heap.size (some a) xs := by
  intro k u hu
  have h0 : ∃ u0, xs[0]? = some u0 := by
    have : 0 < xs.length := by have := (List.getElem?_eq_some_iff.1 hu).1; omega
    exact ⟨_, List.getElem?_eq_getElem this⟩
  obtain ⟨u0, h0⟩ := h0
  have hs := World.cell?_spot (h 0 u0 h0)
  obtain ⟨b, off, spot⟩ := a
  have hspot : spot = none := by simpa [Addr.add] using hs
  subst hspot
  have hc := h k u hu
  rw [addr_add] at hc
  refine ⟨b, off, rfl, ?_, hc⟩
  unfold World.cell? at hc
  split at hc
  · rename_i x hx
    exact (Array.getElem?_eq_some_iff.1 hx).1
  · cases hc

set_option maxRecDepth 100000 in
theorem open_runes {base : Nat} {v : Value} {d : DataW H} {ps : List MemPlace} (hv : Value.okWide Tryd.prog W .any base 22 v) (h : DataW.Trod enc Tryd.prog W 0 (fun _ => true) true 22 v d ps) :
    ∃ A rs c, v = .slice A (rs : List Int).length c ∧ rs.length ≤ c ∧ c ≤ 9223372036854775807 ∧ Rd W W.heap.size A (runV rs) := by
  obtain ⟨a0, len, cap, rfl⟩ := okWide_slice Tryd.underlying22 hv
  obtain ⟨fuel, hf⟩ := h
  rcases open_ints Tryd.underlying22 Tryd.underlying21 Tryd.cells21 hf with ⟨hcs, hx⟩ | ⟨a, len', cap', zs, hcs, _, hl, hm, hz, hx, hcell, hwz⟩
  · simp only [Value.cells] at hcs
    cases hcs
    exact ⟨none, [], 0, rfl, Nat.le_refl _, Nat.zero_le _, Rd.nil _ _ _⟩
  · simp only [Value.cells] at hcs
    cases hcs
    rw [if_pos rfl] at hz
    unfold maxLen at hm
    have hzl : (zs.take len).length = len := by rw [List.length_take]; omega
    refine ⟨some a, zs.take len, cap, by rw [hzl], by omega, by omega, rd_of_cells fun k u hu => ?_⟩
    have hk : k < len := by have := (List.getElem?_eq_some_iff.1 hu).1; simp [runV] at this; omega
    rw [hcell k (by omega)]
    simp only [runV, List.getElem?_map, List.getElem?_take, if_pos hk, List.getElem?_eq_getElem (show k < zs.length by omega), Option.map_some, Option.some.injEq] at hu
    rw [← hu, List.getD_eq_getElem?_getD, List.getElem?_eq_getElem (show k < zs.length by omega)]
    rfl

set_option maxRecDepth 100000 in
theorem open_texts {base : Nat} {v : Value} {d : DataW H} {ps : List MemPlace} (hv : Value.okWide Tryd.prog W .any base 24 v) (h : DataW.Trod enc Tryd.prog W 0 (fun _ => true) true 24 v d ps) :
    ∃ A ss c, v = .slice A (ss : List (List UInt8)).length c ∧ ss.length ≤ c ∧ c ≤ 9223372036854775807 ∧ Rd W W.heap.size A (strV ss) ∧ ∀ s ∈ ss, s.length ≤ 9223372036854775807 := by
  obtain ⟨a0, len, cap, rfl⟩ := okWide_slice Tryd.underlying24 hv
  obtain ⟨fuel, hf⟩ := h
  rcases open_strings Tryd.underlying24 Tryd.underlying9 Tryd.cells9 hf with ⟨hcs, hx⟩ | ⟨a, len', cap', zs, hcs, _, hl, hm, hz, hx, hcell, hwz⟩
  · simp only [Value.cells] at hcs
    cases hcs
    exact ⟨none, [], 0, rfl, Nat.le_refl _, Nat.zero_le _, Rd.nil _ _ _, fun s hs => by simp at hs⟩
  · simp only [Value.cells] at hcs
    cases hcs
    rw [if_pos rfl] at hz
    unfold maxLen at hm hwz
    have hzl : ((zs.take len).map fun s => s.data.toList).length = len := by rw [List.length_map, List.length_take]; omega
    refine ⟨some a, (zs.take len).map fun s => s.data.toList, cap, by rw [hzl], by omega, by omega, rd_of_cells fun k u hu => ?_, ?_⟩
    · have hk : k < len := by have := (List.getElem?_eq_some_iff.1 hu).1; simp [strV] at this; omega
      rw [hcell k (by omega)]
      simp only [strV, List.getElem?_map, List.getElem?_take, if_pos hk, List.getElem?_eq_getElem (show k < zs.length by omega), Option.map_some, Option.some.injEq] at hu
      rw [← hu, List.getD_eq_getElem?_getD, List.getElem?_eq_getElem (show k < zs.length by omega)]
      simp
    · intro s hs
      obtain ⟨b, hb, rfl⟩ := List.mem_map.1 hs
      exact hwz b (List.mem_of_mem_take hb)

/-- All arguments read as they did. -/
theorem all_stays {sp : Nat → Bool} : ∀ {ts : List TypeId} {vs : List Value} {ds : List (DataW H)} {ps : List MemPlace}, (∀ t ∈ ts, Tryd.prog.readableRec t = true ∧ t < Tryd.prog.types.size) →
    DataW.TrodAll enc Tryd.prog W 0 (fun _ => true) true ts vs ds ps → (∀ p ∈ ps, W.sameAt W' p) → (∀ p ∈ ps, sp p.block = true) → DataW.TrodAll enc Tryd.prog W' 0 sp true ts vs ds ps
  | [], [], [], _, _, h, _, _ => h
  | _ :: _, _ :: _, _ :: _, _, hT, ⟨p, q, h1, h2, e⟩, hs, hp =>
    ⟨p, q, WideElems.Trod_stays Tryd.laidOut (hT _ (List.mem_cons.2 (Or.inl rfl))).1 (hT _ (List.mem_cons.2 (Or.inl rfl))).2 h1 (fun x hx => hs x (by rw [e]; exact List.mem_append_left _ hx)) (fun x hx => hp x (by rw [e]; exact List.mem_append_left _ hx)),
      all_stays (fun t ht => hT t (List.mem_cons.2 (Or.inr ht))) h2 (fun x hx => hs x (by rw [e]; exact List.mem_append_right _ hx)) (fun x hx => hp x (by rw [e]; exact List.mem_append_right _ hx)), e⟩
end

/-- A byte that came in. -/
theorem byte_of_wf {n : Int} (h : (Lit.int .u8 n).wf = true) : ∃ u : UInt8, n = u.toNat := by
  simp only [Lit.wf, Bool.and_eq_true, decide_eq_true_eq] at h
  have h1 : 0 ≤ n := h.1
  have h2 : n ≤ 255 := h.2
  refine ⟨n.toNat.toUInt8, ?_⟩
  have : n.toNat.toUInt8.toNat = n.toNat := by
    show n.toNat % 256 = n.toNat
    omega
  rw [this]
  omega

/-- The library's variable MaxLen holds some number. -/
theorem mx_of_shaped {W : World} (h : W.ShapedOpen Tryd.prog) : Mx 0 W := by
  obtain ⟨m, hm⟩ := cell_of_shapedOpen_int (t := 3) (zero := #[.int .i64 0]) (k := .i64) h (of_decide_eq_true (by kernel_rfl)) (by kernel_rfl) rfl (by kernel_rfl) (by kernel_rfl) Tryd.underlying3
  refine ⟨?_, m, hm⟩
  unfold World.cell? at hm
  split at hm
  · rename_i x hx
    exact (Array.getElem?_eq_some_iff.1 hx).1
  · cases hm

#print axioms mx_of_shaped
end Go.Proofs.YtpahiipfmccbiaaDoor
