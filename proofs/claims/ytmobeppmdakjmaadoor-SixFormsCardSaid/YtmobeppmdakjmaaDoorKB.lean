/- The cards' kit: a slice of bytes that came in reads as a list of bytes. -/
import Derived.Test.YtmobeppmdakjmaaDoorK5
import Derived.ChangeSlices
namespace Go.Proofs.YtmobeppmdakjmaaDoor
open Go.ChangeShapes Go.WideShapes Go.ChangeAt Go.RowKit

theorem Tryd.cells5' : Tryd.prog.cellsOf 5 = 1 := by kernel_rfl
section
variable {H : Type} {enc : TypeId × Value → H} {W : World}
set_option maxRecDepth 100000 in
/-- A slice of bytes that came in. -/
theorem open_bytes {base : Nat} {v : Value} {d : DataW H} {ps : List MemPlace} (hval : Value.okWide Tryd.prog W .any base 41 v) (hd : DataW.Trod enc Tryd.prog W 0 (fun _ => true) true 41 v d ps) :
    ∃ (A : Option Addr) (nz : List UInt8) (cap : Nat), v = .slice A nz.length cap ∧ Rd W W.heap.size A (bytV nz) := by
  obtain ⟨a1, len, cap, rfl⟩ := okWide_slice Tryd.underlying41 hval
  obtain ⟨fuel, hf⟩ := hd
  rcases open_ints Tryd.underlying41 Tryd.underlying5 Tryd.cells5' hf with ⟨hcs, _⟩ | ⟨a, len', cap', zs, hcs, _, hl, _, hz, _, hcell, hwz⟩
  · simp [Value.cells] at hcs
    obtain ⟨rfl, rfl, rfl⟩ := hcs
    exact ⟨none, [], 0, rfl, Rd.nil _ _ _⟩
  · simp [Value.cells] at hcs
    obtain ⟨rfl, rfl, rfl⟩ := hcs
    simp only [if_true] at hz
    have hlen : ((zs.take len).map fun n => UInt8.ofNat n.toNat).length = len := by simp; omega
    refine ⟨some a, (zs.take len).map fun n => UInt8.ofNat n.toNat, cap, by rw [hlen], ?_⟩
    intro k u hu
    have hk : k < len := by
      have := (List.getElem?_eq_some_iff.1 hu).1
      rw [bytV_length, hlen] at this
      exact this
    obtain ⟨ab, ao, spot⟩ := a
    have hspot : spot = none := by simpa [Addr.add] using World.cell?_spot (hcell 0 (by omega))
    subst hspot
    have hcj := hcell k (by omega)
    rw [addr_add] at hcj
    refine ⟨ab, ao, rfl, World.block_lt_of_cell? W _ hcj, ?_⟩
    rw [hcj]
    have e : zs.getD k 0 = zs[k]'(by omega) := by simp [List.getD, List.getElem?_eq_getElem (show k < zs.length by omega)]
    obtain ⟨b, hb⟩ := byte_of_wf (hwz (zs[k]'(by omega)) (List.getElem_mem _))
    unfold bytV at hu
    rw [List.getElem?_map, List.getElem?_map, List.getElem?_take, if_pos hk, List.getElem?_eq_getElem (show k < zs.length by omega)] at hu
    simp only [Option.map_some, Option.some.injEq] at hu
    rw [← hu, e, hb]
    simp
end
#print axioms open_bytes
end Go.Proofs.YtmobeppmdakjmaaDoor
