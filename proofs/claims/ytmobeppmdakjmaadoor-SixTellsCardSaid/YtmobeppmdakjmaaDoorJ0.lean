/- strings.Join of a row of texts of the call's own. -/
import Derived.Test.YtmobeppmdakjmaaDoorM1
import Derived.Test.YtmobeppmdakjmaaDoorE1
import Derived.Test.YtmobeppmdakjmaaDoorS0
namespace Go.Proofs.YtmobeppmdakjmaaDoor
open Go.RowKit

theorem strV_set (ss : List (List UInt8)) (k : Nat) (p : List UInt8) : strV (ss.set k p) = (strV ss).set k (.string ⟨p.toArray⟩) := by
  unfold strV
  rw [List.map_set]
/-- strings.Join of a row of the call's own. -/
theorem join_own (xs : List (List UInt8)) (hne : 0 < xs.length) (v : Value) (w : World) (base : Nat) (hown : w.ownsRow base 9 1 v xs.length (strV xs)) (sep : List UInt8) (hlen : (Lib.join xs sep).length ≤ 1000000) (_hs : sep.length ≤ 1000000) (hx : xs.length ≤ 1000000) :
    Calls Tryd.prog 26 #[v, .string ⟨sep.toArray⟩] w fun e w' => e = .returned (.string ⟨(Lib.join xs sep).toArray⟩) ∧ Below w.heap.size w w' := by
  obtain ⟨A, c, rfl, hlc⟩ := own_slice_le hown
  have hrd := Rd.of_own hown
  obtain ⟨b, off, rfl, hb, _⟩ := hrd 0 _ (strV_get (List.getElem?_eq_getElem hne))
  have e : xs.map (fun l => (⟨l.toArray⟩ : ByteArray).data.toList) = xs := by simp
  have hcomp : (fun (x : ByteArray) => x.data.toList) ∘ (fun (l : List UInt8) => (⟨l.toArray⟩ : ByteArray)) = fun l => (⟨l.toArray⟩ : ByteArray).data.toList := rfl
  have hJ := Tryd.strings_Join b off c (xs.map fun l => (⟨l.toArray⟩ : ByteArray)) ⟨sep.toArray⟩ w (fun j y hy => by
    rw [List.getElem?_map, Option.map_eq_some_iff] at hy
    obtain ⟨l, hl, rfl⟩ := hy
    exact hrd.cell (strV_get hl)) hb (by simp; omega) (by simpa using hlc) (by rw [List.map_map, hcomp, e]; exact Nat.le_trans hlen (by decide))
  rw [List.map_map, List.length_map, hcomp, e] at hJ
  exact hJ
#print axioms join_own
end Go.Proofs.YtmobeppmdakjmaaDoor
