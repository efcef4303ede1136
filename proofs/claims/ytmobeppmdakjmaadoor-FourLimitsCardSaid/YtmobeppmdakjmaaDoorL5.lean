/- Walk: the closure of FourLimits: the parts with one put in the place of another. -/
import Derived.Test.YtmobeppmdakjmaaDoorL4
import Derived.Test.YtmobeppmdakjmaaDoorN1
import Derived.Test.YtmobeppmdakjmaaDoorE1
namespace Go.Proofs.YtmobeppmdakjmaaDoor
open Go.RowKit

theorem strV_set (ss : List (List UInt8)) (k : Nat) (p : List UInt8) : strV (ss.set k p) = (strV ss).set k (.string ⟨p.toArray⟩) := by
  unfold strV
  rw [List.map_set]
/-- strings.Join of a row of the call's own. -/
theorem join_own (xs : List (List UInt8)) (hne : 0 < xs.length) (v : Value) (w : World) (base : Nat) (hown : w.ownsRow base 9 1 v xs.length (strV xs)) (sep : List UInt8) (hlen : (Lib.join xs sep).length ≤ 1000000) (hs : sep.length ≤ 1000000) (hx : xs.length ≤ 1000000) :
    Calls Tryd.prog 26 #[v, .string ⟨sep.toArray⟩] w fun e w' => e = .returned (.string ⟨(Lib.join xs sep).toArray⟩) ∧ Below w.heap.size w w' := by
  obtain ⟨A, c, rfl, hlc⟩ := own_slice_le hown
  have hrd := Rd.of_own hown
  obtain ⟨b, off, rfl, hb, _⟩ := hrd 0 _ (strV_get (List.getElem?_eq_getElem hne))
  have e : xs.map (fun l => (⟨l.toArray⟩ : ByteArray).data.toList) = xs := by simp
  have hcomp : (fun (x : ByteArray) => x.data.toList) ∘ (fun (l : List UInt8) => (⟨l.toArray⟩ : ByteArray)) = fun l => (⟨l.toArray⟩ : ByteArray).data.toList := rfl
  have hJ := Tryd.strings_Join b off c (xs.map fun l => (⟨l.toArray⟩ : ByteArray)) ⟨sep.toArray⟩ w (fun j y hy => by
    rw [List.getElem?_map, Option.map_eq_some_iff] at hy
    obtain ⟨l, hl, rfl⟩ := hy
    exact hrd.cell (strV_get hl)) hb (by simp; omega) (by simpa using hlc) (by rw [List.map_map, hcomp, e]; exact Nat.le_trans hlen (by decide))
  rw [List.map_map, List.length_map, hcomp, e] at hJ
  exact hJ
set_option maxHeartbeats 4000000 in
set_option maxRecDepth 100000 in
theorem with_any (ss : List (List UInt8)) (k : Nat) (hk : k < ss.length) (h8 : ss.length ≤ 8) (p : List UInt8) (hlens : (Lib.join (ss.set k p) [46]).length ≤ 1000000) (w : World) (L K : Nat) (A : Option Addr) (c : Nat)
    (hL : w.cell? ⟨L, 0, none⟩ = some (.slice A ss.length c)) (hrd : Rd w w.heap.size A (strV ss)) (hK : w.cell? ⟨K, 0, none⟩ = some (.int .i64 (k : Int))) :
    Calls Tryd.prog 25 #[.string ⟨p.toArray⟩, .pointer (some ⟨L, 0, none⟩), .pointer (some ⟨K, 0, none⟩)] w fun e w' => e = .returned (.string ⟨(Lib.join (ss.set k p) [46]).toArray⟩) ∧ Below w.heap.size w w' := by
  obtain ⟨i0, hi, hz0, hz1, hz2⟩ := info_parts Tryd.info9
  have hLs := World.block_lt_of_cell? w _ hL
  have hKs := World.block_lt_of_cell? w _ hK
  have hown0 : (w.alloc (.cells #[] 9)).ownsRow w.heap.size 9 1 (.slice (some ⟨w.heap.size, 0, none⟩) 0 0) 0 [] := World.ownsRow_lit w #[] 0 (Nat.le_refl _) (by decide) rfl
  have hrd0 : Rd (w.alloc (.cells #[] 9)) w.heap.size A (strV ss) := hrd.alloc (Nat.le_refl _) _
  have Hown0 := Lib.hid hown0
  have Hrd0 := Lib.hid hrd0
  have hsl := strV_length ss
  have hb0 : Below w.heap.size w (w.alloc (.cells #[] 9)) := (Below.refl _ w).alloc (Nat.le_refl _) _
  clear hrd hown0 hrd0
  go_enter Tryd.func25, Tryd.ntmps25
  go_wp2_with (at_builtin; refine wpList_append_rd _ rfl _ _ 33 rfl w.heap.size 9 i0 (.string ⟨#[]⟩) 16 Tryd.underlying33 hi hz0 hz1 hz2 rfl _ 0 [] rfl Hown0.out w.heap.size A c (strV ss) (by rw [strV_length]; rfl) Hrd0.out (strV_one ss) (by unfold maxLen; omega) (by omega) (by simp) ?_)
  intro v' w1 hown1 hg1 _
  have hgb : (w.alloc (.cells #[] 9)).grownBy w1 (some w.heap.size) := hg1
  have hB1 : Below w.heap.size w w1 := hb0.grown hgb (by simp) (fun j e => by injection e with e; omega)
  obtain ⟨A1, c1, rfl, hlc⟩ := own_slice_le hown1
  obtain ⟨g, off, rfl, hgl, hcell⟩ := Rd.of_own hown1 k _ (strV_get (List.getElem?_eq_getElem hk))
  obtain ⟨hgw, _⟩ := hown1.lt g rfl
  have hoff : off = 0 := by
    rcases hown1.2 with ⟨h', _⟩ | ⟨g', cap', cur, h', _⟩
    · simp at h'
    · simp only [Value.slice.injEq, Option.some.injEq, Addr.mk.injEq] at h'
      exact h'.1.2.1
  subst hoff
  have hfz := hown1.frozenAt k
  have hKc : w1.cell? ⟨K, 0, none⟩ = some (.int .i64 (k : Int)) := (hB1.cell (p := ⟨K, 0, none⟩) hKs).trans hK
  obtain ⟨hst, hgs⟩ := hown1.stored k (.string ⟨p.toArray⟩)
  rw [← strV_set] at hst
  have hlen : ss.length = (ss.set k p).length := List.length_set.symm
  rw [hlen] at hst
  have hB2 : Below w.heap.size w (w1.setCell ⟨g, k, none⟩ (.string ⟨p.toArray⟩)) := hB1.setCell hgw _
  have hkl : (k : Int) < (ss.length : Int) := by omega
  have HJ := Lib.hid (join_own (ss.set k p) (by omega) _ _ _ hst [46] hlens (by decide) (by omega))
  rw [← hlen] at HJ
  rw [Nat.zero_add] at hcell
  clear hst hgs hlen Hown0 Hrd0 hg1 hgb hown1 hb0 hB1 hL hK hsl
  go_wp2_with fail
  refine HJ.out.mono ?_
  rintro e w2 ⟨rfl, hb⟩
  go_wp2
  go_ret
  exact ⟨rfl, hB2.trans (hb.mono hB2.size)⟩
#print axioms with_any
end Go.Proofs.YtmobeppmdakjmaaDoor
