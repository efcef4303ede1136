/- What the reference's walk keeps from code point to code point (no program in sight but for a row of the call's own). -/
import Derived.Test.YtpahiipfmccbiaaDoorG5
import Derived.Test.YtpahiipfmccbiaaDoorG4
import Derived.Test.YtpahiipfmccbiaaDoorP6
namespace Go.Proofs.YtpahiipfmccbiaaDoor
open Go.RowKit

theorem refDouble_is (l : List UInt8) (b : Bool) (h : double l = b) (w : World) (hs : l.length ≤ 1073741824) :
    Calls Tryd.prog 18 #[.string ⟨l.toArray⟩] w fun e w' => e = .returned (.bool b) ∧ w = w' := by
  subst h
  rw [double_dots]
  exact refDouble_any ⟨l.toArray⟩ w (by rw [size_str]; omega)
theorem refSingle_is (l : List UInt8) (b : Bool) (h : single l = b) (w : World) (hs : l.length ≤ 1073741824) :
    Calls Tryd.prog 17 #[.string ⟨l.toArray⟩] w fun e w' => e = .returned (.bool b) ∧ w = w' := by
  subst h
  rw [single_dots]
  exact refSingle_any ⟨l.toArray⟩ w (by rw [size_str]; omega)

theorem refSpecial_is (s : List UInt8) (b : Bool) (h : special s = b) (w : World) : Calls Tryd.prog 44 #[.string ⟨s.toArray⟩] w fun e w' => e = .returned (.bool b) ∧ w = w' := by
  subst h; exact refSpecial_any s w

/-- What is kept: the path so far, and the code points that are no part yet. -/
structure Kept (w : World) (name : List UInt8) (ls : List (List UInt8)) (rs : List Int) (k : Nat) (ls' : List (List UInt8)) (cur : List Int) : Prop where
  hk : k ≤ rs.length + 1
  lcur : cur.length ≤ k
  lls : ls'.length ≤ ls.length + k
  small : ∀ s ∈ ls', s.length ≤ 70368744177664
  go : k ≤ rs.length → walkGo name (special name) cur (rs.drop k) ls' = walk name ls rs
  fin : k = rs.length + 1 → ls' = walk name ls rs

section
variable {w : World} {name : List UInt8} {ls : List (List UInt8)} {rs : List Int} {k : Nat} {ls' : List (List UInt8)} {cur : List Int}
theorem Kept.start (hs : ∀ s ∈ ls, s.length ≤ 70368744177664) : Kept w name ls rs 0 ls [] :=
  ⟨Nat.zero_le _, Nat.le_refl _, Nat.le_refl _, hs, fun _ => by rw [List.drop_zero]; rfl, fun h => by omega⟩
theorem Kept.on (h : Kept w name ls rs k ls' cur) (hlt : k < rs.length) (hs : isSep (special name) rs[k] = false) : Kept w name ls rs (k + 1) ls' (cur ++ [rs[k]]) := by
  refine ⟨by omega, by have := h.lcur; simp; omega, by have := h.lls; omega, h.small, fun _ => ?_, fun e => by omega⟩
  have := h.go (by omega)
  rwa [List.drop_eq_getElem_cons hlt, walkGo, if_neg (by rw [hs]; decide)] at this
theorem Kept.sep (h : Kept w name ls rs k ls' cur) (hlt : k < rs.length) (hs : isSep (special name) rs[k] = true) (hr : rs.length ≤ 1048576) : Kept w name ls rs (k + 1) (putP name ls' cur false) [] := by
  refine ⟨by omega, Nat.zero_le _, by have := h.lls; have := putP_len name ls' cur false; omega, fun s hs => putP_mem2 h.small ?_ (by decide) hs, fun _ => ?_, fun e => by omega⟩
  · have := enc_le cur; have := h.lcur; omega
  · have := h.go (by omega)
    rwa [List.drop_eq_getElem_cons hlt, walkGo, if_pos hs] at this
theorem Kept.end_ (h : Kept w name ls rs k ls' cur) (he : k = rs.length) (hr : rs.length ≤ 1048576) : Kept w name ls rs (k + 1) (putP name ls' cur true) [] := by
  refine ⟨by omega, Nat.zero_le _, by have := h.lls; have := putP_len name ls' cur true; omega, fun s hs => putP_mem2 h.small ?_ (by decide) hs, fun e => by omega, fun _ => ?_⟩
  · have := enc_le cur; have := h.lcur; omega
  · have := h.go (by omega)
    rwa [he, List.drop_length, walkGo] at this
end
/-- The loop's state. -/
def Inv (w : World) (name : List UInt8) (ls : List (List UInt8)) (rs : List Int) (v buf i : Value) (wr : World) : Prop :=
  ∃ (k : Nat) (ls' : List (List UInt8)) (cur : List Int), Kept w name ls rs k ls' cur ∧ i = .int .i64 k ∧ buf = .string ⟨(enc cur).toArray⟩ ∧ wr.ownsRow w.heap.size 9 1 v ls'.length (strV ls') ∧ Below w.heap.size w wr
/-- What is handed on behind a part. -/
theorem Inv.put {w : World} {name : List UInt8} {ls : List (List UInt8)} {rs : List Int} {k : Nat} {ls' : List (List UInt8)} {cur : List Int} {last : Bool} (hK : Kept w name ls rs (k + 1) (putP name ls' cur last) [])
    {v : Value} {wr : World} {P : List (List UInt8)} {n : Nat} (hP : putP name ls' cur last = P) (ho : wr.ownsRow w.heap.size 9 1 v n (strV P)) (hb : Below w.heap.size w wr) : Inv w name ls rs v (.string ⟨#[]⟩) (.int .i64 ((k : Int) + 1)) wr := by
  have hn : n = P.length := by have := ho.1; rw [strV_length] at this; omega
  subst hn
  exact ⟨k + 1, _, [], hK, by simp, rfl, by rw [hP]; exact ho, hb⟩
#print axioms Inv.put
end Go.Proofs.YtpahiipfmccbiaaDoor
