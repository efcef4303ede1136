/- Walks: a text's pieces, its parts, whether it ends in a number. -/
import Derived.Test.YtmobeppmdakjmaaDoorB3
import Derived.Test.YtmobeppmdakjmaaDoorP2
namespace Go.Proofs.YtmobeppmdakjmaaDoor
open Go.RowKit

theorem split_any (c : UInt8) (l : List UInt8) (hl : l.length ≤ 1000000) (w : World) (ho : Ok w) :
    Calls Tryd.prog 21 #[.string ⟨l.toArray⟩, .string ⟨#[c]⟩] w fun e w' => e = .returned (.slice (some ⟨w.heap.size, 0, none⟩) (splitC c [] l).length (splitC c [] l).length) ∧ w' = w.alloc (.cells (strV (splitC c [] l)).toArray 9) := by
  obtain ⟨m, hm⟩ := ho.mx.2
  refine (Tryd.strings_Split ⟨l.toArray⟩ ⟨#[c]⟩ m w (by rw [size_str]; omega) hm (Nat.le_refl 1)).mono ?_
  rintro e w' ⟨rfl, rfl⟩
  have h := splitB_cells c l
  have hlen : Lib.countB ⟨l.toArray⟩ ⟨#[c]⟩ + 1 = (splitC c [] l).length := by
    have := congrArg List.length h
    simp only [List.length_map] at this
    rw [← this, Lib.splitB_all ⟨#[c]⟩ (Nat.le_refl 1) 0 _ _ rfl]
  rw [h, hlen]
  exact ⟨rfl, rfl⟩

/-- What a call leaves that hands back a row of texts that reads so. -/
def MadeR (xs : List (List UInt8)) (w : World) (en : Ending) (w' : World) : Prop :=
  ∃ A c, en = .returned (.slice A xs.length c) ∧ Rd w' w'.heap.size A (strV xs) ∧ xs.length ≤ c ∧ Below w.heap.size w w'

theorem parts4_one {s : List UInt8} (h : (splitD [] s).length = 1) : parts4 s = splitD [] s := by
  unfold parts4
  exact if_neg (by rw [h]; simp)
theorem parts4_drop {s : List UInt8} (h : 1 < (splitD [] s).length) (hl : (splitD [] s).getLast? = some []) : parts4 s = (splitD [] s).dropLast := by
  unfold parts4
  exact if_pos ⟨h, hl⟩
theorem parts4_all {s : List UInt8} (hl : (splitD [] s).getLast? ≠ some []) : parts4 s = splitD [] s := by
  unfold parts4
  exact if_neg (fun h => hl h.2)

set_option maxHeartbeats 2000000 in
set_option maxRecDepth 100000 in
theorem parts_any (s : List UInt8) (hl : s.length ≤ 1000000) (w : World) (ho : Ok w) : Calls Tryd.prog 51 #[.string ⟨s.toArray⟩] w (MadeR (parts4 s) w) := by
  have Hs := Lib.hid (split_any 46 s hl w ho)
  rw [splitC_46] at Hs
  have hne : splitD [] s ≠ [] := by rw [← splitC_46]; exact splitC_ne 46 s []
  have hlen : (splitD [] s).length ≤ s.length + 1 := by rw [← splitC_46]; exact splitC_len 46 s []
  have H1 := Lib.hid (fun h => parts4_one (s := s) h)
  have H2 := Lib.hid (fun h hl => parts4_drop (s := s) h hl)
  have H3 := Lib.hid (fun hl => parts4_all (s := s) hl)
  generalize splitD [] s = P at *
  have hrd := Lib.hid (rd_new w (strV P) 9)
  have hb : Hid (Below w.heap.size w (w.alloc (.cells (strV P).toArray 9))) := (Below.refl _ w).alloc (Nat.le_refl _) _
  have hp : 0 < P.length := List.length_pos_iff.2 hne
  by_cases h1 : P.length = 1
  · have he := Lib.hid (H1.out h1)
    have f1 : ¬ (0 : Int) < (P.length : Int) - 1 := by omega
    clear hne h1 H1 H2 H3
    go_enter Tryd.func51, Tryd.ntmps51
    go_wp2_with (go_at_call 21; refine Hs.out.mono ?_; rintro e w' ⟨rfl, rfl⟩)
    go_ret
    rw [he.out]
    exact ⟨_, _, rfl, hrd.out.more (by simp), Nat.le_refl _, hb.out⟩
  have f1 : (0 : Int) < (P.length : Int) - 1 := by omega
  have hk : P.length - 1 < P.length := by omega
  have hcell : (w.alloc (.cells (strV P).toArray 9)).cell? ⟨w.heap.size, P.length - 1, none⟩ = some (.string ⟨P[P.length - 1].toArray⟩) := by
    have := hrd.out.cell (strV_get (List.getElem?_eq_getElem hk))
    rwa [Nat.zero_add] at this
  have hlast : P.getLast? = some P[P.length - 1] := by rw [List.getLast?_eq_getElem?, List.getElem?_eq_getElem hk]
  have hfz : True := trivial
  clear hfz
  by_cases h0 : P[P.length - 1] = []
  · have f2 : (P[P.length - 1] == ([] : List UInt8)) = true := by rw [h0]; rfl
    have he := Lib.hid (H2.out (by omega) (by rw [hlast, h0]))
    have hd : Hid (P.dropLast.length = P.length - 1) := List.length_dropLast
    have hrt : Hid (Rd (w.alloc (.cells (strV P).toArray 9)) (w.heap.size + 1) (some ⟨w.heap.size, 0, none⟩) (strV P.dropLast)) := by
      have := hrd.out.take (P.length - 1)
      rw [strV, ← List.map_take] at this
      show Rd _ _ _ _
      rw [List.dropLast_eq_take]
      exact this
    clear hne h1 H1 H2 H3 h0 hlast
    go_enter Tryd.func51, Tryd.ntmps51
    go_wp2_with (go_at_call 21; refine Hs.out.mono ?_; rintro e w' ⟨rfl, rfl⟩)
    go_ret
    rw [he.out]
    exact ⟨_, _, by rw [hd.out]; rfl, hrt.out.more (by simp), by rw [hd.out]; omega, hb.out⟩
  · have f2 : (P[P.length - 1] == ([] : List UInt8)) = false := by rw [beq_eq_false_iff_ne]; exact h0
    have he := Lib.hid (H3.out (by rw [hlast]; intro e; injection e with e; exact h0 e))
    clear hne h1 H1 H2 H3 h0 hlast
    go_enter Tryd.func51, Tryd.ntmps51
    go_wp2_with (go_at_call 21; refine Hs.out.mono ?_; rintro e w' ⟨rfl, rfl⟩)
    go_ret
    rw [he.out]
    exact ⟨_, _, rfl, hrd.out.more (by simp), Nat.le_refl _, hb.out⟩

theorem parts4_ne (s : List UInt8) : parts4 s ≠ [] := by
  have hne : splitD [] s ≠ [] := by rw [← splitC_46]; exact splitC_ne 46 s []
  unfold parts4
  dsimp only
  split
  · rename_i h
    intro e
    have := congrArg List.length e
    simp at this
    omega
  · exact hne
theorem parts4_mem {s p : List UInt8} (h : p ∈ parts4 s) : p.length ≤ s.length := by
  have hm : p ∈ splitD [] s := by
    unfold parts4 at h
    dsimp only at h
    split at h
    · rw [List.dropLast_eq_take] at h; exact List.mem_of_mem_take h
    · exact h
  rw [← splitC_46] at hm
  have := splitC_mem 46 s [] p hm
  simpa using this
theorem parts4_len (s : List UInt8) : (parts4 s).length ≤ s.length + 1 := by
  have hlen : (splitD [] s).length ≤ s.length + 1 := by rw [← splitC_46]; exact splitC_len 46 s []
  unfold parts4
  dsimp only
  split
  · simp; omega
  · exact hlen
theorem number_is (s : List UInt8) (o : Option Nat) (h : number4 s = o) (hl : s.length ≤ 1000000) (w : World) (ho : Ok w) :
    Calls Tryd.prog 13 #[.string ⟨s.toArray⟩] w fun e w' => e = .returned (numV o) ∧ Below w.heap.size w w' := by
  subst h; exact number_any s hl w ho

set_option maxHeartbeats 2000000 in
set_option maxRecDepth 100000 in
theorem ends_any (s : List UInt8) (hl : s.length ≤ 1000000) (w : World) (ho : Ok w) :
    Calls Tryd.prog 17 #[.string ⟨s.toArray⟩] w fun e w' => e = .returned (.bool (ends4 s)) ∧ Below w.heap.size w w' := by
  have Hp := Lib.hid (parts_any s hl w ho)
  have hne := parts4_ne s
  have hpl := parts4_len s
  have hpos : 0 < (parts4 s).length := List.length_pos_iff.2 hne
  have hk : (parts4 s).length - 1 < (parts4 s).length := by omega
  have hlast : (parts4 s).getLast? = some (parts4 s)[(parts4 s).length - 1] := by rw [List.getLast?_eq_getElem?, List.getElem?_eq_getElem hk]
  have hml := parts4_mem (List.getElem_mem hk)
  have He : Hid (ends4 s = ((parts4 s)[(parts4 s).length - 1] != [] && ((number4 (parts4 s)[(parts4 s).length - 1]).isSome || digitsB 10 (parts4 s)[(parts4 s).length - 1]))) := by
    show _ = _
    unfold ends4
    rw [hlast]
  have Hc : Hid (∀ (W : World) (A : Option Addr), Rd W W.heap.size A (strV (parts4 s)) → ∃ b off, A = some ⟨b, off, none⟩ ∧ W.cell? ⟨b, off + ((parts4 s).length - 1), none⟩ = some (.string ⟨(parts4 s)[(parts4 s).length - 1].toArray⟩)) := by
    intro W A hr
    obtain ⟨b, off, rfl, _, hc⟩ := hr _ _ (strV_get (List.getElem?_eq_getElem hk))
    exact ⟨b, off, rfl, hc⟩
  generalize (parts4 s)[(parts4 s).length - 1] = p at *
  have Ho := Lib.hid ho
  clear hne hlast ho
  obtain ⟨o, hno⟩ : ∃ o, number4 p = o := ⟨_, rfl⟩
  have Hn := Lib.hid hno
  rw [hno] at He
  obtain ⟨d, hd⟩ : ∃ d, digitsB 10 p = d := ⟨_, rfl⟩
  have Hd := Lib.hid hd
  rw [hd] at He
  clear hno hd
  go_enter Tryd.func17, Tryd.ntmps17
  go_wp2_with (go_at_call 51; refine Hp.out.mono ?_)
  rintro e w1 ⟨A, c, rfl, hrd, hc, hb1⟩
  obtain ⟨b, off, rfl, hcell⟩ := Hc.out w1 A hrd
  have ho1 := Lib.hid (Ho.out.below hb1)
  have hfin : Hid (∀ x : Bool, (p == ([] : List UInt8)) = x → ends4 s = (!x && (o.isSome || d))) := by
    intro x hx
    rw [He.out, bne, hx]
  clear hrd
  go_wp2_with fail
  refine (number_is p o Hn.out (by omega) w1 ho1.out).mono ?_
  rintro e w2 ⟨rfl, hb2⟩
  by_cases h0 : p = []
  · have hf := Lib.hid (hfin.out true (by rw [h0]; rfl))
    subst h0
    cases o
    all_goals
      simp only [numV]
      go_wp2
      go_ret
      exact ⟨ret_bool (by rw [hf.out]; rfl), hb1.trans (hb2.mono hb1.size)⟩
  · have hf := Lib.hid (hfin.out false (by rw [beq_eq_false_iff_ne]; exact h0))
    cases o with
    | some n =>
      simp only [numV]
      go_wp2
      go_ret
      exact ⟨ret_bool (by rw [hf.out]; simp [h0]), hb1.trans (hb2.mono hb1.size)⟩
    | none =>
      simp only [numV]
      go_wp2_with (go_at_call 47; refine (digits_is 10 (.inr (.inl rfl)) p d Hd.out _).mono ?_; rintro e w3 ⟨rfl, hb3⟩)
      go_ret
      exact ⟨ret_bool (by rw [hf.out]; simp [h0]), (hb1.trans (hb2.mono hb1.size)).trans (hb3.mono (Nat.le_trans hb1.size hb2.size))⟩
#print axioms ends_any
end Go.Proofs.YtmobeppmdakjmaaDoor
