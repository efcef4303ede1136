/- Walk: six.pieces: the pieces of a text. Plain law: strings.Cut at '::'; the pieces laid into an address. -/
import Derived.Test.YtmobeppmdakjmaaDoorQ7
import Derived.Laws.CopyOwn
namespace Go.Proofs.YtmobeppmdakjmaaDoor
open Go.RowKit

theorem pieces_none (last : Bool) {p : List UInt8} {t : List (List UInt8)} {vs : List Nat} (hni : (if last = true ∧ t = [] then inner6 p else none) = none) (h : piece6 p = none) : (pieces6 last (p :: t)).map (vs ++ ·) = none := by
  rw [pieces6, hni, h]
  rfl
theorem pieces_some (last : Bool) {p : List UInt8} {t : List (List UInt8)} {n : Nat} (hni : (if last = true ∧ t = [] then inner6 p else none) = none) (h : piece6 p = some n) : pieces6 last (p :: t) = (pieces6 last t).map (n :: ·) := by
  rw [pieces6, hni, h]
  cases pieces6 last t <;> rfl
theorem pieces_inner {p : List UInt8} {l : List Nat} (h : inner6 p = some l) : pieces6 true [p] = some l := by
  rw [pieces6, if_pos ⟨rfl, rfl⟩, h]
theorem Tryd.info43 : (Tryd.prog.info? 43).map (fun i => (i.zero, i.size, i.bytes)) = some (some (.int .u16 0), 1, 2) := by kernel_rfl
theorem inner_two {s : List UInt8} {l : List Nat} (h : inner6 s = some l) : l.length = 2 := by
  unfold inner6 at h
  split at h
  · split at h
    · injection h with h; subst h; rfl
    · cases h
  · cases h
/-- What six.pieces hands back: nothing is an empty row. -/
def PiecesV (o : Option (List Nat)) (w : World) (e : Ending) (w' : World) : Prop := PartV o w e w'
set_option maxHeartbeats 8000000 in
set_option maxRecDepth 100000 in
theorem pieces_any (s : List UInt8) (last : Bool) (hl : s.length ≤ 100000) (w : World) (ho : Ok w) :
    Calls Tryd.prog 62 #[.string ⟨s.toArray⟩, .bool last] w (PartV (piecesOf last s) w) := by
  obtain ⟨i0, hi, hz0, hz1, hz2⟩ := info_parts Tryd.info43
  by_cases h0 : s = []
  · have f1 : (s == ([] : List UInt8)) = true := by rw [h0]; rfl
    have hr : Hid (piecesOf last s = some []) := by show _ = _; unfold piecesOf; rw [if_pos h0]
    clear h0
    go_enter Tryd.func62, Tryd.ntmps62
    go_wp2
    go_ret2
    rw [hr.out]
    exact ⟨none, 0, rfl, Rd.nil _ _ _, Nat.le_refl _, Below.refl _ _⟩
  have f1 : (s == ([] : List UInt8)) = false := by rw [beq_eq_false_iff_ne]; exact h0
  have hpo : Hid (piecesOf last s = pieces6 last (splitC 58 [] s)) := by show _ = _; unfold piecesOf; rw [if_neg h0]
  have Hs := Lib.hid (split_any 58 s (by omega) w ho)
  have hmem : ∀ p ∈ splitC 58 [] s, p.length ≤ 1000000 := fun p hp => by
    have := splitC_mem 58 s [] p hp
    simp only [List.length_nil] at this
    omega
  have hPl := splitC_len 58 s []
  generalize splitC 58 [] s = P at *
  have hP5 : P.length ≤ 100001 := by omega
  have hrd := Lib.hid (rd_new w (strV P) 9)
  have hb : Below w.heap.size w (w.alloc (.cells (strV P).toArray 9)) := (Below.refl _ w).alloc (Nat.le_refl _) _
  have Hb := Lib.hid hb
  have Ho := Lib.hid (ho.below hb)
  have Hmem := Lib.hid hmem
  have hsz : (w.alloc (.cells (strV P).toArray 9)).heap.size = w.heap.size + 1 := by simp
  have Hsz := Lib.hid hsz
  clear hsz
  generalize hW1 : w.alloc (.cells (strV P).toArray 9) = W1 at *
  clear hb ho hmem hPl h0 hW1
  go_enter Tryd.func62, Tryd.ntmps62
  go_wp2_with fail
  refine Hs.out.mono ?_
  rintro e w' ⟨rfl, hw⟩
  subst w'
  go_wp2
  go_loopw [6, 20] (fun v i wr => ∃ (k : Nat) (vs : List Nat), k ≤ P.length ∧ vs.length = k ∧ i = .int .i64 (k : Int) ∧ Hid (pieces6 last P = (pieces6 last (P.drop k)).map (vs ++ ·)) ∧ Hid (wr.ownsRow W1.heap.size 43 1 v k (u16V vs)) ∧ Below W1.heap.size W1 wr) (fun _ i _ => P.length - (intOf i).toNat)
  case atStart => exact ⟨0, [], Nat.zero_le _, rfl, rfl, (by show _ = _; rw [List.drop_zero]; cases pieces6 last P <;> rfl), World.ownsRow_nil _ _ _ _, Below.refl _ _⟩
  case round =>
    obtain ⟨k, vs, hk, hvl, rfl, hinv, hown, hbw⟩ := hrel
    by_cases hlt : k < P.length
    · have i1 : (k : Int) < (P.length : Int) := by omega
      obtain ⟨p, hp⟩ : ∃ p, P[k] = p := ⟨_, rfl⟩
      have hp6 : p.length ≤ 1000000 := by rw [← hp]; exact Hmem.out _ (List.getElem_mem hlt)
      have hcell : wr.cell? ⟨w.heap.size, k, none⟩ = some (.string ⟨p.toArray⟩) := by
        have := hrd.out.cell (strV_get (List.getElem?_eq_getElem hlt))
        rw [Nat.zero_add, hp] at this
        exact (hbw.cell (p := ⟨w.heap.size, k, none⟩) (by have := Hsz.out; simp only; omega)).trans this
      have hdr : Hid (P.drop k = p :: P.drop (k + 1)) := by show _ = _; rw [List.drop_eq_getElem_cons hlt, hp]
      have hor := Lib.hid (Ho.out.below hbw)
      have hmx : k + 1 ≤ maxLen := by unfold maxLen; omega
      have hby : (k + 1) * 2 ≤ 140737488355328 := by omega
      have Hin := Lib.hid (inner_any p hp6 wr hor.out)
      clear hp
      cases hio : inner6 p with
      | none =>
        rw [hio] at Hin
        have hni : (if last = true ∧ P.drop (k + 1) = [] then inner6 p else none) = none := by rw [hio]; split <;> rfl
        have Hni := Lib.hid hni
        clear hni hio
        go_wp2_with fail
        refine Hin.out.mono ?_
        rintro e w2 ⟨rfl, hc2⟩
        have hb2 := hbw.trans (hc2.mono hbw.size)
        have hown2 := Lib.hid (own_below hown.out hc2 (Nat.le_refl _))
        have Hpc := Lib.hid (piece_any p hp6 w2)
        cases hpc : piece6 p with
        | none =>
          rw [hpc] at Hpc
          simp only [pieceV] at Hpc
          have hr : Hid (pieces6 last P = none) := by show _ = _; rw [hinv.out, hdr.out]; exact pieces_none last Hni.out hpc
          clear hpc
          go_wp2_with fail
          refine Hpc.out.mono ?_
          rintro e w3 ⟨rfl, hc3⟩
          go_wp2
          go_ret2
          rw [hpo.out, hr.out]
          exact ⟨rfl, Hb.out.trans ((hb2.trans (hc3.mono hb2.size)).mono (by have := Hsz.out; omega))⟩
        | some n =>
          rw [hpc] at Hpc
          simp only [pieceV] at Hpc
          have hinv2 : Hid (pieces6 last P = (pieces6 last (P.drop (k + 1))).map ((vs ++ [n]) ++ ·)) := by
            show _ = _
            rw [hinv.out, hdr.out, pieces_some last Hni.out hpc, Option.map_map]
            congr 1
            funext l
            simp
          clear hpc
          go_wp2_with fail
          refine Hpc.out.mono ?_
          rintro e w3 ⟨rfl, hc3⟩
          have hown3 := Lib.hid (own_below hown2.out hc3 (Nat.le_refl _))
          have hb3 := hb2.trans (hc3.mono hb2.size)
          have hbs : W1.heap.size ≤ (w3.alloc (.cells #[.int .u16 (n : Int)] 43)).heap.size := Nat.le_trans hb3.size (by simp)
          obtain ⟨A', c', rfl, hlc⟩ := own_slice_le hown3.out
          go_wp2_with (at_builtin; refine wpList_append_rd _ rfl _ _ 83 rfl W1.heap.size 43 i0 (.int .u16 0) 2 Tryd.underlying83 hi hz0 hz1 hz2 rfl (.slice A' k c') k (u16V vs) rfl (hown3.out.alloc _) (w3.heap.size + 1) (some ⟨w3.heap.size, 0, none⟩) 1 [.int .u16 (n : Int)] rfl (rd_new w3 [.int .u16 (n : Int)] 43) (by simp [Value.oneCell']) hmx hby hbs ?_)
          intro v' w4 hown4 hg4 _
          have hb4 : Below W1.heap.size W1 w4 := (hb3.alloc hb3.size _).grown hg4 (Nat.le_trans hb3.size (by simp)) (fun j e => (hown3.out.lt j e).1)
          rw [show u16V vs ++ [Value.int .u16 (n : Int)] = u16V (vs ++ [n]) from by simp [u16V]] at hown4
          go_wp2
          exact ⟨⟨k + 1, vs ++ [n], by omega, by simp [hvl], rfl, hinv2.out, hown4, hb4⟩, by simp [intOf]; omega⟩
      | some l =>
        rw [hio] at Hin
        by_cases hC : last = true ∧ k + 1 = P.length
        · obtain ⟨rfl, hkl⟩ := hC
          have g1 : ((k : Int) == (P.length : Int) - 1) = true := by rw [beq_iff_eq]; omega
          have hr : Hid (pieces6 true P = some (vs ++ l)) := by
            show _ = _
            rw [hinv.out, hdr.out, List.drop_of_length_le (by omega), pieces_inner hio]
            rfl
          have hll := Lib.hid (inner_two hio)
          clear hio hkl
          go_wp2_with fail
          refine Hin.out.mono ?_
          rintro e w2 ⟨A, c, rfl, hrd2, hlc, hc2⟩
          have hb2 := hbw.trans (hc2.mono hbw.size)
          have hown2 := Lib.hid (own_below hown.out hc2 (Nat.le_refl _))
          obtain ⟨A', c', rfl, hlc'⟩ := own_slice_le hown2.out
          have Hrd2 := Lib.hid hrd2
          clear hrd2
          go_wp2_with (at_builtin; refine wpList_append_rd _ rfl _ _ 83 rfl W1.heap.size 43 i0 (.int .u16 0) 2 Tryd.underlying83 hi hz0 hz1 hz2 rfl (.slice A' k c') k (u16V vs) rfl hown2.out w2.heap.size A c (u16V l) (by rw [u16V_length]; rfl) Hrd2.out (u16V_one l) (by rw [u16V_length, hll.out]; unfold maxLen; omega) (by rw [u16V_length, hll.out]; omega) hb2.size ?_)
          intro v' w4 hown4 hg4 _
          have hb4 : Below W1.heap.size W1 w4 := hb2.grown hg4 hb2.size (fun j e => (hown2.out.lt j e).1)
          rw [u16V_length, show u16V vs ++ u16V l = u16V (vs ++ l) from by simp [u16V]] at hown4
          obtain ⟨A4, c4, rfl, hlc4⟩ := own_slice_le hown4
          go_wp2
          go_ret2
          rw [hpo.out, hr.out]
          exact ⟨A4, c4, by rw [List.length_append, hvl]; rfl, Rd.of_own hown4, by rw [List.length_append, hvl]; exact hlc4, Hb.out.trans (hb4.mono (by have := Hsz.out; omega))⟩
        · have hni : (if last = true ∧ P.drop (k + 1) = [] then inner6 p else none) = none := by
            rw [if_neg]
            rintro ⟨h1, h2⟩
            exact hC ⟨h1, by have := congrArg List.length h2; rw [List.length_drop, List.length_nil] at this; omega⟩
          have Hni := Lib.hid hni
          have HC := Lib.hid hC
          clear hni hio hC
          cases last with
          | false =>
            go_wp2_with fail
            refine Hin.out.mono ?_
            rintro e w2 ⟨A, c, rfl, hrd2, hlc, hc2⟩
            have hb2 := hbw.trans (hc2.mono hbw.size)
            have hown2 := Lib.hid (own_below hown.out hc2 (Nat.le_refl _))
            clear hrd2
            have Hpc := Lib.hid (piece_any p hp6 w2)
            cases hpc : piece6 p with
            | none =>
              rw [hpc] at Hpc
              simp only [pieceV] at Hpc
              have hr : Hid (pieces6 false P = none) := by show _ = _; rw [hinv.out, hdr.out]; exact pieces_none false Hni.out hpc
              clear hpc
              go_wp2_with fail
              refine Hpc.out.mono ?_
              rintro e w3 ⟨rfl, hc3⟩
              go_wp2
              go_ret2
              rw [hpo.out, hr.out]
              exact ⟨rfl, Hb.out.trans ((hb2.trans (hc3.mono hb2.size)).mono (by have := Hsz.out; omega))⟩
            | some n =>
              rw [hpc] at Hpc
              simp only [pieceV] at Hpc
              have hinv2 : Hid (pieces6 false P = (pieces6 false (P.drop (k + 1))).map ((vs ++ [n]) ++ ·)) := by
                show _ = _
                rw [hinv.out, hdr.out, pieces_some false Hni.out hpc, Option.map_map]
                congr 1
                funext l
                simp
              clear hpc
              go_wp2_with fail
              refine Hpc.out.mono ?_
              rintro e w3 ⟨rfl, hc3⟩
              have hown3 := Lib.hid (own_below hown2.out hc3 (Nat.le_refl _))
              have hb3 := hb2.trans (hc3.mono hb2.size)
              have hbs : W1.heap.size ≤ (w3.alloc (.cells #[.int .u16 (n : Int)] 43)).heap.size := Nat.le_trans hb3.size (by simp)
              obtain ⟨A', c', rfl, hlc⟩ := own_slice_le hown3.out
              go_wp2_with (at_builtin; refine wpList_append_rd _ rfl _ _ 83 rfl W1.heap.size 43 i0 (.int .u16 0) 2 Tryd.underlying83 hi hz0 hz1 hz2 rfl (.slice A' k c') k (u16V vs) rfl (hown3.out.alloc _) (w3.heap.size + 1) (some ⟨w3.heap.size, 0, none⟩) 1 [.int .u16 (n : Int)] rfl (rd_new w3 [.int .u16 (n : Int)] 43) (by simp [Value.oneCell']) hmx hby hbs ?_)
              intro v' w4 hown4 hg4 _
              have hb4 : Below W1.heap.size W1 w4 := (hb3.alloc hb3.size _).grown hg4 (Nat.le_trans hb3.size (by simp)) (fun j e => (hown3.out.lt j e).1)
              rw [show u16V vs ++ [Value.int .u16 (n : Int)] = u16V (vs ++ [n]) from by simp [u16V]] at hown4
              go_wp2
              exact ⟨⟨k + 1, vs ++ [n], by omega, by simp [hvl], rfl, hinv2.out, hown4, hb4⟩, by simp [intOf]; omega⟩
          | true =>
            have g1 : ((k : Int) == (P.length : Int) - 1) = false := by rw [beq_eq_false_iff_ne]; intro e; exact HC.out ⟨rfl, by omega⟩
            go_wp2_with fail
            refine Hin.out.mono ?_
            rintro e w2 ⟨A, c, rfl, hrd2, hlc, hc2⟩
            have hb2 := hbw.trans (hc2.mono hbw.size)
            have hown2 := Lib.hid (own_below hown.out hc2 (Nat.le_refl _))
            clear hrd2
            have Hpc := Lib.hid (piece_any p hp6 w2)
            cases hpc : piece6 p with
            | none =>
              rw [hpc] at Hpc
              simp only [pieceV] at Hpc
              have hr : Hid (pieces6 true P = none) := by show _ = _; rw [hinv.out, hdr.out]; exact pieces_none true (by simpa using Hni.out) hpc
              clear hpc
              go_wp2_with fail
              refine Hpc.out.mono ?_
              rintro e w3 ⟨rfl, hc3⟩
              go_wp2
              go_ret2
              rw [hpo.out, hr.out]
              exact ⟨rfl, Hb.out.trans ((hb2.trans (hc3.mono hb2.size)).mono (by have := Hsz.out; omega))⟩
            | some n =>
              rw [hpc] at Hpc
              simp only [pieceV] at Hpc
              have hinv2 : Hid (pieces6 true P = (pieces6 true (P.drop (k + 1))).map ((vs ++ [n]) ++ ·)) := by
                show _ = _
                rw [hinv.out, hdr.out, pieces_some true (by simpa using Hni.out) hpc, Option.map_map]
                congr 1
                funext l
                simp
              clear hpc
              go_wp2_with fail
              refine Hpc.out.mono ?_
              rintro e w3 ⟨rfl, hc3⟩
              have hown3 := Lib.hid (own_below hown2.out hc3 (Nat.le_refl _))
              have hb3 := hb2.trans (hc3.mono hb2.size)
              have hbs : W1.heap.size ≤ (w3.alloc (.cells #[.int .u16 (n : Int)] 43)).heap.size := Nat.le_trans hb3.size (by simp)
              obtain ⟨A', c', rfl, hlc⟩ := own_slice_le hown3.out
              go_wp2_with (at_builtin; refine wpList_append_rd _ rfl _ _ 83 rfl W1.heap.size 43 i0 (.int .u16 0) 2 Tryd.underlying83 hi hz0 hz1 hz2 rfl (.slice A' k c') k (u16V vs) rfl (hown3.out.alloc _) (w3.heap.size + 1) (some ⟨w3.heap.size, 0, none⟩) 1 [.int .u16 (n : Int)] rfl (rd_new w3 [.int .u16 (n : Int)] 43) (by simp [Value.oneCell']) hmx hby hbs ?_)
              intro v' w4 hown4 hg4 _
              have hb4 : Below W1.heap.size W1 w4 := (hb3.alloc hb3.size _).grown hg4 (Nat.le_trans hb3.size (by simp)) (fun j e => (hown3.out.lt j e).1)
              rw [show u16V vs ++ [Value.int .u16 (n : Int)] = u16V (vs ++ [n]) from by simp [u16V]] at hown4
              go_wp2
              exact ⟨⟨k + 1, vs ++ [n], by omega, by simp [hvl], rfl, hinv2.out, hown4, hb4⟩, by simp [intOf]; omega⟩
    · obtain rfl : k = P.length := by omega
      have i1 : ¬ (P.length : Int) < (P.length : Int) := by omega
      have hr : Hid (pieces6 last P = some vs) := by
        show _ = _
        rw [hinv.out, List.drop_of_length_le (Nat.le_refl _)]
        simp [pieces6]
      obtain ⟨A', c', rfl, hlc⟩ := own_slice_le hown.out
      go_wp2
      go_ret2
      rw [hpo.out, hr.out]
      exact ⟨A', c', by rw [hvl]; rfl, Rd.of_own hown.out, by rw [hvl]; exact hlc, Hb.out.trans (hbw.mono (by have := Hsz.out; omega))⟩
#print axioms pieces_any
end Go.Proofs.YtmobeppmdakjmaaDoor
namespace Go.Proofs.YtmobeppmdakjmaaDoor
open Go.RowKit

theorem index_two_hit (c : UInt8) (t : List UInt8) (h : c = 58 ∧ t.head? = some 58) : Lib.index (c :: t) [58, 58] = ((0 : Nat) : Int) := by
  obtain ⟨rfl, h⟩ := h
  cases t with
  | nil => cases h
  | cons d s =>
    simp only [List.head?_cons, Option.some.injEq] at h
    subst h
    rw [Lib.index, if_pos (by simp [List.isPrefixOf])]
    rfl
theorem index_two_miss (c : UInt8) (t : List UInt8) (h : ¬ (c = 58 ∧ t.head? = some 58)) : Lib.index (c :: t) [58, 58] = if Lib.index t [58, 58] == -1 then -1 else Lib.index t [58, 58] + 1 := by
  rw [Lib.index, if_neg]
  intro hp
  apply h
  cases t with
  | nil => simp [List.isPrefixOf] at hp
  | cons d s =>
    simp only [List.isPrefixOf, Bool.and_eq_true, beq_iff_eq] at hp
    exact ⟨hp.1.symm, by rw [← hp.2.1]; rfl⟩
theorem cut_is : ∀ s : List UInt8, Lib.cut s [58, 58] = ((cut6 s).1, (cut6 s).2.getD [], (cut6 s).2.isSome)
  | [] => rfl
  | c :: t => by
    have ih := cut_is t
    by_cases h : c = 58 ∧ t.head? = some 58
    · have hi := index_two_hit c t h
      unfold Lib.cut
      rw [hi, if_pos (by omega), cut6, if_pos h]
      cases t with
      | nil => cases h.2
      | cons d s => rfl
    · have hi := index_two_miss c t h
      rw [cut6, if_neg h]
      unfold Lib.cut at ih ⊢
      have hge := Lib.index_ge t [58, 58]
      by_cases hm : Lib.index t [58, 58] = -1
      · rw [hm] at ih hi
        rw [if_neg (by omega)] at ih
        rw [hi]
        simp only [Prod.mk.injEq] at ih
        simp only [beq_self_eq_true, if_true]
        rw [if_neg (by omega), ← ih.1, ← ih.2.1, ← ih.2.2]
      · rw [if_pos (by omega)] at ih
        have hi2 : Lib.index (c :: t) [58, 58] = Lib.index t [58, 58] + 1 := by rw [hi, if_neg (by simpa using hm)]
        rw [hi2, if_pos (by omega)]
        simp only [Prod.mk.injEq] at ih
        rw [← ih.1, ← ih.2.1, ← ih.2.2]
        have e : (Lib.index t [58, 58] + 1).toNat = (Lib.index t [58, 58]).toNat + 1 := by omega
        rw [e]
        generalize (Lib.index t [58, 58]).toNat = n
        rw [List.take_succ_cons]
        simp only [List.length_cons, List.length_nil]
        rw [show n + 1 + (0 + 1 + 1) = (n + (0 + 1 + 1)) + 1 from by omega, List.drop_succ_cons]
theorem cut6_len : ∀ s : List UInt8, (cut6 s).1.length ≤ s.length ∧ ((cut6 s).2.getD []).length ≤ s.length
  | [] => ⟨Nat.le_refl _, Nat.le_refl _⟩
  | c :: t => by
    have ih := cut6_len t
    rw [cut6]
    split
    · simp
      cases t <;> simp
    · simp only [List.length_cons]
      omega
#print axioms cut_is
end Go.Proofs.YtmobeppmdakjmaaDoor
