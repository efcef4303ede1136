/- Walk: the reference's walk from a path on, through a text. (Printed by refwalk.py.) -/
import Derived.Test.YtpahiipfmccbiaaDoorG6
namespace Go.Proofs.YtpahiipfmccbiaaDoor
open Go.RowKit

set_option maxHeartbeats 8000000 in
set_option maxRecDepth 100000 in
theorem refWalk_G8 (name : List UInt8) (A : Option Addr) (c : Nat) (ls : List (List UInt8)) (T : Option Addr) (d : Nat) (rs : List Int) (w : World) (B : Nat) (hA : Rd w B A (strV ls)) (hT : Rd w B T (runV rs)) (hB : B ≤ w.heap.size)
    (hl : ls.length ≤ 524288) (hr : rs.length ≤ 262144) (hd : rs.length ≤ d) (hs : ∀ s ∈ ls, s.length ≤ 70368744177664) (hsp : special name = true) :
    Calls Tryd.prog 23 #[.string ⟨name.toArray⟩, .slice A ls.length c, .slice T rs.length d] w (Made (walk name ls rs) w) := by
  obtain ⟨i0, hi, hz0, hz1, hz2⟩ := info_parts Tryd.info9
  have HT := Lib.hid hT
  have Hs := Lib.hid hs
  clear hT hs
  have Hsp := Lib.hid hsp
  clear hsp
  go_enter Tryd.func23, Tryd.ntmps23
  go_wp2_with (first | (go_at_call 44; refine (refSpecial_is _ _ Hsp.out _).mono ?_; rintro e w' ⟨rfl, rfl⟩) | (at_builtin; refine wpList_append_texts rfl _ _ rfl w.heap.size _ [] rfl (World.ownsRow_nil _ _ _ _) B A c ls rfl hA (by simp only [List.length_nil]; omega) (Nat.le_refl _) ?_; intro v0 w0 ho0 hb0))
  rw [List.nil_append] at ho0
  have Hst := Lib.hid (Kept.start (w := w) (name := name) (rs := rs) Hs.out)
  go_loopw [7, 9, 10] (fun v buf i wr => Inv w name ls rs v buf i wr) (fun _ _ i _ => rs.length + 1 - (intOf i).toNat)
  case atStart => exact ⟨0, ls, [], Hst.out, rfl, rfl, ho0, hb0⟩
  case round =>
    obtain ⟨k, ls', cur, hK, rfl, rfl, ho, hb⟩ := hrel
    have hk := hK.hk
    have HK := Lib.hid hK
    clear ho0 hb0 hA
    by_cases hin : k = rs.length + 1
    · have hfin := Lib.hid (hK.fin hin)
      have f0 : ¬ (k : Int) ≤ (rs.length : Int) := by omega
      clear hK hin
      go_wp2
      go_ret
      rw [hfin.out] at ho
      exact ⟨_, rfl, ho, hb⟩
    have f0 : (k : Int) ≤ (rs.length : Int) := by omega
    have hel := enc_le cur
    have hlc := hK.lcur
    have hll := hK.lls
    have hsz := hb.size
    have hbs := size_arr (enc cur)
    have Hsm := Lib.hid hK.small
    clear hK
    obtain ⟨A', c', rfl, hcc⟩ := own_slice_le ho
    by_cases hlt : k < rs.length
    · have fe : ((k : Int) == (rs.length : Int)) = false := by rw [beq_eq_false_iff_ne]; omega
      have hT2 := HT.out.below (hb.mono hB)
      obtain ⟨tb, toff, rfl, htb, hc⟩ := hT2 k _ (runV_get (List.getElem?_eq_getElem hlt))
      have hrd1 : Rd wr wr.heap.size (some ⟨tb, toff + k, none⟩) (runV [rs[k]]) := by
        intro j u hu
        match j, hu with
        | 0, hu =>
          simp only [runV, List.map_cons, List.map_nil, List.getElem?_cons_zero, Option.some.injEq] at hu
          subst hu
          exact ⟨tb, toff + k, rfl, World.block_lt_of_cell? wr _ hc, hc⟩
      have Hu := Lib.hid (refEncode_any (some ⟨tb, toff + k, none⟩) (d - k) [rs[k]] wr wr.heap.size hrd1 (Nat.le_refl _) (by simp) (by simp; omega))
      clear hrd1 hT2
      cases hsep : isSep (special name) rs[k] with
      | false =>
        have f1 : (rs[k] == 47) = false := by rw [beq_eq_false_iff_ne]; intro e; simp [isSep, e] at hsep
        have f2 : (rs[k] == 92) = false := by rw [beq_eq_false_iff_ne]; intro e; simp [isSep, Hsp.out, e] at hsep
        have hKn := Lib.hid (HK.out.on hlt hsep)
        have he1 : Hid (enc [rs[k]] = encR rs[k]) := by show _ = _; simp [enc]
        have hle := encR_le rs[k]
        have hbs1 := size_arr (encR rs[k])
        rw [he1.out] at Hu
        clear hsep
        go_wp2_with (go_at_call 45; refine Hu.out.mono ?_; rintro e w1 ⟨rfl, hb1⟩)
        have ee : (⟨(enc cur).toArray⟩ : ByteArray) ++ ⟨(encR rs[k]).toArray⟩ = ⟨(enc (cur ++ [rs[k]])).toArray⟩ := by
          apply ByteArray.ext
          rw [enc_snoc]
          simp
        rw [ee]
        exact ⟨⟨k + 1, ls', cur ++ [rs[k]], hKn.out, by go_num, rfl, own_below ho hb1 (Nat.le_refl _), hb.trans (hb1.mono hsz)⟩, by simp [intOf]; omega⟩
      | true =>
        have f1 : (rs[k] == 47) = true ∨ ((rs[k] == 47) = false ∧ (rs[k] == 92) = true) := by
          simp only [isSep, Hsp.out, Bool.true_and, Bool.or_eq_true] at hsep
          cases h47 : rs[k] == 47 with
          | true => exact .inl rfl
          | false => rw [h47] at hsep; right; exact ⟨rfl, hsep.resolve_left (by decide)⟩
        have hKn := Lib.hid (HK.out.sep hlt hsep (by omega))
        clear hsep Hu
        rcases f1 with f1 | ⟨f1, f2⟩
        all_goals
          have Hb := Lib.hid hb
          have Ho := Lib.hid ho
          cases hd : double (enc cur) with
          | true =>
            have Hd := Lib.hid hd
            have hP : Hid (putP name ls' cur false = lastP false (shorten name ls')) := by show _ = _; rw [putP_eq, hd]; rfl
            have hshl := shorten_len name ls'
            clear hd
            go_wp2_with (first | (go_at_call 18; refine (refDouble_is (enc cur) true Hd.out _ (by omega)).mono ?_; rintro e w' ⟨rfl, rfl⟩) | (go_at_call 22; refine (refShorten_any name A' c' ls' wr wr.heap.size (Rd.of_own Ho.out) (Nat.le_refl _) (by omega) hcc Hsm.out).mono ?_))
            rintro e w3 ⟨v1, rfl, ho3', hb3⟩
            have ho3 := own_base ho3' hsz
            have hbw : Below w.heap.size w w3 := Hb.out.trans (hb3.mono hsz)
            have hsz3 := hbw.size
            clear ho3' hb3
            go_wp2
            exact ⟨Inv.put hKn.out hP.out (by rw [lastP, if_neg (by decide)]; exact ho3) hbw, by simp [intOf]; omega⟩
          | false =>
            have Hd := Lib.hid hd
            cases hsg : single (enc cur) with
            | true =>
              have Hsg := Lib.hid hsg
              have hP : Hid (putP name ls' cur false = lastP false ls') := by show _ = _; rw [putP_eq, hd, hsg]; rfl
              clear hd hsg
              go_wp2_with (first | (go_at_call 18; refine (refDouble_is (enc cur) false Hd.out _ (by omega)).mono ?_; rintro e w' ⟨rfl, rfl⟩) | (go_at_call 17; refine (refSingle_is (enc cur) true Hsg.out _ (by omega)).mono ?_; rintro e w' ⟨rfl, rfl⟩))
              exact ⟨Inv.put hKn.out hP.out (by rw [lastP, if_neg (by decide)]; exact Ho.out) Hb.out, by simp [intOf]; omega⟩
            | false =>
              have Hsg := Lib.hid hsg
              have hnone : (name == fileN) = false ∨ ((name == fileN) = true ∧ ls' ≠ []) ∨ ((name == fileN) = true ∧ ls' = [] ∧ (enc cur).length ≠ 2) ∨ ((name == fileN) = true ∧ ls' = [] ∧ ∃ x y, enc cur = [x, y]) := by
                cases hf : name == fileN with
                | false => exact .inl rfl
                | true =>
                  right
                  by_cases h1 : ls' = []
                  · right
                    by_cases h2 : (enc cur).length = 2
                    · right
                      refine ⟨rfl, h1, ?_⟩
                      match hh : enc cur, h2 with
                      | [x, y], _ => exact ⟨x, y, rfl⟩
                    · exact .inl ⟨rfl, h1, h2⟩
                  · exact .inl ⟨rfl, h1⟩
              have hplain : (name == fileN && ls'.isEmpty && drive (runes (enc cur))) = false → putP name ls' cur false = ls' ++ [enc cur] := by
                intro h
                rw [putP_eq, hd, hsg, if_neg (by decide), if_neg (by decide), if_neg (by rw [h]; decide)]
              rcases hnone with hf | ⟨hf, hne⟩ | ⟨hf, rfl, h2⟩ | ⟨hf, rfl, x, y, he⟩
              · have hP := Lib.hid (hplain (by rw [hf]; rfl))
                have hf' : (name == [102, 105, 108, 101]) = false := hf
                clear hd hsg hf hplain
                go_wp2_with (first | (go_at_call 18; refine (refDouble_is (enc cur) false Hd.out _ (by omega)).mono ?_; rintro e w' ⟨rfl, rfl⟩) | (go_at_call 17; refine (refSingle_is (enc cur) false Hsg.out _ (by omega)).mono ?_; rintro e w' ⟨rfl, rfl⟩) | (at_builtin; refine wpList_append_rd _ rfl _ _ 24 rfl w.heap.size 9 i0 (.string ⟨#[]⟩) 16 Tryd.underlying24 hi hz0 hz1 hz2 rfl (.slice A' ls'.length c') ls'.length (strV ls') rfl (Ho.out.alloc _) (wr.heap.size + 1) (some ⟨wr.heap.size, 0, none⟩) 1 [.string ⟨(enc cur).toArray⟩] rfl (rd_new wr [.string ⟨(enc cur).toArray⟩] 9) (by simp [Value.oneCell']) (by simp only [maxLen, List.length_cons, List.length_nil]; omega) (by simp only [List.length_cons, List.length_nil]; omega) (by simp; omega) ?_; intro v5 w5 ho5 hg5 hat5))
                exact ⟨Inv.put hKn.out hP.out (by rw [strV_append]; exact ho5) ((Hb.out.alloc hsz _).grown hg5 (by simp; omega) (fun j hj => (Ho.out.lt j hj).1)), by simp [intOf]; omega⟩
              · have hP := Lib.hid (hplain (by rw [hf, List.isEmpty_eq_false_iff.2 hne]; rfl))
                have hf' : (name == [102, 105, 108, 101]) = true := hf
                have h0 : ((ls'.length : Int) == 0) = false := by rw [beq_eq_false_iff_ne]; intro e; exact hne (List.eq_nil_of_length_eq_zero (by omega))
                clear hd hsg hf hplain hne
                go_wp2_with (first | (go_at_call 18; refine (refDouble_is (enc cur) false Hd.out _ (by omega)).mono ?_; rintro e w' ⟨rfl, rfl⟩) | (go_at_call 17; refine (refSingle_is (enc cur) false Hsg.out _ (by omega)).mono ?_; rintro e w' ⟨rfl, rfl⟩) | (at_builtin; refine wpList_append_rd _ rfl _ _ 24 rfl w.heap.size 9 i0 (.string ⟨#[]⟩) 16 Tryd.underlying24 hi hz0 hz1 hz2 rfl (.slice A' ls'.length c') ls'.length (strV ls') rfl (Ho.out.alloc _) (wr.heap.size + 1) (some ⟨wr.heap.size, 0, none⟩) 1 [.string ⟨(enc cur).toArray⟩] rfl (rd_new wr [.string ⟨(enc cur).toArray⟩] 9) (by simp [Value.oneCell']) (by simp only [maxLen, List.length_cons, List.length_nil]; omega) (by simp only [List.length_cons, List.length_nil]; omega) (by simp; omega) ?_; intro v5 w5 ho5 hg5 hat5))
                exact ⟨Inv.put hKn.out hP.out (by rw [strV_append]; exact ho5) ((Hb.out.alloc hsz _).grown hg5 (by simp; omega) (fun j hj => (Ho.out.lt j hj).1)), by simp [intOf]; omega⟩
              · have hP := Lib.hid (hplain (by rw [hf]; cases hv : drive (runes (enc cur)) with | false => rfl | true => (obtain ⟨a, b, e, _, _⟩ := drive_bytes hv; rw [e] at h2; exact absurd rfl h2)))
                have hf' : (name == [102, 105, 108, 101]) = true := hf
                have h2' : (((enc cur).length : Int) == 2) = false := len_ne h2
                clear hd hsg hf hplain h2
                go_wp2_with (first | (go_at_call 18; refine (refDouble_is (enc cur) false Hd.out _ (by omega)).mono ?_; rintro e w' ⟨rfl, rfl⟩) | (go_at_call 17; refine (refSingle_is (enc cur) false Hsg.out _ (by omega)).mono ?_; rintro e w' ⟨rfl, rfl⟩) | (at_builtin; refine wpList_append_rd _ rfl _ _ 24 rfl w.heap.size 9 i0 (.string ⟨#[]⟩) 16 Tryd.underlying24 hi hz0 hz1 hz2 rfl (.slice A' ([] : List (List UInt8)).length c') ([] : List (List UInt8)).length (strV []) rfl (Ho.out.alloc _) (wr.heap.size + 1) (some ⟨wr.heap.size, 0, none⟩) 1 [.string ⟨(enc cur).toArray⟩] rfl (rd_new wr [.string ⟨(enc cur).toArray⟩] 9) (by simp [Value.oneCell']) (by simp only [maxLen, List.length_cons, List.length_nil]; omega) (by simp only [List.length_cons, List.length_nil]; omega) (by simp; omega) ?_; intro v5 w5 ho5 hg5 hat5))
                exact ⟨Inv.put hKn.out hP.out (by rw [strV_append]; exact ho5) ((Hb.out.alloc hsz _).grown hg5 (by simp; omega) (fun j hj => (Ho.out.lt j hj).1)), by simp [intOf]; omega⟩
              · have He := Lib.hid he
                rw [he] at hd hsg hel hbs ⊢
                obtain ⟨cap, row, hrun, hrd, hcap⟩ := conv_runes2 [x, y] wr (by simp)
                have Hrd := Lib.hid hrd
                cases hv : drive (runes [x, y]) with
                | false =>
                  have Hv := Lib.hid hv
                  have Hd2 := Lib.hid hd
                  have Hsg2 := Lib.hid hsg
                  have hP : Hid (putP name [] cur false = [] ++ [[x, y]]) := by
                    show _ = _
                    rw [putP_eq, He.out, hd, hsg, hv, hf]; rfl
                  have hf' : (name == [102, 105, 108, 101]) = true := hf
                  clear hd hsg hv hrd he hf hplain
                  go_wp2_with (first | (go_at_call 18; refine (refDouble_is [x, y] false Hd2.out _ (by simp)).mono ?_; rintro e w' ⟨rfl, rfl⟩) | (go_at_call 17; refine (refSingle_is [x, y] false Hsg2.out _ (by simp)).mono ?_; rintro e w' ⟨rfl, rfl⟩) | (go_at_call 19; refine (refDrive_eq2 _ _ _ _ rfl _ Hv.out _ _ Hrd.out).mono ?_; rintro e w' ⟨rfl, rfl⟩) | (at_builtin; refine wpList_append_rd _ rfl _ _ 24 rfl w.heap.size 9 i0 (.string ⟨#[]⟩) 16 Tryd.underlying24 hi hz0 hz1 hz2 rfl (.slice A' ([] : List (List UInt8)).length c') ([] : List (List UInt8)).length (strV []) rfl (by exact (Ho.out.alloc _).alloc _) (wr.heap.size + 2) (some ⟨wr.heap.size + 1, 0, none⟩) 1 [.string ⟨([x, y] : List UInt8).toArray⟩] rfl (by exact rd_new2 wr _ [.string ⟨([x, y] : List UInt8).toArray⟩] 9) (by simp [Value.oneCell']) (by simp only [maxLen, List.length_cons, List.length_nil]; omega) (by simp only [List.length_cons, List.length_nil]; omega) (by simp; omega) ?_; intro v5 w5 ho5 hg5 hat5))
                  exact ⟨Inv.put hKn.out hP.out (by rw [strV_append]; exact ho5) ((((Hb.out.alloc hsz _).drew).alloc (by simp; omega) _).grown hg5 (by simp; omega) (fun j hj => (Ho.out.lt j hj).1)), by simp [intOf]; omega⟩
                | true =>
                  have Hv := Lib.hid hv
                  have Hd2 := Lib.hid hd
                  have Hsg2 := Lib.hid hsg
                  have hP : Hid (putP name [] cur false = [] ++ [[x, 58]]) := by
                    show _ = _
                    rw [putP_eq, He.out, hd, hsg, hv, hf]; rfl
                  have hf' : (name == [102, 105, 108, 101]) = true := hf
                  clear hd hsg hv hrd he hf hplain
                  go_wp2_with (first | (go_at_call 18; refine (refDouble_is [x, y] false Hd2.out _ (by simp)).mono ?_; rintro e w' ⟨rfl, rfl⟩) | (go_at_call 17; refine (refSingle_is [x, y] false Hsg2.out _ (by simp)).mono ?_; rintro e w' ⟨rfl, rfl⟩) | (go_at_call 19; refine (refDrive_eq2 _ _ _ _ rfl _ Hv.out _ _ Hrd.out).mono ?_; rintro e w' ⟨rfl, rfl⟩) | (at_builtin; refine wpList_append_rd _ rfl _ _ 24 rfl w.heap.size 9 i0 (.string ⟨#[]⟩) 16 Tryd.underlying24 hi hz0 hz1 hz2 rfl (.slice A' ([] : List (List UInt8)).length c') ([] : List (List UInt8)).length (strV []) rfl (by exact (Ho.out.alloc _).alloc _) (wr.heap.size + 2) (some ⟨wr.heap.size + 1, 0, none⟩) 1 [.string ⟨([x, 58] : List UInt8).toArray⟩] rfl (by exact rd_new2 wr _ [.string ⟨([x, 58] : List UInt8).toArray⟩] 9) (by simp [Value.oneCell']) (by simp only [maxLen, List.length_cons, List.length_nil]; omega) (by simp only [List.length_cons, List.length_nil]; omega) (by simp; omega) ?_; intro v5 w5 ho5 hg5 hat5))
                  exact ⟨Inv.put hKn.out hP.out (by rw [strV_append]; exact ho5) ((((Hb.out.alloc hsz _).drew).alloc (by simp; omega) _).grown hg5 (by simp; omega) (fun j hj => (Ho.out.lt j hj).1)), by simp [intOf]; omega⟩
    · have hke : k = rs.length := by omega
      have fe : ((k : Int) == (rs.length : Int)) = true := by rw [hke]; simp
      have hKn := Lib.hid (HK.out.end_ hke (by omega))
      clear hlt hke
      have Hb := Lib.hid hb
      have Ho := Lib.hid ho
      cases hd : double (enc cur) with
      | true =>
        have Hd := Lib.hid hd
        have hP : Hid (putP name ls' cur true = lastP true (shorten name ls')) := by show _ = _; rw [putP_eq, hd]; rfl
        have hshl := shorten_len name ls'
        clear hd
        go_wp2_with (first | (go_at_call 18; refine (refDouble_is (enc cur) true Hd.out _ (by omega)).mono ?_; rintro e w' ⟨rfl, rfl⟩) | (go_at_call 22; refine (refShorten_any name A' c' ls' wr wr.heap.size (Rd.of_own Ho.out) (Nat.le_refl _) (by omega) hcc Hsm.out).mono ?_))
        rintro e w3 ⟨v1, rfl, ho3', hb3⟩
        have ho3 := own_base ho3' hsz
        have hbw : Below w.heap.size w w3 := Hb.out.trans (hb3.mono hsz)
        have hsz3 := hbw.size
        clear ho3' hb3
        go_wp2_with (at_builtin; refine wpList_append_rd _ rfl _ _ 24 rfl w.heap.size 9 i0 (.string ⟨#[]⟩) 16 Tryd.underlying24 hi hz0 hz1 hz2 rfl v1 (shorten name ls').length (strV (shorten name ls')) rfl (ho3.alloc _) (w3.heap.size + 1) (some ⟨w3.heap.size, 0, none⟩) 1 [.string ⟨#[]⟩] rfl (rd_new w3 [.string ⟨#[]⟩] 9) (by simp [Value.oneCell']) (by simp only [maxLen, List.length_cons, List.length_nil]; omega) (by simp only [List.length_cons, List.length_nil]; omega) (by simp; omega) ?_; intro v5 w5 ho5 hg5 hat5)
        refine ⟨Inv.put hKn.out hP.out (by rw [lastP, if_pos rfl, strV_append]; exact ho5) ((hbw.alloc hsz3 _).grown hg5 (by simp; omega) (fun j hj => (ho3.lt j hj).1)), by simp [intOf]; omega⟩
      | false =>
        have Hd := Lib.hid hd
        cases hsg : single (enc cur) with
        | true =>
          have Hsg := Lib.hid hsg
          have hP : Hid (putP name ls' cur true = lastP true ls') := by show _ = _; rw [putP_eq, hd, hsg]; rfl
          clear hd hsg
          go_wp2_with (first | (go_at_call 18; refine (refDouble_is (enc cur) false Hd.out _ (by omega)).mono ?_; rintro e w' ⟨rfl, rfl⟩) | (go_at_call 17; refine (refSingle_is (enc cur) true Hsg.out _ (by omega)).mono ?_; rintro e w' ⟨rfl, rfl⟩) | (at_builtin; refine wpList_append_rd _ rfl _ _ 24 rfl w.heap.size 9 i0 (.string ⟨#[]⟩) 16 Tryd.underlying24 hi hz0 hz1 hz2 rfl (.slice A' ls'.length c') ls'.length (strV ls') rfl (Ho.out.alloc _) (wr.heap.size + 1) (some ⟨wr.heap.size, 0, none⟩) 1 [.string ⟨#[]⟩] rfl (rd_new wr [.string ⟨#[]⟩] 9) (by simp [Value.oneCell']) (by simp only [maxLen, List.length_cons, List.length_nil]; omega) (by simp only [List.length_cons, List.length_nil]; omega) (by simp; omega) ?_; intro v5 w5 ho5 hg5 hat5))
          exact ⟨Inv.put hKn.out hP.out (by rw [lastP, if_pos rfl, strV_append]; exact ho5) ((Hb.out.alloc hsz _).grown hg5 (by simp; omega) (fun j hj => (Ho.out.lt j hj).1)), by simp [intOf]; omega⟩
        | false =>
          have Hsg := Lib.hid hsg
          have hnone : (name == fileN) = false ∨ ((name == fileN) = true ∧ ls' ≠ []) ∨ ((name == fileN) = true ∧ ls' = [] ∧ (enc cur).length ≠ 2) ∨ ((name == fileN) = true ∧ ls' = [] ∧ ∃ x y, enc cur = [x, y]) := by
            cases hf : name == fileN with
            | false => exact .inl rfl
            | true =>
              right
              by_cases h1 : ls' = []
              · right
                by_cases h2 : (enc cur).length = 2
                · right
                  refine ⟨rfl, h1, ?_⟩
                  match hh : enc cur, h2 with
                  | [x, y], _ => exact ⟨x, y, rfl⟩
                · exact .inl ⟨rfl, h1, h2⟩
              · exact .inl ⟨rfl, h1⟩
          have hplain : (name == fileN && ls'.isEmpty && drive (runes (enc cur))) = false → putP name ls' cur true = ls' ++ [enc cur] := by
            intro h
            rw [putP_eq, hd, hsg, if_neg (by decide), if_neg (by decide), if_neg (by rw [h]; decide)]
          rcases hnone with hf | ⟨hf, hne⟩ | ⟨hf, rfl, h2⟩ | ⟨hf, rfl, x, y, he⟩
          · have hP := Lib.hid (hplain (by rw [hf]; rfl))
            have hf' : (name == [102, 105, 108, 101]) = false := hf
            clear hd hsg hf hplain
            go_wp2_with (first | (go_at_call 18; refine (refDouble_is (enc cur) false Hd.out _ (by omega)).mono ?_; rintro e w' ⟨rfl, rfl⟩) | (go_at_call 17; refine (refSingle_is (enc cur) false Hsg.out _ (by omega)).mono ?_; rintro e w' ⟨rfl, rfl⟩) | (at_builtin; refine wpList_append_rd _ rfl _ _ 24 rfl w.heap.size 9 i0 (.string ⟨#[]⟩) 16 Tryd.underlying24 hi hz0 hz1 hz2 rfl (.slice A' ls'.length c') ls'.length (strV ls') rfl (Ho.out.alloc _) (wr.heap.size + 1) (some ⟨wr.heap.size, 0, none⟩) 1 [.string ⟨(enc cur).toArray⟩] rfl (rd_new wr [.string ⟨(enc cur).toArray⟩] 9) (by simp [Value.oneCell']) (by simp only [maxLen, List.length_cons, List.length_nil]; omega) (by simp only [List.length_cons, List.length_nil]; omega) (by simp; omega) ?_; intro v5 w5 ho5 hg5 hat5))
            exact ⟨Inv.put hKn.out hP.out (by rw [strV_append]; exact ho5) ((Hb.out.alloc hsz _).grown hg5 (by simp; omega) (fun j hj => (Ho.out.lt j hj).1)), by simp [intOf]; omega⟩
          · have hP := Lib.hid (hplain (by rw [hf, List.isEmpty_eq_false_iff.2 hne]; rfl))
            have hf' : (name == [102, 105, 108, 101]) = true := hf
            have h0 : ((ls'.length : Int) == 0) = false := by rw [beq_eq_false_iff_ne]; intro e; exact hne (List.eq_nil_of_length_eq_zero (by omega))
            clear hd hsg hf hplain hne
            go_wp2_with (first | (go_at_call 18; refine (refDouble_is (enc cur) false Hd.out _ (by omega)).mono ?_; rintro e w' ⟨rfl, rfl⟩) | (go_at_call 17; refine (refSingle_is (enc cur) false Hsg.out _ (by omega)).mono ?_; rintro e w' ⟨rfl, rfl⟩) | (at_builtin; refine wpList_append_rd _ rfl _ _ 24 rfl w.heap.size 9 i0 (.string ⟨#[]⟩) 16 Tryd.underlying24 hi hz0 hz1 hz2 rfl (.slice A' ls'.length c') ls'.length (strV ls') rfl (Ho.out.alloc _) (wr.heap.size + 1) (some ⟨wr.heap.size, 0, none⟩) 1 [.string ⟨(enc cur).toArray⟩] rfl (rd_new wr [.string ⟨(enc cur).toArray⟩] 9) (by simp [Value.oneCell']) (by simp only [maxLen, List.length_cons, List.length_nil]; omega) (by simp only [List.length_cons, List.length_nil]; omega) (by simp; omega) ?_; intro v5 w5 ho5 hg5 hat5))
            exact ⟨Inv.put hKn.out hP.out (by rw [strV_append]; exact ho5) ((Hb.out.alloc hsz _).grown hg5 (by simp; omega) (fun j hj => (Ho.out.lt j hj).1)), by simp [intOf]; omega⟩
          · have hP := Lib.hid (hplain (by rw [hf]; cases hv : drive (runes (enc cur)) with | false => rfl | true => (obtain ⟨a, b, e, _, _⟩ := drive_bytes hv; rw [e] at h2; exact absurd rfl h2)))
            have hf' : (name == [102, 105, 108, 101]) = true := hf
            have h2' : (((enc cur).length : Int) == 2) = false := len_ne h2
            clear hd hsg hf hplain h2
            go_wp2_with (first | (go_at_call 18; refine (refDouble_is (enc cur) false Hd.out _ (by omega)).mono ?_; rintro e w' ⟨rfl, rfl⟩) | (go_at_call 17; refine (refSingle_is (enc cur) false Hsg.out _ (by omega)).mono ?_; rintro e w' ⟨rfl, rfl⟩) | (at_builtin; refine wpList_append_rd _ rfl _ _ 24 rfl w.heap.size 9 i0 (.string ⟨#[]⟩) 16 Tryd.underlying24 hi hz0 hz1 hz2 rfl (.slice A' ([] : List (List UInt8)).length c') ([] : List (List UInt8)).length (strV []) rfl (Ho.out.alloc _) (wr.heap.size + 1) (some ⟨wr.heap.size, 0, none⟩) 1 [.string ⟨(enc cur).toArray⟩] rfl (rd_new wr [.string ⟨(enc cur).toArray⟩] 9) (by simp [Value.oneCell']) (by simp only [maxLen, List.length_cons, List.length_nil]; omega) (by simp only [List.length_cons, List.length_nil]; omega) (by simp; omega) ?_; intro v5 w5 ho5 hg5 hat5))
            exact ⟨Inv.put hKn.out hP.out (by rw [strV_append]; exact ho5) ((Hb.out.alloc hsz _).grown hg5 (by simp; omega) (fun j hj => (Ho.out.lt j hj).1)), by simp [intOf]; omega⟩
          · have He := Lib.hid he
            rw [he] at hd hsg hel hbs ⊢
            obtain ⟨cap, row, hrun, hrd, hcap⟩ := conv_runes2 [x, y] wr (by simp)
            have Hrd := Lib.hid hrd
            cases hv : drive (runes [x, y]) with
            | false =>
              have Hv := Lib.hid hv
              have Hd2 := Lib.hid hd
              have Hsg2 := Lib.hid hsg
              have hP : Hid (putP name [] cur true = [] ++ [[x, y]]) := by
                show _ = _
                rw [putP_eq, He.out, hd, hsg, hv, hf]; rfl
              have hf' : (name == [102, 105, 108, 101]) = true := hf
              clear hd hsg hv hrd he hf hplain
              go_wp2_with (first | (go_at_call 18; refine (refDouble_is [x, y] false Hd2.out _ (by simp)).mono ?_; rintro e w' ⟨rfl, rfl⟩) | (go_at_call 17; refine (refSingle_is [x, y] false Hsg2.out _ (by simp)).mono ?_; rintro e w' ⟨rfl, rfl⟩) | (go_at_call 19; refine (refDrive_eq2 _ _ _ _ rfl _ Hv.out _ _ Hrd.out).mono ?_; rintro e w' ⟨rfl, rfl⟩) | (at_builtin; refine wpList_append_rd _ rfl _ _ 24 rfl w.heap.size 9 i0 (.string ⟨#[]⟩) 16 Tryd.underlying24 hi hz0 hz1 hz2 rfl (.slice A' ([] : List (List UInt8)).length c') ([] : List (List UInt8)).length (strV []) rfl (by exact (Ho.out.alloc _).alloc _) (wr.heap.size + 2) (some ⟨wr.heap.size + 1, 0, none⟩) 1 [.string ⟨([x, y] : List UInt8).toArray⟩] rfl (by exact rd_new2 wr _ [.string ⟨([x, y] : List UInt8).toArray⟩] 9) (by simp [Value.oneCell']) (by simp only [maxLen, List.length_cons, List.length_nil]; omega) (by simp only [List.length_cons, List.length_nil]; omega) (by simp; omega) ?_; intro v5 w5 ho5 hg5 hat5))
              exact ⟨Inv.put hKn.out hP.out (by rw [strV_append]; exact ho5) ((((Hb.out.alloc hsz _).drew).alloc (by simp; omega) _).grown hg5 (by simp; omega) (fun j hj => (Ho.out.lt j hj).1)), by simp [intOf]; omega⟩
            | true =>
              have Hv := Lib.hid hv
              have Hd2 := Lib.hid hd
              have Hsg2 := Lib.hid hsg
              have hP : Hid (putP name [] cur true = [] ++ [[x, 58]]) := by
                show _ = _
                rw [putP_eq, He.out, hd, hsg, hv, hf]; rfl
              have hf' : (name == [102, 105, 108, 101]) = true := hf
              clear hd hsg hv hrd he hf hplain
              go_wp2_with (first | (go_at_call 18; refine (refDouble_is [x, y] false Hd2.out _ (by simp)).mono ?_; rintro e w' ⟨rfl, rfl⟩) | (go_at_call 17; refine (refSingle_is [x, y] false Hsg2.out _ (by simp)).mono ?_; rintro e w' ⟨rfl, rfl⟩) | (go_at_call 19; refine (refDrive_eq2 _ _ _ _ rfl _ Hv.out _ _ Hrd.out).mono ?_; rintro e w' ⟨rfl, rfl⟩) | (at_builtin; refine wpList_append_rd _ rfl _ _ 24 rfl w.heap.size 9 i0 (.string ⟨#[]⟩) 16 Tryd.underlying24 hi hz0 hz1 hz2 rfl (.slice A' ([] : List (List UInt8)).length c') ([] : List (List UInt8)).length (strV []) rfl (by exact (Ho.out.alloc _).alloc _) (wr.heap.size + 2) (some ⟨wr.heap.size + 1, 0, none⟩) 1 [.string ⟨([x, 58] : List UInt8).toArray⟩] rfl (by exact rd_new2 wr _ [.string ⟨([x, 58] : List UInt8).toArray⟩] 9) (by simp [Value.oneCell']) (by simp only [maxLen, List.length_cons, List.length_nil]; omega) (by simp only [List.length_cons, List.length_nil]; omega) (by simp; omega) ?_; intro v5 w5 ho5 hg5 hat5))
              exact ⟨Inv.put hKn.out hP.out (by rw [strV_append]; exact ho5) ((((Hb.out.alloc hsz _).drew).alloc (by simp; omega) _).grown hg5 (by simp; omega) (fun j hj => (Ho.out.lt j hj).1)), by simp [intOf]; omega⟩
#print axioms refWalk_G8
end Go.Proofs.YtpahiipfmccbiaaDoor
