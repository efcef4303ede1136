/- Walks: the law PathAgain, every input. -/
import Derived.Test.YtpahiipfmccbiaaDoorH2
namespace Go.Proofs.YtpahiipfmccbiaaDoor
open Go.RowKit

/-- All lengths, added up. -/
def tot (l : List (List UInt8)) : Nat := (l.map List.length).sum
theorem tot_append (a b : List (List UInt8)) : tot (a ++ b) = tot a + tot b := by simp [tot]
theorem tot_shorten (name : List UInt8) (l : List (List UInt8)) : tot (shorten name l) ≤ tot l := by
  unfold shorten
  split
  · exact Nat.le_refl _
  · split
    · exact Nat.le_refl _
    · exact Nat.zero_le _
  · rename_i h1 h2
    have : l = l.dropLast ++ [l.getLast (by intro e; exact h1 e)] := (List.dropLast_concat_getLast _).symm
    conv => rhs; rw [this, tot_append]
    omega
theorem tot_put (name : List UInt8) (l : List (List UInt8)) (p : List Int) (last : Bool) : tot (putP name l p last) ≤ tot l + (enc p).length := by
  have h0 := tot_shorten name l
  have e0 : tot [[]] = 0 := rfl
  unfold putP
  split
  · split
    · rw [tot_append, e0]; omega
    · omega
  · split
    · split
      · rw [tot_append, e0]; omega
      · omega
    · split
      · rename_i hc
        simp only [Bool.and_eq_true] at hc
        obtain ⟨x, y, he, _, _⟩ := drive_bytes hc.2
        rw [he, tot_append]
        simp [tot]
      · rw [tot_append]; simp [tot]
theorem tot_walkGo (name : List UInt8) (sp : Bool) : ∀ (rs cur : List Int) (l : List (List UInt8)), tot (walkGo name sp cur rs l) ≤ tot l + (enc cur).length + (enc rs).length
  | [], cur, l => by rw [walkGo]; have := tot_put name l cur true; have : (enc []).length = 0 := rfl; omega
  | r :: t, cur, l => by
    have e1 : (enc (r :: t)).length = (enc [r]).length + (enc t).length := by simp [enc]
    have e2 : (enc (cur ++ [r])).length = (enc cur).length + (enc [r]).length := by simp [enc]
    have e3 : (enc []).length = 0 := rfl
    rw [walkGo]
    split
    · have h1 := tot_walkGo name sp t [] (putP name l cur false)
      have h2 := tot_put name l cur false
      omega
    · have h1 := tot_walkGo name sp t (cur ++ [r]) l
      omega
theorem join_tot : ∀ (gs : List (List UInt8)), (Lib.join gs [47]).length ≤ tot gs + gs.length
  | [] => by simp [Lib.join_nil]
  | [s] => by rw [Lib.join_one]; simp [tot]
  | s :: s2 :: t => by
    have h2 := join_tot (s2 :: t)
    have e : tot (s :: s2 :: t) = s.length + tot (s2 :: t) := by simp [tot]
    rw [join_cons2, List.length_append, List.length_cons, List.length_cons (a := s), e]
    omega

set_option maxHeartbeats 4000000 in
set_option maxRecDepth 100000 in
theorem again_main (u : UInt8) (name : List UInt8) (hname : nameAt u name) (sp : Bool) (hsp : special name = sp) (hx : (name == [120]) = !sp) (hnl : name.length ≤ 1048576)
    (l : List Int) (A : Option Addr) (c : Nat) (w : World) (hm : Mx 0 w) (hA : Rd w w.heap.size A (runV l)) (hl : l.length ≤ 300) (hc : l.length ≤ c) :
    Calls Tryd.prog 6 #[.int .u8 u.toNat, .slice A l.length c] w fun e w' => e = .returned (.bool true) ∧ Below w.heap.size w w' := by
  unfold nameAt at hname
  have hg := goodL_walk name l
  rw [hsp] at hg
  have Hg := Lib.hid hg.all
  have Hj := Lib.hid (walk_join name l)
  have hjt := join_tot (walk name [] l)
  have htt := tot_walkGo name (special name) l [] []
  have hel := enc_le l
  have hwl := walk_len name [] l
  have hne := walk_ne name [] l
  have Hmem : Hid (∀ s ∈ walk name [] l, s.length ≤ 3600) := by
    refine walkGo_mem name (special name) 3600 (by omega) l [] [] (by simp) (by have : (enc []).length = 0 := rfl; omega)
  have Hne := Lib.hid hne
  have hlj : (Lib.join (walk name [] l) [47]).length ≤ 4000 := by
    have e1 : (enc []).length = 0 := rfl
    have e2 : tot [] = 0 := rfl
    have e3 : tot (walk name [] l) = tot (walkGo name (special name) [] l []) := rfl
    simp only [List.length_nil] at hwl
    omega
  have hrl := runes_le (Lib.join (walk name [] l) [47])
  simp only [List.length_nil] at hwl
  have hP0 : (((walk name [] l).length : Int) == 0) = false := by
    rw [beq_eq_false_iff_ne]; intro e; exact hne (List.eq_nil_of_length_eq_zero (by omega))
  generalize hPP : walk name [] l = P at *
  have HPP := Lib.hid hPP
  have HA := Lib.hid hA
  have Hm := Lib.hid hm
  clear hPP hA hm hg hsp htt hjt hel hne
  cases sp
  · have f1 : (name == [120]) = !_ := hx
    simp only [Bool.not_false] at f1
    clear hx
    go_enter Tryd.func6, Tryd.ntmps6
    go_wp2_with fail
    have hb0 : Below w.heap.size w (w.alloc (Obj.cells #[Value.string { data := #[104, 116, 116, 112] }, Value.string { data := #[102, 105, 108, 101] }, Value.string { data := #[120] }] 9)) := (Below.refl _ w).alloc (Nat.le_refl _) _
    refine (walk_from name [] none 0 A c l hb0 (Rd.nil _ _ _) ((HA.out.below hb0).more hb0.size) (by simp) (by omega) hc hnl (by simp) Hm.out).mono ?_
    rw [HPP.out]
    rintro e w1 ⟨A1, c1, rfl, hown1, hb1, hb01⟩
    obtain ⟨A1', c1', hv, hc1⟩ := own_slice_le hown1
    obtain ⟨rfl, rfl⟩ : A1 = A1' ∧ c1 = c1' := by injection hv with h1 _ h2; exact ⟨h1, h2⟩
    have Hr1 := Lib.hid (Rd.of_own hown1)
    obtain ⟨g, rfl⟩ : ∃ g, A1 = some ⟨g, 0, none⟩ := by
      rcases hown1.2 with ⟨_, h0⟩ | ⟨g, cap, cur, hv, _⟩
      · rw [h0] at hP0; exact absurd hP0 (by decide)
      · injection hv with h1; exact ⟨g, h1⟩
    clear hown1 hb01 hv
    go_wp2_with fail
    go_loopw [8, 26] (fun _ i wr => ∃ k : Nat, k ≤ P.length ∧ i = .int .i64 k ∧ Below w1.heap.size w1 wr) (fun _ i _ => P.length - (intOf i).toNat)
    case atStart => exact ⟨0, Nat.zero_le _, rfl, Below.refl _ _⟩
    case round =>
      obtain ⟨k, hk, rfl, hbr⟩ := hrel
      have hbw := hb1.trans (hbr.mono hb1.size)
      by_cases hlt : k < P.length
      · have hcell : wr.cell? ⟨g, k, none⟩ = some (.string ⟨P[k].toArray⟩) := by
          have := (Hr1.out.below hbr).cell (strV_get (List.getElem?_eq_getElem hlt))
          rwa [Nat.zero_add] at this
        have hG := Hg.out P[k] (List.getElem_mem hlt)
        have hml := Hmem.out P[k] (List.getElem_mem hlt)
        have Hs1 := Lib.hid hG.s1
        have Hs2 := Lib.hid hG.s2
        have H47 := Lib.hid (good_no47 hG)
        have hsz := size_arr P[k]
        have Hbr := Lib.hid hbr
        clear hG hbr hb1
        go_wp2_with fail
        refine (single_is P[k] false Hs1.out wr (by omega) (Hm.out.below hbw)).mono ?_
        rintro e w2 ⟨rfl, hb2⟩
        have hbw2 := hbw.trans (hb2.mono hbw.size)
        have hbr2 := Hbr.out.trans (hb2.mono Hbr.out.size)
        go_wp2_with fail
        refine (double_is P[k] false Hs2.out w2 (by omega) (Hm.out.below hbw2)).mono ?_
        rintro e w3 ⟨rfl, hb3⟩
        have hbr3 := hbr2.trans (hb3.mono hbr2.size)
        go_wp2_with (go_at_call 24; refine (contains_no P[k] _ H47.out w3).mono ?_; rintro e w' ⟨rfl, rfl⟩)
        exact ⟨⟨k + 1, by omega, by go_num, hbr3⟩, by simp [intOf]; omega⟩
      · have Hrr := Lib.hid ((Hr1.out.below hbr).more hbr.size)
        have Hb := Lib.hid hbw
        clear hbr hb1 hbw
        go_wp2_with fail
        refine (joined_any g c1 P wr Hrr.out Hne.out (by omega) hc1 (by omega)).mono ?_
        rintro e w2 ⟨A2, c2, rfl, hrd2, hc2, hb2⟩
        have hbw2 := Hb.out.trans (hb2.mono Hb.out.size)
        have Hr2 := Lib.hid ((Hrr.out.below hb2).more hb2.size)
        clear hb2
        go_wp2_with fail
        refine (walk_from name [] none 0 A2 c2 (runes (Lib.join P [47])) hbw2 (Rd.nil _ _ _) hrd2 (by simp) (by omega) hc2 hnl (by simp) Hm.out).mono ?_
        rw [Hj.out]
        rintro e w3 ⟨A3, c3, rfl, hown3, hb3, hb32⟩
        have hr3 := Rd.of_own hown3
        have Hr3 := Lib.hid hr3
        have Hr23 := Lib.hid ((Hr2.out.below hb32).more hb32.size)
        clear hown3 hr3 hb32 hrd2 hbw2
        go_wp2_with fail
        refine (texts_same A3 (some ⟨g, 0, none⟩) c3 c1 P P rfl hb3 Hr3.out Hr23.out (by omega)).mono ?_
        rintro e w4 ⟨rfl, hb4⟩
        go_wp2_with fail
        refine (calls_later (awake_any w4 (Hm.out.below hb4)) hb4).mono ?_
        rintro e w5 ⟨rfl, hb5⟩
        go_wp2
        go_ret
        exact ⟨rfl, hb5⟩
  · have f1 : (name == [120]) = !_ := hx
    simp only [Bool.not_true] at f1
    clear hx
    go_enter Tryd.func6, Tryd.ntmps6
    go_wp2_with fail
    have hb0 : Below w.heap.size w (w.alloc (Obj.cells #[Value.string { data := #[104, 116, 116, 112] }, Value.string { data := #[102, 105, 108, 101] }, Value.string { data := #[120] }] 9)) := (Below.refl _ w).alloc (Nat.le_refl _) _
    refine (walk_from name [] none 0 A c l hb0 (Rd.nil _ _ _) ((HA.out.below hb0).more hb0.size) (by simp) (by omega) hc hnl (by simp) Hm.out).mono ?_
    rw [HPP.out]
    rintro e w1 ⟨A1, c1, rfl, hown1, hb1, hb01⟩
    obtain ⟨A1', c1', hv, hc1⟩ := own_slice_le hown1
    obtain ⟨rfl, rfl⟩ : A1 = A1' ∧ c1 = c1' := by injection hv with h1 _ h2; exact ⟨h1, h2⟩
    have Hr1 := Lib.hid (Rd.of_own hown1)
    obtain ⟨g, rfl⟩ : ∃ g, A1 = some ⟨g, 0, none⟩ := by
      rcases hown1.2 with ⟨_, h0⟩ | ⟨g, cap, cur, hv, _⟩
      · rw [h0] at hP0; exact absurd hP0 (by decide)
      · injection hv with h1; exact ⟨g, h1⟩
    clear hown1 hb01 hv
    go_wp2_with fail
    go_loopw [8, 26] (fun _ i wr => ∃ k : Nat, k ≤ P.length ∧ i = .int .i64 k ∧ Below w1.heap.size w1 wr) (fun _ i _ => P.length - (intOf i).toNat)
    case atStart => exact ⟨0, Nat.zero_le _, rfl, Below.refl _ _⟩
    case round =>
      obtain ⟨k, hk, rfl, hbr⟩ := hrel
      have hbw := hb1.trans (hbr.mono hb1.size)
      by_cases hlt : k < P.length
      · have hcell : wr.cell? ⟨g, k, none⟩ = some (.string ⟨P[k].toArray⟩) := by
          have := (Hr1.out.below hbr).cell (strV_get (List.getElem?_eq_getElem hlt))
          rwa [Nat.zero_add] at this
        have hG := Hg.out P[k] (List.getElem_mem hlt)
        have hml := Hmem.out P[k] (List.getElem_mem hlt)
        have Hs1 := Lib.hid hG.s1
        have Hs2 := Lib.hid hG.s2
        have H47 := Lib.hid (good_no47 hG)
        have H92 := Lib.hid (good_no92 hG)
        have hsz := size_arr P[k]
        have Hbr := Lib.hid hbr
        clear hG hbr hb1
        go_wp2_with fail
        refine (single_is P[k] false Hs1.out wr (by omega) (Hm.out.below hbw)).mono ?_
        rintro e w2 ⟨rfl, hb2⟩
        have hbw2 := hbw.trans (hb2.mono hbw.size)
        have hbr2 := Hbr.out.trans (hb2.mono Hbr.out.size)
        go_wp2_with fail
        refine (double_is P[k] false Hs2.out w2 (by omega) (Hm.out.below hbw2)).mono ?_
        rintro e w3 ⟨rfl, hb3⟩
        have hbr3 := hbr2.trans (hb3.mono hbr2.size)
        go_wp2_with (go_at_call 24; refine (contains_no P[k] _ (by first | exact H47.out | exact H92.out) w3).mono ?_; rintro e w' ⟨rfl, rfl⟩)
        exact ⟨⟨k + 1, by omega, by go_num, hbr3⟩, by simp [intOf]; omega⟩
      · have Hrr := Lib.hid ((Hr1.out.below hbr).more hbr.size)
        have Hb := Lib.hid hbw
        clear hbr hb1 hbw
        go_wp2_with fail
        refine (joined_any g c1 P wr Hrr.out Hne.out (by omega) hc1 (by omega)).mono ?_
        rintro e w2 ⟨A2, c2, rfl, hrd2, hc2, hb2⟩
        have hbw2 := Hb.out.trans (hb2.mono Hb.out.size)
        have Hr2 := Lib.hid ((Hrr.out.below hb2).more hb2.size)
        clear hb2
        go_wp2_with fail
        refine (walk_from name [] none 0 A2 c2 (runes (Lib.join P [47])) hbw2 (Rd.nil _ _ _) hrd2 (by simp) (by omega) hc2 hnl (by simp) Hm.out).mono ?_
        rw [Hj.out]
        rintro e w3 ⟨A3, c3, rfl, hown3, hb3, hb32⟩
        have hr3 := Rd.of_own hown3
        have Hr3 := Lib.hid hr3
        have Hr23 := Lib.hid ((Hr2.out.below hb32).more hb32.size)
        clear hown3 hr3 hb32 hrd2 hbw2
        go_wp2_with fail
        refine (texts_same A3 (some ⟨g, 0, none⟩) c3 c1 P P rfl hb3 Hr3.out Hr23.out (by omega)).mono ?_
        rintro e w4 ⟨rfl, hb4⟩
        go_wp2_with fail
        refine (calls_later (awake_any w4 (Hm.out.below hb4)) hb4).mono ?_
        rintro e w5 ⟨rfl, hb5⟩
        go_wp2
        go_ret
        exact ⟨rfl, hb5⟩

set_option maxHeartbeats 1000000 in
set_option maxRecDepth 100000 in
theorem again_law (u : UInt8) (l : List Int) (A : Option Addr) (c : Nat) (w : World) (hm : Mx 0 w) (hA : Rd w w.heap.size A (runV l)) (hl : l.length ≤ 9223372036854775807) (hc : l.length ≤ c) :
    Calls Tryd.prog 6 #[.int .u8 u.toNat, .slice A l.length c] w fun e w' => e = .returned (.bool true) ∧ Below w.heap.size w w' := by
  by_cases h : l.length ≤ 300
  · have h3 : u.toNat % 3 = 0 ∨ u.toNat % 3 = 1 ∨ u.toNat % 3 = 2 := by omega
    rcases h3 with h3 | h3 | h3
    · exact again_main u [104, 116, 116, 112] (by unfold nameAt; rw [h3]; rfl) true (by decide) (by decide) (by decide) l A c w hm hA h hc
    · exact again_main u [102, 105, 108, 101] (by unfold nameAt; rw [h3]; rfl) true (by decide) (by decide) (by decide) l A c w hm hA h hc
    · exact again_main u [120] (by unfold nameAt; rw [h3]; rfl) false (by decide) (by decide) (by decide) l A c w hm hA h hc
  · have f1 : (300 : Int) < (l.length : Int) := by omega
    clear h
    go_enter Tryd.func6, Tryd.ntmps6
    go_wp2_with (go_at_call 8; refine (awake_any w hm).mono ?_; rintro e w' ⟨rfl, hb⟩)
    go_ret
    exact ⟨rfl, hb⟩
#print axioms again_law
end Go.Proofs.YtpahiipfmccbiaaDoor
