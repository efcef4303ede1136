/- Walks: the law PathTells, a text, code points, a scheme and a path that are not too long. -/
import Derived.Test.YtpahiipfmccbiaaDoorG7
import Derived.Test.YtpahiipfmccbiaaDoorG8
import Derived.Test.YtpahiipfmccbiaaDoorG1
namespace Go.Proofs.YtpahiipfmccbiaaDoor
open Go.RowKit

theorem refWalk_any (name : List UInt8) (A : Option Addr) (c : Nat) (ls : List (List UInt8)) (T : Option Addr) (d : Nat) (rs : List Int) (w : World) (B : Nat) (hA : Rd w B A (strV ls)) (hT : Rd w B T (runV rs)) (hB : B ≤ w.heap.size)
    (hl : ls.length ≤ 524288) (hr : rs.length ≤ 262144) (hd : rs.length ≤ d) (hs : ∀ s ∈ ls, s.length ≤ 70368744177664) :
    Calls Tryd.prog 23 #[.string ⟨name.toArray⟩, .slice A ls.length c, .slice T rs.length d] w (Made (walk name ls rs) w) := by
  cases hsp : special name with
  | false => exact refWalk_G7 name A c ls T d rs w B hA hT hB hl hr hd hs hsp
  | true => exact refWalk_G8 name A c ls T d rs w B hA hT hB hl hr hd hs hsp
/-- What makes a row of texts, somewhere within a call that began at w0. -/
theorem made_from {n : Nat} {args : Array Value} {xs : List (List UInt8)} {w0 w : World} (h : Calls Tryd.prog n args w (Made xs w)) (hb : Below w0.heap.size w0 w) :
    Calls Tryd.prog n args w fun e w' => ∃ A' c', e = .returned (.slice A' xs.length c') ∧ w'.ownsRow w.heap.size 9 1 (.slice A' xs.length c') xs.length (strV xs) ∧ Below w0.heap.size w0 w' ∧ Below w.heap.size w w' := by
  refine h.mono ?_
  rintro e w' ⟨v', rfl, ho, hb'⟩
  obtain ⟨A', c', rfl⟩ := own_slice ho
  exact ⟨A', c', rfl, ho, hb.trans (hb'.mono hb.size), hb'⟩
theorem begins_is (A : Option Addr) (c : Nat) (rs : List Int) (b : Bool) (h : begins rs = b) (w : World) (B : Nat) (hr : Rd w B A (runV rs)) (hl : rs.length ≤ 4294967296) (hc : rs.length ≤ c) :
    Calls Tryd.prog 20 #[.slice A rs.length c] w fun e w' => e = .returned (.bool b) ∧ Below w.heap.size w w' := by
  subst h; exact begins_any A c rs w B hr hl hc
theorem refBegins_is (A : Option Addr) (c : Nat) (rs : List Int) (b : Bool) (h : begins rs = b) (w : World) (B : Nat) (hr : Rd w B A (runV rs)) (hl : rs.length ≤ 4294967296) (hc : rs.length ≤ c) :
    Calls Tryd.prog 21 #[.slice A rs.length c] w fun e w' => e = .returned (.bool b) ∧ w = w' := by
  subst h; exact refBegins_any A c rs w B hr hl hc

set_option maxHeartbeats 4000000 in
set_option maxRecDepth 100000 in
theorem tells_main (s : List UInt8) (l : List Int) (name : List UInt8) (p : List (List UInt8)) (A A' : Option Addr) (c c' : Nat) (w : World) (hm : Mx 0 w) (hA : Rd w w.heap.size A (runV l)) (hA' : Rd w w.heap.size A' (strV p))
    (hc : l.length ≤ c) (hc' : p.length ≤ c') (hs : s.length ≤ 100) (hl : l.length ≤ 300) (hn : name.length ≤ 20) (hf : fewB p = true) :
    Calls Tryd.prog 5 #[.string ⟨s.toArray⟩, .slice A l.length c, .string ⟨name.toArray⟩, .slice A' p.length c'] w fun e w' => e = .returned (.bool true) ∧ Below w.heap.size w w' := by
  have hsz1 := size_arr s
  have hsz2 := size_arr name
  have hpl : p.length ≤ 60 := by simp only [fewB, Bool.and_eq_true, decide_eq_true_eq] at hf; exact hf.1
  have hps : Hid (∀ s ∈ p, s.length ≤ 100) := by
    simp only [fewB, Bool.and_eq_true, List.all_eq_true, decide_eq_true_eq] at hf
    exact hf.2
  have Hf := Lib.hid hf
  have HA := Lib.hid hA
  have HA' := Lib.hid hA'
  have Hm := Lib.hid hm
  obtain ⟨b1, h1⟩ : ∃ b, single s = b := ⟨_, rfl⟩
  obtain ⟨b2, h2⟩ : ∃ b, double s = b := ⟨_, rfl⟩
  obtain ⟨b3, h3⟩ : ∃ b, drive l = b := ⟨_, rfl⟩
  obtain ⟨b4, h4⟩ : ∃ b, begins l = b := ⟨_, rfl⟩
  have H1 := Lib.hid h1
  have H2 := Lib.hid h2
  have H3 := Lib.hid h3
  have H4 := Lib.hid h4
  clear hf hA hA' hm h1 h2 h3 h4
  go_enter Tryd.func5, Tryd.ntmps5
  go_wp2_with (first | (go_at_call 14; refine (few_is A' c' p true Hf.out w _ HA'.out (by omega)).mono ?_; rintro e w1 ⟨rfl, rfl⟩) | (at_builtin; refine wpList_append_texts rfl _ _ rfl w.heap.size _ [] rfl (World.ownsRow_lit w #[] 0 (Nat.le_refl _) (by decide) rfl) w.heap.size A' c' p rfl (HA'.out.alloc (Nat.le_refl _) _) (by simp; omega) (by simp) ?_; intro v4 w4 hown4 hb4'; have hb4 := ((Below.refl _ w).alloc (Nat.le_refl _) (.cells #[] 9)).trans hb4'))
  rw [List.nil_append] at hown4
  obtain ⟨A4, c4, rfl, hc4⟩ := own_slice_le hown4
  have Hown4 := Lib.hid hown4
  have Hr4 := Lib.hid (Rd.of_own hown4)
  clear hown4 hb4'
  refine (single_is s b1 H1.out w4 (by omega) (Hm.out.below hb4)).mono ?_
  rintro e w5 ⟨rfl, hb45⟩
  have hb5 := hb4.trans (hb45.mono hb4.size)
  go_wp2_with fail
  refine (refSingle_is s b1 H1.out w5 (by omega)).mono ?_
  rintro e w' ⟨rfl, rfl⟩
  go_wp2_with fail
  refine (double_is s b2 H2.out w5 (by omega) (Hm.out.below hb5)).mono ?_
  rintro e w6 ⟨rfl, hb56⟩
  have hb6 := hb5.trans (hb56.mono hb5.size)
  have hb46 := hb45.trans (hb56.mono hb45.size)
  clear hb56
  go_wp2_with fail
  refine (refDouble_is s b2 H2.out w6 (by omega)).mono ?_
  rintro e w' ⟨rfl, rfl⟩
  go_wp2_with fail
  refine (drive_eq A c l l.length rfl b3 H3.out w6 _ (HA.out.below hb6)).mono ?_
  rintro e w' ⟨rfl, rfl⟩
  go_wp2_with fail
  refine (refDrive_eq2 A c l l.length rfl b3 H3.out w6 _ (HA.out.below hb6)).mono ?_
  rintro e w' ⟨rfl, rfl⟩
  go_wp2_with fail
  refine (begins_is A c l b4 H4.out w6 _ (HA.out.below hb6) (by omega) hc).mono ?_
  rintro e w7 ⟨rfl, hb67⟩
  have hb7 := hb6.trans (hb67.mono hb6.size)
  have hb47 := hb46.trans (hb67.mono hb46.size)
  clear hb67 hb46 hb45 hb5
  go_wp2_with fail
  refine (refBegins_is A c l b4 H4.out w7 _ (HA.out.below hb7) (by omega) hc).mono ?_
  rintro e w' ⟨rfl, rfl⟩
  go_wp2_with fail
  refine (made_from (shorten_any name A4 c4 p w7 w7.heap.size ((Hr4.out.below hb47).more hb47.size) (Nat.le_refl _) (by omega) hc4 (fun x hx => by have := hps.out x hx; omega)) hb7).mono ?_
  rintro e w8 ⟨A8, c8, rfl, hown8, hb8, hb78⟩
  have hb48 := hb47.trans (hb78.mono hb47.size)
  go_wp2_with fail
  refine (made_from (refShorten_any name A' c' p w8 w8.heap.size ((HA'.out.below hb8).more hb8.size) (Nat.le_refl _) (by omega) hc' (fun x hx => by have := hps.out x hx; omega)) hb8).mono ?_
  rintro e w9 ⟨A9, c9, rfl, hown9, hb9, hb89⟩
  have hb49 := hb48.trans (hb89.mono hb48.size)
  have hshl := shorten_len name p
  have ht := texts_same_n A8 A9 c8 c9 (shorten name p) (shorten name p) _ _ rfl rfl rfl hb9 (((Rd.of_own hown8).below hb89).more hb89.size) (Rd.of_own hown9) (by omega)
  have Ht := Lib.hid ht
  clear ht hown8 hown9 hb8 hb78 hb89 hb7 hb47
  go_wp2_with fail
  refine Ht.out.mono ?_
  rintro e w10 ⟨rfl, hb10, hb9t⟩
  have hb410 := hb49.trans (hb9t.mono hb49.size)
  clear hb48 hb49 hb9t
  go_wp2_with fail
  refine (walk_from name p A4 c4 A c l hb10 ((Hr4.out.below hb410).more hb410.size) ((HA.out.below hb10).more hb10.size) (by omega) (by omega) hc (by omega) (fun x hx => by have := hps.out x hx; omega) Hm.out).mono ?_
  rintro e w11 ⟨A11, c11, rfl, hown11, hb11, hbt⟩
  have hb411 := hb410.trans (hbt.mono hb410.size)
  clear hbt
  go_wp2_with fail
  refine (made_from (refWalk_any name A' c' p A c l w11 w11.heap.size ((HA'.out.below hb11).more hb11.size) ((HA.out.below hb11).more hb11.size) (Nat.le_refl _) (by omega) (by omega) hc (fun x hx => by have := hps.out x hx; omega)) hb11).mono ?_
  rintro e w12 ⟨A12, c12, rfl, hown12, hb12, hbt⟩
  have hb412 := hb411.trans (hbt.mono hb411.size)
  have hwl := walk_len name p l
  have ht2 := texts_same_n A11 A12 c11 c12 (walk name p l) (walk name p l) _ _ rfl rfl rfl hb12 (((Rd.of_own hown11).below hbt).more hbt.size) (Rd.of_own hown12) (by omega)
  have Ht2 := Lib.hid ht2
  clear ht2 hown11 hown12 hb11 hbt hb411 hb410 hb10
  go_wp2_with fail
  refine Ht2.out.mono ?_
  rintro e w13 ⟨rfl, hb13, hbt⟩
  have hb413 := hb412.trans (hbt.mono hb412.size)
  clear hbt hb412 hb12
  go_wp2_with fail
  refine (texts_same_n A4 A' c4 c' p p p.length p.length rfl rfl rfl hb13 ((Hr4.out.below hb413).more hb413.size) ((HA'.out.below hb13).more hb13.size) (by omega)).mono ?_
  rintro e w14 ⟨rfl, hb14, -⟩
  go_wp2_with fail
  refine (calls_later (awake_any w14 (Hm.out.below hb14)) hb14).mono ?_
  rintro e w15 ⟨rfl, hb15⟩
  go_wp2
  go_ret
  exact ⟨rfl, hb15⟩
#print axioms tells_main
end Go.Proofs.YtpahiipfmccbiaaDoor
