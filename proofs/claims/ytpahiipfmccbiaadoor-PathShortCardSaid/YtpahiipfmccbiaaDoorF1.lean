/- Walks: the law PathShort, a path of no segment, or of two or more. (Printed by short.py.) -/
import Derived.Test.YtpahiipfmccbiaaDoorE3
namespace Go.Proofs.YtpahiipfmccbiaaDoor
open Go.RowKit

set_option maxHeartbeats 2000000 in
set_option maxRecDepth 100000 in
theorem short_many (p : List (List UInt8)) (A : Option Addr) (c : Nat) (name : List UInt8) (w : World) (hm : Mx 0 w) (hA : Rd w w.heap.size A (strV p)) (hc : p.length ≤ c) (hf : fewB p = true) (hn : name.length ≤ 20) (h2 : p.length ≠ 1)
    (fb : Bool) (hfb : (name == [102, 105, 108, 101]) = fb) :
    Calls Tryd.prog 4 #[.slice A p.length c, .string ⟨name.toArray⟩] w fun e w' => e = .returned (.bool true) ∧ Below w.heap.size w w' := by
  have hsz := size_arr name
  have hl : p.length ≤ 60 := by simp only [fewB, Bool.and_eq_true, decide_eq_true_eq] at hf; exact hf.1
  have hsl : Hid (∀ s ∈ p, s.length ≤ 100) := by
    simp only [fewB, Bool.and_eq_true, List.all_eq_true, decide_eq_true_eq] at hf
    exact hf.2
  have Hf := Lib.hid hf
  have hsh : Hid (shorten name p = p.dropLast) := by
    show _ = _
    match p, h2 with
    | [], _ => rfl
    | x :: y :: t, _ => rfl
  have f1 : ((p.length : Int) == 1) = false := by rw [beq_eq_false_iff_ne]; omega
  have hdl : p.dropLast.length = p.length - 1 := by simp
  have HA := Lib.hid hA
  have Hm := Lib.hid hm
  clear hf hA hm
  go_enter Tryd.func4, Tryd.ntmps4
  go_wp2_with (first | (go_at_call 14; refine (few_is A c p true Hf.out w _ HA.out (by omega)).mono ?_; rintro e w1 ⟨rfl, rfl⟩) | (at_builtin; refine wpList_append_texts rfl _ _ rfl w.heap.size _ [] rfl (World.ownsRow_lit w #[] 0 (Nat.le_refl _) (by decide) rfl) w.heap.size A c p rfl (HA.out.alloc (Nat.le_refl _) _) (by simp; omega) (by simp) ?_; intro v4 w4 hown4 hb4'; have hb4 := ((Below.refl _ w).alloc (Nat.le_refl _) (.cells #[] 9)).trans hb4'))
  rw [List.nil_append] at hown4
  obtain ⟨A4, c4, rfl, hc4⟩ := own_slice_le hown4
  refine (shorten_from name A c p p.dropLast hsh.out hb4 ((HA.out.below hb4).more hb4.size) (by omega) hc (fun s h => by have := hsl.out s h; omega)).mono ?_
  rintro e w7 ⟨A7, c7, rfl, hown7, hb7, hb74⟩
  obtain ⟨n, hn7⟩ : ∃ n, n = p.length - 1 := ⟨_, rfl⟩
  have hdn : p.dropLast.length = n := by rw [hdl, hn7]
  have hmx : (max ((p.length : Int) - 1) 0).toNat = n := by omega
  have hn60 : n ≤ 60 := by omega
  have Hdl : Hid (∀ s ∈ p.dropLast.drop 0, s.length ≤ 100) := fun s h => hsl.out s (by rw [List.drop_zero, List.dropLast_eq_take] at h; exact List.mem_of_mem_take h)
  have Hrd : Hid (Rd w w.heap.size A (strV p.dropLast)) := by
    have := HA.out.take (p.length - 1)
    rw [strV, ← List.map_take] at this
    show Rd _ _ _ _
    rw [List.dropLast_eq_take]
    exact this
  have Hs4 := Lib.hid hb4.size
  have Hr4 := Lib.hid ((Rd.of_own hown4).below hb74)
  have Hb74 := Lib.hid hb74.size
  rw [hdn] at hown7 ⊢
  have ht := texts_same_n A7 A c7 c p.dropLast p.dropLast n (max ((p.length : Int) - 1) 0).toNat hdn (by rw [hdn, hmx]) rfl hb7 (Rd.of_own hown7) ((Hrd.out.below hb7).more hb7.size) (by omega)
  have Ht := Lib.hid ht
  have Hdn := Lib.hid hdn
  have Hn7 := Lib.hid hn7
  have Hmx := Lib.hid hmx
  have Hown := Lib.hid hown7
  clear ht hdl hdn hn7 hmx hown7 hown4 hb4 hb4'
  cases fb
  all_goals
    go_wp2_with fail
    refine Ht.out.mono ?_
    rintro e w8 ⟨rfl, hb8, hb87⟩
    have Hown8 := Lib.hid (own_below Hown.out hb87 (Nat.le_refl _))
    have Hr48 := Lib.hid (Hr4.out.below (hb87.mono Hb74.out))
    have Hb8 := Lib.hid hb8
    have Hs := Lib.hid (Nat.le_trans Hb74.out hb87.size)
    clear hb8 hb87
    go_wp2_with fail
    go_loopw [67] (fun i wr => ∃ (k : Nat) (xs : List (List UInt8)), k ≤ n ∧ i = .int .i64 k ∧ wr.ownsRow w4.heap.size 9 1 (.slice A7 n c7) n (strV xs) ∧ Below w4.heap.size w8 wr ∧ Hid (∀ s ∈ xs.drop k, s.length ≤ 100)) (fun i _ => n - (intOf i).toNat)
    case atStart => exact ⟨0, _, Nat.zero_le _, rfl, Hown8.out, Below.refl _ _, Hdl.out⟩
    case round =>
      obtain ⟨k, xs, hk, rfl, ho, hb, hx⟩ := hrel
      by_cases hlt : k < n
      · obtain ⟨g, hxk, rfl, hg, hcell, hfz, hst⟩ := own_at ho hlt
        have hxl : xs[k].length ≤ 100 := hx.out _ (by rw [List.drop_eq_getElem_cons hxk]; exact List.mem_cons_self ..)
        have Hst : Hid (∀ s' : List UInt8, (wr.setCell ⟨g, k, none⟩ (.string ⟨s'.toArray⟩)).ownsRow w4.heap.size 9 1 (.slice (some ⟨g, 0, none⟩) n c7) n (strV (xs.set k s'))) := hst
        have Hb := Lib.hid hb
        have Ho := Lib.hid ho
        have hsx := size_arr xs[k]
        clear hst hb ho
        go_wp2
        have ee : (⟨xs[k].toArray⟩ : ByteArray) ++ ⟨#[120]⟩ = ⟨(xs[k] ++ [120]).toArray⟩ := by
          apply ByteArray.ext
          simp
        rw [ee]
        refine ⟨⟨k + 1, xs.set k (xs[k] ++ [120]), by omega, by go_num, Hst.out _, Hb.out.setCell (p := ⟨g, k, none⟩) hg _, ?_⟩, by simp [intOf]; omega⟩
        intro s hs
        rw [List.drop_set_of_lt (by omega)] at hs
        exact hx.out s (by rw [List.drop_eq_getElem_cons hxk]; exact List.mem_cons_of_mem _ hs)
      · have hb8 := Hb8.out.trans (hb.mono Hs4.out)
        have ht2 := texts_same_n A A4 c c4 p p p.length p.length rfl rfl rfl hb8 ((HA.out.below hb8).more hb8.size) ((Hr48.out.below hb).more (Nat.le_trans Hs.out hb.size)) (by omega)
        have Ht2 := Lib.hid ht2
        clear ht2 hb ho
        go_wp2_with fail
        refine Ht2.out.mono ?_
        rintro e w9 ⟨rfl, hb9, -⟩
        go_wp2_with fail
        refine (calls_later (awake_any w9 (Hm.out.below hb9)) hb9).mono ?_
        rintro e w10 ⟨rfl, hb10⟩
        go_wp2
        go_ret
        exact ⟨rfl, hb10⟩
end Go.Proofs.YtpahiipfmccbiaaDoor
