/- Law: SixShort answers true at every address and every two numbers. (Printed by sixshort.py.) -/
import Derived.Test.YtmobeppmdakjmaaDoorT6
import Derived.Deep.Cut
namespace Go.Proofs.YtmobeppmdakjmaaDoor
open Go.RowKit

set_option maxHeartbeats 16000000 in
set_option maxRecDepth 100000 in
theorem sixShort_main (x : List Nat) (h8 : x.length = 8) (hx : ∀ n ∈ x, n < 65536) (m a : UInt8) (k mm : Nat) (hk8 : k < 8) (hm1 : 1 ≤ mm) (hkm : k + mm ≤ 8) (f1 : (a.toNat : Int) % 8 = (k : Int)) (f2 : 1 + (m.toNat : Int) % (8 - (k : Int)) = (mm : Int)) (w : World) (ho : Ok6 w) :
    Calls Tryd.prog 9 #[addrV x, .int .u8 a.toNat, .int .u8 m.toNat] w fun e w' => e = .returned (.bool true) ∧ Below w.heap.size w w' := by
  have hm := m.toNat_lt
  have ha := a.toNat_lt
  have Hrun := Lib.hid (fun W => run_any x h8 hx W)
  have Hshow := Lib.hid (fun W h => show6_any x h8 hx W h)
  have hR := run6_runs h8
  have hcnt := show6_count h8 hx
  have hlen := show6_len h8 hx
  have hwant := show6_want h8
  have Hfull := Lib.hid (fun W h => full_any x h8 hx [] none 0 W W.heap.size (Nat.le_refl _) (Rd.nil _ _ _) h)
  have x9 := Lib.hid (fun W h => awake6_true W h)
  have Hsh := Lib.hid (full6_short100 [] hx)
  obtain ⟨F, hF⟩ : ∃ F, full6 [] x = F := ⟨_, rfl⟩
  have hFl : F.length = 8 := by rw [← hF, full6_len, h8]
  rw [show ([] : List UInt8).map (·.toNat) = [] from rfl, hF] at Hfull
  rw [hF] at Hsh hwant
  obtain ⟨⟨p, q⟩, hpq⟩ : ∃ t, run6 x = t := ⟨_, rfl⟩
  rw [hpq] at Hrun hR hcnt hwant
  simp only at hR hcnt hwant
  have HRn := Lib.hid hR
  obtain ⟨s, hs⟩ : ∃ s, show6 x = s := ⟨_, rfl⟩
  rw [hs] at Hshow hcnt hlen hwant
  obtain ⟨cn, hcn⟩ : ∃ cn, min q 1 = cn := ⟨_, rfl⟩
  rw [hcn] at hcnt
  have Hcount := Lib.hid (fun W h => count_any s (by omega) cn hcnt W h)
  have Hwant := Lib.hid hwant
  have HFl := Lib.hid hFl
  have H8 := Lib.hid h8
  have hin := hR.in_
  have hmany := hR.many
  have HA : Hid (Addr8 w.heap.size x (w.alloc (.cells (u16V x).toArray 44))) := World.alloc_heap_new w _
  have hb0 : Below w.heap.size w (w.alloc (.cells (u16V x).toArray 44)) := (Below.refl _ w).alloc (Nat.le_refl _) _
  have Hb0 := Lib.hid hb0
  have Ho := Lib.hid (ho.below hb0)
  have hsz := size_str s
  obtain ⟨c0, c1, c2, c3, c4, c5, c6, c7, hxe⟩ := eight h8
  have hcx : (u16V x).toArray = #[.int .u16 (c0 : Int), .int .u16 (c1 : Int), .int .u16 (c2 : Int), .int .u16 (c3 : Int), .int .u16 (c4 : Int), .int .u16 (c5 : Int), .int .u16 (c6 : Int), .int .u16 (c7 : Int)] := by rw [hxe]; rfl
  have Hblk : Hid (∀ N W, Addr8 N x W → W.heap[N]? = some (.cells #[.int .u16 (c0 : Int), .int .u16 (c1 : Int), .int .u16 (c2 : Int), .int .u16 (c3 : Int), .int .u16 (c4 : Int), .int .u16 (c5 : Int), .int .u16 (c6 : Int), .int .u16 (c7 : Int)] 44 (0, 0))) := fun N W h => by rw [← hcx]; exact h
  unfold addrV at *
  rw [hcx] at Hrun Hshow Hfull Hb0 Ho HA ⊢
  clear hcx hxe hb0 ho hcnt hlen hwant hFl hF hR hpq hs hx h8
  go_enter Tryd.func9, Tryd.ntmps9
  generalize hW : w.alloc (.cells #[.int .u16 (c0 : Int), .int .u16 (c1 : Int), .int .u16 (c2 : Int), .int .u16 (c3 : Int), .int .u16 (c4 : Int), .int .u16 (c5 : Int), .int .u16 (c6 : Int), .int .u16 (c7 : Int)] 44) = W at *
  have HW := Lib.hid hW
  clear hW
  go_wp2_with fail
  rw [HW.out]
  refine (Hrun.out W).mono ?_
  rintro e1 w1 ⟨rfl, hc⟩
  have HA1 := Lib.hid (HA.out.below hc)
  have Ho1 := Lib.hid (Ho.out.below hc)
  have hb1 := Hb0.out.trans (hc.mono Hb0.out.size)
  clear hc HA Ho Hb0 HW Hrun
  obtain ⟨d0, d1, d2, d3, d4, d5, d6, d7⟩ := cells8 (Hblk.out _ _ HA1.out)
  go_wp2_with fail
  refine (Hshow.out _ Ho1.out).mono ?_
  rintro e2 w2 ⟨rfl, hc⟩
  have HA2 := Lib.hid (HA1.out.below hc)
  have Ho2 := Lib.hid (Ho1.out.below hc)
  have hb2 := hb1.trans (hc.mono hb1.size)
  have hN2 : w.heap.size < w2.heap.size := (Array.getElem?_eq_some_iff.1 HA2.out).1
  clear hc HA1 Ho1 hb1 d0 d1 d2 d3 d4 d5 d6 d7
  go_wp2_with fail
  refine (Hcount.out _ Ho2.out.ok).mono ?_
  rintro e3 w3 ⟨rfl, hw3⟩
  subst w3
  clear Hcount Hshow
  rcases hmany with ⟨hq, hp⟩ | hq
  · have e1 : ¬ (1 : Int) < (q : Int) := by omega
    have e2 : ((cn : Int) == (q : Int)) = true := by rw [beq_iff_eq]; omega
    have e3 : ((q : Int) == 1) = false := by rw [beq_eq_false_iff_ne]; omega
    have e4 : ((q : Int) == 0) = true := by rw [beq_iff_eq]; omega
    have e5 : ((p : Int) == 0) = true := by rw [beq_iff_eq]; omega
    have e6 : ¬ (p : Int) < 0 := by omega
    have e7 : ¬ (q : Int) < 0 := by omega
    have e8 : ¬ (8 : Int) < (p : Int) + (q : Int) := by omega
    have e9 : ¬ (0 : Int) < (q : Int) := by omega
    go_wp2
    go_loopw [55] (fun v wr => ∃ i : Nat, i ≤ 8 ∧ v = .int .i64 (i : Int) ∧ wr = w2) (fun v _ => 8 - (intOf v).toNat)
    case atStart => exact ⟨0, Nat.zero_le _, rfl, rfl⟩
    case round =>
      obtain ⟨i, hi, rfl, hwr⟩ := hrel
      replace hwr := hwr.symm
      subst hwr
      by_cases hlt : i < 8
      · have i1 : (i : Int) < 8 := by omega
        obtain ⟨z, hz⟩ : ∃ z, x[i]? = some z := ⟨_, List.getElem?_eq_getElem (by rw [H8.out]; exact hlt)⟩
        have hcell : w2.cell? ⟨w.heap.size, i, none⟩ = some (.int .u16 (z : Int)) := HA2.out.cell hz
        have g1 : (p : Int) ≤ (i : Int) := by omega
        have g2 : ¬ (i : Int) < (p : Int) + (q : Int) := by omega
        clear hz
        go_wp2
        exact ⟨⟨i + 1, by omega, rfl, by trivial⟩, by simp [intOf]; omega⟩
      · obtain rfl : i = 8 := by omega
        have z8 : ((8 : Int) - (k : Int) == 0) = false := by rw [beq_eq_false_iff_ne]; omega
        go_wp2
        go_loopw [14] (fun v wr => ∃ j : Nat, k ≤ j ∧ j ≤ k + mm ∧ v = .int .i64 (j : Int) ∧ wr = w2 ∧ Hid (∀ i, k ≤ i → i < j → x[i]? = some 0)) (fun v _ => k + mm - (intOf v).toNat)
        case atStart => exact ⟨k, Nat.le_refl _, by omega, rfl, rfl, fun i h1 h2 => by omega⟩
        case round =>
          obtain ⟨j, hj0, hj, rfl, hwr, hall⟩ := hrel
          replace hwr := hwr.symm
          subst hwr
          by_cases hlt2 : j < k + mm
          · have i2 : (j : Int) < (k : Int) + (mm : Int) := by omega
            have i3 : (j : Int) < 8 := by omega
            obtain ⟨z, hz⟩ : ∃ z, x[j]? = some z := ⟨_, List.getElem?_eq_getElem (by rw [H8.out]; omega)⟩
            have hcell : w2.cell? ⟨w.heap.size, j, none⟩ = some (.int .u16 (z : Int)) := HA2.out.cell hz
            by_cases hz0 : z = 0
            · subst hz0
              have hall2 : Hid (∀ i, k ≤ i → i < j + 1 → x[i]? = some 0) := fun i h1 h2 => by
                by_cases e : i = j
                · rw [e]; exact hz
                · exact hall.out i h1 (by omega)
              clear hz
              go_wp2
              exact ⟨⟨j + 1, by omega, by omega, rfl, by trivial, hall2.out⟩, by simp [intOf]; omega⟩
            · have g5 : ((z : Int) == 0) = false := by rw [beq_eq_false_iff_ne]; omega
              clear hz hz0
              go_wp2_with fail
              refine (x9.out _ Ho2.out).mono ?_
              rintro e4 w4 ⟨rfl, hc⟩
              go_wp2
              go_ret
              exact ⟨rfl, hb2.trans (hc.mono hb2.size)⟩
          · have hje : j = k + mm := by omega
            have i2 : ¬ (j : Int) < (k : Int) + (mm : Int) := by omega
            have Hall : Hid (∀ i, k ≤ i → i < k + mm → x[i]? = some 0) := fun i h1 h2 => hall.out i h1 (by omega)
            have hmm : mm = 1 := by
              rcases Nat.lt_or_ge mm 2 with h | h
              · omega
              · rcases HRn.out.best k mm h Hall.out with h | h <;> omega
            have j1 : ¬ (1 : Int) < (mm : Int) := by omega
            clear hmm
            obtain ⟨d0, d1, d2, d3, d4, d5, d6, d7⟩ := cells8 (Hblk.out _ _ HA2.out)
            clear hje
            go_wp2_with fail
            refine (Hfull.out _ Ho2.out).mono ?_
            rintro e4 w4 ⟨⟨v, rfl, hown⟩, hc⟩
            obtain ⟨A', c', rfl, hlc⟩ := own_slice_le hown
            have HRow := Lib.hid (Row.of_own hown (by rw [HFl.out]; exact hlc) Hsh.out (by rw [HFl.out]; decide))
            have Ho4 := Lib.hid (Ho2.out.below hc)
            have hb4 := hb2.trans (hc.mono hb2.size)
            have HJ := Lib.hid (join_all HRow.out)
            rw [HFl.out] at HJ
            obtain ⟨t, ht⟩ : ∃ t, Lib.join F [58] = t := ⟨_, rfl⟩
            have feq : (s == t) = true := by
              rw [beq_iff_eq, Hwant.out, if_pos (by omega), ht]
            rw [ht] at HJ
            clear hc hown ht d0 d1 d2 d3 d4 d5 d6 d7
            go_wp2_with fail
            refine HJ.out.mono ?_
            rintro e5 w5 ⟨rfl, hc⟩
            have Ho5 := Lib.hid (Ho4.out.below hc)
            have hb5 := hb4.trans (hc.mono hb4.size)
            clear hc
            go_wp2_with fail
            refine (x9.out _ Ho5.out).mono ?_
            rintro e6 w6 ⟨rfl, hc⟩
            go_wp2
            go_ret
            exact ⟨rfl, hb5.trans (hc.mono hb5.size)⟩
  · have e1 : (1 : Int) < (q : Int) := by omega
    have e2 : ((cn : Int) == 1) = true := by rw [beq_iff_eq]; omega
    have e3 : ((q : Int) == 1) = false := by rw [beq_eq_false_iff_ne]; omega
    have e4 : ((q : Int) == 0) = false := by rw [beq_eq_false_iff_ne]; omega
    have e6 : ¬ (p : Int) < 0 := by omega
    have e7 : ¬ (q : Int) < 0 := by omega
    have e8 : ¬ (8 : Int) < (p : Int) + (q : Int) := by omega
    have e9 : (0 : Int) < (q : Int) := by omega
    go_wp2
    go_loopw [55] (fun v wr => ∃ i : Nat, i ≤ 8 ∧ v = .int .i64 (i : Int) ∧ wr = w2) (fun v _ => 8 - (intOf v).toNat)
    case atStart => exact ⟨0, Nat.zero_le _, rfl, rfl⟩
    case round =>
      obtain ⟨i, hi, rfl, hwr⟩ := hrel
      replace hwr := hwr.symm
      subst hwr
      by_cases hlt : i < 8
      · have i1 : (i : Int) < 8 := by omega
        obtain ⟨z, hz⟩ : ∃ z, x[i]? = some z := ⟨_, List.getElem?_eq_getElem (by rw [H8.out]; exact hlt)⟩
        have hcell : w2.cell? ⟨w.heap.size, i, none⟩ = some (.int .u16 (z : Int)) := HA2.out.cell hz
        by_cases hin2 : p ≤ i
        · have g1 : (p : Int) ≤ (i : Int) := by omega
          by_cases hin3 : i < p + q
          · have g2 : (i : Int) < (p : Int) + (q : Int) := by omega
            have hz0 : z = 0 := by
              have := HRn.out.all_ i hin2 hin3
              rw [hz] at this
              injection this
            have g3 : ((i : Int) == (p : Int) - 1) = false := by rw [beq_eq_false_iff_ne]; omega
            have g4 : ((i : Int) == (p : Int) + (q : Int)) = false := by rw [beq_eq_false_iff_ne]; omega
            subst hz0
            clear hz hin2 hin3
            go_wp2
            exact ⟨⟨i + 1, by omega, rfl, by trivial⟩, by simp [intOf]; omega⟩
          · have g2 : ¬ (i : Int) < (p : Int) + (q : Int) := by omega
            have g3 : ((i : Int) == (p : Int) - 1) = false := by rw [beq_eq_false_iff_ne]; omega
            by_cases he : i = p + q
            · have g4 : ((i : Int) == (p : Int) + (q : Int)) = true := by rw [beq_iff_eq]; omega
              have g5 : ((z : Int) == 0) = false := by
                rw [beq_eq_false_iff_ne]
                intro e
                have := HRn.out.behind (by omega)
                rw [← he, hz] at this
                exact this (congrArg some (by omega))
              clear hz hin2 hin3 he
              go_wp2
              exact ⟨⟨i + 1, by omega, rfl, by trivial⟩, by simp [intOf]; omega⟩
            · have g4 : ((i : Int) == (p : Int) + (q : Int)) = false := by rw [beq_eq_false_iff_ne]; omega
              clear hz hin2 hin3 he
              go_wp2
              exact ⟨⟨i + 1, by omega, rfl, by trivial⟩, by simp [intOf]; omega⟩
        · have g1 : ¬ (p : Int) ≤ (i : Int) := by omega
          have g4 : ((i : Int) == (p : Int) + (q : Int)) = false := by rw [beq_eq_false_iff_ne]; omega
          by_cases he : i + 1 = p
          · have g3 : ((i : Int) == (p : Int) - 1) = true := by rw [beq_iff_eq]; omega
            have g5 : ((z : Int) == 0) = false := by
              rw [beq_eq_false_iff_ne]
              intro e
              have := HRn.out.ahead (by omega) i he
              rw [hz] at this
              exact this (congrArg some (by omega))
            clear hz hin2 he
            go_wp2
            exact ⟨⟨i + 1, by omega, rfl, by trivial⟩, by simp [intOf]; omega⟩
          · have g3 : ((i : Int) == (p : Int) - 1) = false := by rw [beq_eq_false_iff_ne]; omega
            clear hz hin2 he
            go_wp2
            exact ⟨⟨i + 1, by omega, rfl, by trivial⟩, by simp [intOf]; omega⟩
      · obtain rfl : i = 8 := by omega
        have z8 : ((8 : Int) - (k : Int) == 0) = false := by rw [beq_eq_false_iff_ne]; omega
        go_wp2
        go_loopw [14] (fun v wr => ∃ j : Nat, k ≤ j ∧ j ≤ k + mm ∧ v = .int .i64 (j : Int) ∧ wr = w2 ∧ Hid (∀ i, k ≤ i → i < j → x[i]? = some 0)) (fun v _ => k + mm - (intOf v).toNat)
        case atStart => exact ⟨k, Nat.le_refl _, by omega, rfl, rfl, fun i h1 h2 => by omega⟩
        case round =>
          obtain ⟨j, hj0, hj, rfl, hwr, hall⟩ := hrel
          replace hwr := hwr.symm
          subst hwr
          by_cases hlt2 : j < k + mm
          · have i2 : (j : Int) < (k : Int) + (mm : Int) := by omega
            have i3 : (j : Int) < 8 := by omega
            obtain ⟨z, hz⟩ : ∃ z, x[j]? = some z := ⟨_, List.getElem?_eq_getElem (by rw [H8.out]; omega)⟩
            have hcell : w2.cell? ⟨w.heap.size, j, none⟩ = some (.int .u16 (z : Int)) := HA2.out.cell hz
            by_cases hz0 : z = 0
            · subst hz0
              have hall2 : Hid (∀ i, k ≤ i → i < j + 1 → x[i]? = some 0) := fun i h1 h2 => by
                by_cases e : i = j
                · rw [e]; exact hz
                · exact hall.out i h1 (by omega)
              clear hz
              go_wp2
              exact ⟨⟨j + 1, by omega, by omega, rfl, by trivial, hall2.out⟩, by simp [intOf]; omega⟩
            · have g5 : ((z : Int) == 0) = false := by rw [beq_eq_false_iff_ne]; omega
              clear hz hz0
              go_wp2_with fail
              refine (x9.out _ Ho2.out).mono ?_
              rintro e4 w4 ⟨rfl, hc⟩
              go_wp2
              go_ret
              exact ⟨rfl, hb2.trans (hc.mono hb2.size)⟩
          · have hje : j = k + mm := by omega
            have i2 : ¬ (j : Int) < (k : Int) + (mm : Int) := by omega
            have Hall : Hid (∀ i, k ≤ i → i < k + mm → x[i]? = some 0) := fun i h1 h2 => hall.out i h1 (by omega)
            have hbest : ((1 : Int) < (mm : Int)) → (mm : Int) < (q : Int) ∨ (mm : Int) = (q : Int) ∧ (p : Int) ≤ (k : Int) := by
              intro h
              rcases HRn.out.best k mm (by omega) Hall.out with h | h
              · left; omega
              · right; omega
            have Hbest := Lib.hid hbest
            clear hbest hje
            go_upto_region 19 with fail
            go_cut [137] from 17 (fun v wx => v = .bool false ∧ wx = w2)
            case first =>
              by_cases j1 : (1 : Int) < (mm : Int)
              · rcases Hbest.out j1 with j2 | ⟨j2, j3⟩
                · have j3 : ¬ (q : Int) < (mm : Int) := by omega
                  have j4 : ((mm : Int) == (q : Int)) = false := by rw [beq_eq_false_iff_ne]; omega
                  go_wp2_with fail
                  go_meet
                  exact ⟨rfl, rfl⟩
                · have j4 : ¬ (q : Int) < (mm : Int) := by omega
                  have j5 : ((mm : Int) == (q : Int)) = true := by rw [beq_iff_eq]; omega
                  have j6 : ¬ (k : Int) < (p : Int) := by omega
                  clear j2
                  go_wp2_with fail
                  go_meet
                  exact ⟨rfl, rfl⟩
              · go_wp2_with fail
                go_meet
                exact ⟨rfl, rfl⟩
            case rest =>
              obtain ⟨rfl, rfl⟩ := hcut
              obtain ⟨d0, d1, d2, d3, d4, d5, d6, d7⟩ := cells8 (Hblk.out _ _ HA2.out)
              go_wp2_with fail
              refine (Hfull.out _ Ho2.out).mono ?_
              rintro e4 w4 ⟨⟨v, rfl, hown⟩, hc⟩
              obtain ⟨A', c', rfl, hlc⟩ := own_slice_le hown
              have HRow := Lib.hid (Row.of_own hown (by rw [HFl.out]; exact hlc) Hsh.out (by rw [HFl.out]; decide))
              have Ho4 := Lib.hid (Ho2.out.below hc)
              have hb4 := hb2.trans (hc.mono hb2.size)
              have HJ := Lib.hid (join_all HRow.out)
              rw [HFl.out] at HJ
              clear hc hown d0 d1 d2 d3 d4 d5 d6 d7
              go_wp2_with fail
              refine HJ.out.mono ?_
              rintro e5 w5 ⟨rfl, hc⟩
              have Ho5 := Lib.hid (Ho4.out.below hc)
              have hb5 := hb4.trans (hc.mono hb4.size)
              have HRow5 := Lib.hid (HRow.out.below hc)
              obtain ⟨g, off, rfl, _, _⟩ := HRow5.out.rd 0 _ (strV_get (List.getElem?_eq_getElem (show 0 < F.length by rw [HFl.out]; decide)))
              clear hc HRow Ho4 hb4
              obtain ⟨t2, ht2⟩ : ∃ t, Lib.join (F.take p) [58] = t := ⟨_, rfl⟩
              obtain ⟨t3, ht3⟩ : ∃ t, Lib.join (F.drop (p + q)) [58] = t := ⟨_, rfl⟩
              obtain ⟨tm, htm⟩ : ∃ t, t2 ++ [58, 58] = t := ⟨_, rfl⟩
              obtain ⟨tz, htz⟩ : ∃ t, tm ++ t3 = t := ⟨_, rfl⟩
              have feq : (s == tz) = true := by
                rw [beq_iff_eq, Hwant.out, if_neg (by omega), ht2, ht3, htm, htz]
              have l2 : t2.length ≤ 10000 := by rw [← ht2]; exact join_small (fun q hq => Hsh.out q (List.mem_of_mem_take hq)) (by rw [List.length_take, HFl.out]; omega)
              have l3 : t3.length ≤ 10000 := by rw [← ht3]; exact join_small (fun q hq => Hsh.out q (List.mem_of_mem_drop hq)) (by rw [List.length_drop, HFl.out]; omega)
              have HT := Lib.hid (fun V (hv : Below w5.heap.size w5 V) => join_take (HRow5.out.below hv) p (by rw [HFl.out]; omega))
              rw [ht2] at HT
              have HD := Lib.hid (fun V (hv : Below w5.heap.size w5 V) A2 h n hn => join_drop (HRow5.out.below hv) (p + q) (by rw [HFl.out]; omega) A2 h n hn)
              rw [ht3, HFl.out] at HD
              have hs2 := size_str t2
              have hs3 := size_str t3
              have hs4 := size_str tm
              have l4 : tm.length ≤ 10002 := by rw [← htm, List.length_append]; simp only [List.length_cons, List.length_nil]; omega
              have hcat1 : (⟨t2.toArray⟩ : ByteArray) ++ ⟨#[58, 58]⟩ = ⟨tm.toArray⟩ := by rw [← htm]; exact cat6 t2 [58, 58]
              have hcat2 : (⟨tm.toArray⟩ : ByteArray) ++ ⟨t3.toArray⟩ = ⟨tz.toArray⟩ := by rw [← htz]; exact cat6 _ _
              have n0 : IntKind.i64.wrap ((p : Int) + (q : Int)) = (p : Int) + (q : Int) := by rw [IntWalk.i64_in _ (by omega)]
              have n1 : (p : Int) ≤ 8 := by omega
              have n2 : (p : Int) + (q : Int) ≤ 8 := by omega
              have n3 : (p : Int) ≤ (c' : Int) := by omega
              have n4 : ((p : Int) + (q : Int)).toNat = p + q := by omega
              clear ht2 ht3 htm htz
              go_upto_region 24 with fail
              go_cut [16] from 17 (fun v wx => v = .string ⟨tz.toArray⟩ ∧ Below w5.heap.size w5 wx)
              case first =>
                by_cases hcap : c' = p + q
                · have f4 : (p : Int) + (q : Int) = 8 := by omega
                  have HD2 := Lib.hid (fun V hv => HD.out V hv (some ⟨g, off, none⟩) (by rw [if_pos hcap]) 0 (by omega))
                  rw [show c' - (p + q) = 0 by omega] at HD2
                  have hc8 : c' = 8 := by omega
                  subst hc8
                  have Hcap := Lib.hid hcap
                  clear n0 n2 n4 hcap HD
                  go_region_with (go_at_call 26; first | (refine (HD2.out w6 (((Below.refl _ _).drew).trans hc6)).mono ?_; rintro e7 w7 ⟨rfl, hc7⟩) | (refine (HT.out w5.drew ((Below.refl _ _).drew)).mono ?_; rintro e6 w6 ⟨rfl, hc6⟩))
                  all_goals
                    go_wp2_with fail
                    go_meet
                    exact ⟨rfl, ((Below.refl _ _).drew.trans hc6).trans (hc7.mono hc6.size)⟩
                · have HD2 := Lib.hid (fun V hv => HD.out V hv (some ⟨g, off + (p + q), none⟩) (by rw [if_neg hcap]; simp [addr_add]) (8 - (p + q)) rfl)
                  have hcap2 : ¬ (p + q = c') := fun e => hcap e.symm
                  have f7 : (0 : Int) ≤ (p : Int) + (q : Int) := by omega
                  have n5 : (8 : Int) ≤ (c' : Int) := by omega
                  have n6 : (p : Int) + (q : Int) ≤ (c' : Int) := by omega
                  go_region_with (go_at_call 26; first | (refine (HD2.out w6 (((Below.refl _ _).drew).trans hc6)).mono ?_; rintro e7 w7 ⟨rfl, hc7⟩) | (refine (HT.out w5.drew ((Below.refl _ _).drew)).mono ?_; rintro e6 w6 ⟨rfl, hc6⟩))
                  all_goals
                    go_wp2_with fail
                    go_meet
                    exact ⟨rfl, ((Below.refl _ _).drew.trans hc6).trans (hc7.mono hc6.size)⟩
              case rest =>
                obtain ⟨rfl, hc⟩ := hcut
                have Ho6 := Lib.hid (Ho5.out.below hc)
                have hb6 := hb5.trans (hc.mono hb5.size)
                go_wp2_with fail
                refine (x9.out _ Ho6.out).mono ?_
                rintro e8 w8 ⟨rfl, hc⟩
                go_wp2
                go_ret
                exact ⟨rfl, hb6.trans (hc.mono hb6.size)⟩
#print axioms sixShort_main
end Go.Proofs.YtmobeppmdakjmaaDoor
