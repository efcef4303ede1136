/- Law: SixForms answers true at every address, all noughts, and every row of them. (Printed by sixforms.py.) -/
import Derived.Test.YtmobeppmdakjmaaDoorT6
import Derived.Deep.Cut
import Derived.Deep.RegionHeld3
namespace Go.Proofs.YtmobeppmdakjmaaDoor
open Go.RowKit

theorem low_val (y : Nat) (h : y < 65536) : wrap64 (bits BinOp.and IntKind.u16 (y : Int) 255) = ((y % 256 : Nat) : Int) := by
  rw [show bits BinOp.and IntKind.u16 (y : Int) 255 = (y : Int) % 256 from bits_mask .u16 16 (by decide) wraps_u16 8 (by decide) (y : Int) (by omega) (by omega)]
  unfold wrap64
  omega
theorem low_val3 (y : Nat) (h : y < 65536) : IntKind.i64.wrap (bits BinOp.and IntKind.u16 (y : Int) 255) = ((y % 256 : Nat) : Int) := by
  rw [show bits BinOp.and IntKind.u16 (y : Int) 255 = (y : Int) % 256 from bits_mask .u16 16 (by decide) wraps_u16 8 (by decide) (y : Int) (by omega) (by omega)]
  rw [IntWalk.i64_in _ (by omega)]
  omega
theorem low_val2 (y : Nat) (h : y < 65536) : bits BinOp.and IntKind.u16 (y : Int) 255 = ((y % 256 : Nat) : Int) := by
  rw [show bits BinOp.and IntKind.u16 (y : Int) 255 = (y : Int) % 256 from bits_mask .u16 16 (by decide) wraps_u16 8 (by decide) (y : Int) (by omega) (by omega)]
  omega
set_option maxHeartbeats 16000000 in
set_option maxRecDepth 100000 in
theorem sixForms_main (x : List Nat) (h8 : x.length = 8) (hx : ∀ n ∈ x, n < 65536) (nz : List UInt8) (A : Option Addr) (cap : Nat) (m a : UInt8) (k mm : Nat) (hk8 : k < 8) (hm1 : 1 ≤ mm) (hkm : k + mm ≤ 8) (f1 : (a.toNat : Int) % 8 = (k : Int)) (f2 : 1 + (m.toNat : Int) % (8 - (k : Int)) = (mm : Int)) (inner : Bool)
    (w : World) (B0 : Nat) (hB0 : B0 ≤ w.heap.size) (hrd : Rd w B0 A (bytV nz)) (ho : Ok6 w) :
    Calls Tryd.prog 8 #[addrV x, .slice A nz.length cap, .int .u8 a.toNat, .int .u8 m.toNat, .bool inner] w fun e w' => e = .returned (.bool true) ∧ Below w.heap.size w w' := by
  obtain ⟨i0, hi, hz0, hz1, hz2⟩ := info_parts Tryd.info9
  have hm := m.toNat_lt
  have ha := a.toNat_lt
  have hb0 : Below w.heap.size w (w.alloc (.cells (u16V x).toArray 44)) := (Below.refl _ w).alloc (Nat.le_refl _) _
  have Hfull := Lib.hid (full_any x h8 hx nz A cap (w.alloc (.cells (u16V x).toArray 44)) B0 (Nat.le_trans hB0 hb0.size) (hrd.alloc hB0 _) (ho.below hb0))
  have x9 := Lib.hid (fun W h => awake6_true W h)
  have Hsh := Lib.hid (full6_short100 (nz.map (·.toNat)) hx)
  have Hsays := Lib.hid (fun t h hl W ho => says6_true t x h hl W ho)
  have HA0 : Hid (Addr8 w.heap.size x (w.alloc (.cells (u16V x).toArray 44))) := World.alloc_heap_new w _
  have Hp1 := Lib.hid (parse6_full (nz.map (·.toNat)) h8 hx)
  have Hp2 := Lib.hid (fun k n h1 h2 h3 => @parse6_hole (nz.map (·.toNat)) x h8 hx k n h1 h2 h3)
  have Hp3 := Lib.hid (fun a b h6 h7 => @parse6_six (nz.map (·.toNat)) x a b h8 hx h6 h7)
  have Hp4 := Lib.hid (fun a b h6 h7 k n h1 h2 h3 => @parse6_sixhole (nz.map (·.toNat)) x a b h8 hx h6 h7 k n h1 h2 h3)
  obtain ⟨F, hF⟩ : ∃ F, full6 (nz.map (·.toNat)) x = F := ⟨_, rfl⟩
  have hFl : F.length = 8 := by rw [← hF, full6_len, h8]
  have HS6 : Hid (∀ a b, six6 (nz.map (·.toNat)) x a b = F.take 6 ++ [innerOf a b]) := by
    show ∀ a b, _
    intro a b
    unfold six6
    rw [hF]
  rw [hF] at Hfull Hsh Hp1 Hp2
  have HFl := Lib.hid hFl
  have H8 := Lib.hid h8
  have Hx := Lib.hid hx
  have Ho := Lib.hid (ho.below hb0)
  have Hb0 := Lib.hid hb0
  obtain ⟨c0, c1, c2, c3, c4, c5, c6, c7, hxe⟩ := eight h8
  have hcx : (u16V x).toArray = #[.int .u16 (c0 : Int), .int .u16 (c1 : Int), .int .u16 (c2 : Int), .int .u16 (c3 : Int), .int .u16 (c4 : Int), .int .u16 (c5 : Int), .int .u16 (c6 : Int), .int .u16 (c7 : Int)] := by rw [hxe]; rfl
  have Hxe := Lib.hid hxe
  unfold addrV at *
  rw [hcx] at Hfull Hsays Hb0 Ho HA0 ⊢
  clear hcx hxe hb0 ho hrd hF hFl h8 hx hB0
  go_enter Tryd.func8, Tryd.ntmps8
  generalize hW : w.alloc (.cells #[.int .u16 (c0 : Int), .int .u16 (c1 : Int), .int .u16 (c2 : Int), .int .u16 (c3 : Int), .int .u16 (c4 : Int), .int .u16 (c5 : Int), .int .u16 (c6 : Int), .int .u16 (c7 : Int)] 44) = W at *
  have HW := Lib.hid hW
  clear hW
  go_wp2_with fail
  rw [HW.out]
  refine Hfull.out.mono ?_
  rintro e1 w1 ⟨⟨v, rfl, hown⟩, hc⟩
  have HA1 := Lib.hid (HA0.out.below hc)
  have Ho1 := Lib.hid (Ho.out.below hc)
  have hb1 := Hb0.out.trans (hc.mono Hb0.out.size)
  obtain ⟨A', c', rfl, hlc⟩ := own_slice_le hown
  have HRow1 := Lib.hid (Row.of_own hown (by rw [HFl.out]; exact hlc) Hsh.out (by rw [HFl.out]; decide))
  obtain ⟨g, off, rfl, _, _⟩ := HRow1.out.rd 0 _ (strV_get (List.getElem?_eq_getElem (show 0 < F.length by rw [HFl.out]; decide)))
  have z8 : ((8 : Int) - (k : Int) == 0) = false := by rw [beq_eq_false_iff_ne]; omega
  have hN1 : w.heap.size < w1.heap.size := HA1.out.lt
  clear hc hown HA0 Ho Hb0 HW Hfull
  cases inner with
  | false =>
    have HLl1 : Hid (F.length = 8) := HFl.out
    have HJ1 := Lib.hid (fun W (h : Below w1.heap.size w1 W) => join_all (HRow1.out.below h))
    have hlen1 : (F).length = 8 := HLl1.out
    rw [hlen1] at HJ1
    obtain ⟨tj, htj⟩ : ∃ t, Lib.join (F) [58] = t := ⟨_, rfl⟩
    rw [htj] at HJ1
    have HPj := Lib.hid (Hp1.out)
    rw [htj] at HPj
    have Hlj : Hid (tj.length ≤ 100000) := by
      show _ ≤ _
      rw [← htj]
      exact Nat.le_trans (join_small HRow1.out.short HRow1.out.few) (by decide)
    clear htj hlen1
    go_upto_region 12 with fail
    go_cut [83] from 16 (fun v wx => v = .bool false ∧ Below w1.heap.size w1 wx)
    case first =>
      have hbv : Below w1.heap.size w1 w1 := Below.refl _ _
      go_region_held3 (fun w' => w'.cell? ⟨w.heap.size, 0, none⟩ = some (.int .u16 (c0 : Int)) ∧ w'.cell? ⟨w.heap.size, 1, none⟩ = some (.int .u16 (c1 : Int)) ∧ w'.cell? ⟨w.heap.size, 2, none⟩ = some (.int .u16 (c2 : Int)) ∧ w'.cell? ⟨w.heap.size, 3, none⟩ = some (.int .u16 (c3 : Int)) ∧ w'.cell? ⟨w.heap.size, 4, none⟩ = some (.int .u16 (c4 : Int)) ∧ w'.cell? ⟨w.heap.size, 5, none⟩ = some (.int .u16 (c5 : Int)) ∧ w'.cell? ⟨w.heap.size, 6, none⟩ = some (.int .u16 (c6 : Int)) ∧ w'.cell? ⟨w.heap.size, 7, none⟩ = some (.int .u16 (c7 : Int)))
        (first | exact (HA91.out).cells Hxe.out | exact (HA90.out).cells Hxe.out | exact (HA1.out.drew).cells Hxe.out | exact (HA1.out).cells Hxe.out)
        (first
          | (go_at_call 40; first | (refine (Hsays.out tj HPj.out Hlj.out w90 HO90.out).mono ?_; rintro e91 w91 ⟨rfl, hc91⟩; have HA91 := Lib.hid ((HA90.out).below hc91); have HO91 := Lib.hid ((HO90.out).below hc91); have hb91 := (hb90).trans (hc91.mono (hb90).size)))
          | (go_at_call 26; first | (refine (HJ1.out _ hbv.drew).mono ?_; rintro e90 w90 ⟨rfl, hc90⟩; have HA90 := Lib.hid ((HA1.out.drew).below hc90); have HO90 := Lib.hid ((Ho1.out.below ((Below.refl _ _).drew)).below hc90); have hb90 := (hbv.drew).trans (hc90.mono (hbv.drew).size))))
      all_goals
        go_wp2_with fail
        go_meet
        exact ⟨rfl, hb91⟩
    case rest =>
      obtain ⟨rfl, hcv⟩ := hcut
      have HAr := Lib.hid (HA1.out.below hcv)
      have Hor := Lib.hid (Ho1.out.below hcv)
      have hbr := hb1.trans (hcv.mono hb1.size)
      have HRowr := Lib.hid (HRow1.out.below hcv)
      clear HPj Hlj HJ1 hcv HA1 Ho1 hb1
      have HLlr : Hid (F.length = 8) := HFl.out
      go_wp2
      go_loopw [15] (fun v wr => ∃ j : Nat, k ≤ j ∧ j ≤ k + mm ∧ v = .int .i64 (j : Int) ∧ wr = wc ∧ Hid (∀ i, k ≤ i → i < j → x[i]? = some 0)) (fun v _ => k + mm - (intOf v).toNat)
      case atStart => exact ⟨k, Nat.le_refl _, by omega, rfl, rfl, fun i h1 h2 => by omega⟩
      case round =>
        obtain ⟨j, hj0, hj, rfl, hwr, hall⟩ := hrel
        replace hwr := hwr.symm
        subst hwr
        by_cases hlt2 : j < k + mm
        · have i2 : (j : Int) < (k : Int) + (mm : Int) := by omega
          have i3 : (j : Int) < 8 := by omega
          obtain ⟨z, hz⟩ : ∃ z, x[j]? = some z := ⟨_, List.getElem?_eq_getElem (by rw [H8.out]; omega)⟩
          have hcell : wc.cell? ⟨w.heap.size, j, none⟩ = some (.int .u16 (z : Int)) := HAr.out.cell hz
          by_cases hz0 : z = 0
          · subst hz0
            have hall2 : Hid (∀ i, k ≤ i → i < j + 1 → x[i]? = some 0) := fun i h1 h2 => by
              by_cases e : i = j
              · rw [e]; exact hz
              · exact hall.out i h1 (by omega)
            clear hz
            go_wp2
            exact ⟨⟨j + 1, by omega, by omega, rfl, by trivial, hall2.out⟩, by simp [intOf]; omega⟩
          · have g5 : ((z : Int) == 0) = false := by rw [beq_eq_false_iff_ne]; omega
            clear hz hz0
            go_wp2_with fail
            refine (x9.out _ Hor.out).mono ?_
            rintro e4 w4 ⟨rfl, hc⟩
            go_wp2
            go_ret
            exact ⟨rfl, hbr.trans (hc.mono hbr.size)⟩
        · have hje : j = k + mm := by omega
          have i2 : ¬ (j : Int) < (k : Int) + (mm : Int) := by omega
          have hpz := (Hp2.out k mm hm1 hkm (fun i h1 h2 => hall.out i h1 (by omega)))
          obtain ⟨t2, ht2⟩ : ∃ t, Lib.join ((F).take k) [58] = t := ⟨_, rfl⟩
          obtain ⟨t3, ht3⟩ : ∃ t, Lib.join ((F).drop (k + mm)) [58] = t := ⟨_, rfl⟩
          obtain ⟨tm, htm⟩ : ∃ t, t2 ++ [58, 58] = t := ⟨_, rfl⟩
          obtain ⟨tz, htz⟩ : ∃ t, tm ++ t3 = t := ⟨_, rfl⟩
          rw [ht2, ht3, htm, htz] at hpz
          have Hpz := Lib.hid hpz
          have hfew := HRowr.out.few
          have l2 : t2.length ≤ 10000 := by rw [← ht2]; exact join_small (fun q hq => HRowr.out.short q (List.mem_of_mem_take hq)) (by rw [List.length_take]; omega)
          have l3 : t3.length ≤ 10000 := by rw [← ht3]; exact join_small (fun q hq => HRowr.out.short q (List.mem_of_mem_drop hq)) (by rw [List.length_drop]; omega)
          have l4 : tm.length ≤ 10002 := by rw [← htm, List.length_append]; simp only [List.length_cons, List.length_nil]; omega
          have Hlz : Hid (tz.length ≤ 100000) := by show _ ≤ _; rw [← htz, List.length_append]; omega
          have hrl : (F).length = 8 := HLlr.out
          have HT := Lib.hid (fun W (hv : Below wc.heap.size wc W) => join_take (HRowr.out.below hv) k (by rw [hrl]; omega))
          rw [ht2] at HT
          have HD := Lib.hid (fun W (hv : Below wc.heap.size wc W) A2 h n hn => join_drop (HRowr.out.below hv) (k + mm) (by rw [hrl]; omega) A2 h n hn)
          rw [ht3, hrl] at HD
          have hs2 := size_str t2
          have hs3 := size_str t3
          have hs4 := size_str tm
          have hcat1 : (⟨t2.toArray⟩ : ByteArray) ++ ⟨#[58, 58]⟩ = ⟨tm.toArray⟩ := by rw [← htm]; exact cat6 t2 [58, 58]
          have hcat2 : (⟨tm.toArray⟩ : ByteArray) ++ ⟨t3.toArray⟩ = ⟨tz.toArray⟩ := by rw [← htz]; exact cat6 _ _
          have hcl : 8 ≤ c' := by have := HRowr.out.cap; omega
          have q1 : ¬ 9223372036854775807 < t2.length + 2 := by omega
          have q2 : ¬ 9223372036854775807 < tm.length + t3.length := by omega
          have n0 : IntKind.i64.wrap ((k : Int) + (mm : Int)) = (k : Int) + (mm : Int) := by rw [IntWalk.i64_in _ (by omega)]
          have n1 : (k : Int) ≤ 8 := by omega
          have n2 : (k : Int) + (mm : Int) ≤ 8 := by omega
          have n3 : (k : Int) ≤ (c' : Int) := by omega
          have n4 : ((k : Int) + (mm : Int)).toNat = k + mm := by omega
          clear ht2 ht3 htm htz hpz hrl hje hfew
          by_cases hcap : c' = k + mm
          · have f4 : (k : Int) + (mm : Int) = 8 := by omega
            have HD2 := Lib.hid (fun V hv => HD.out V hv (some ⟨g, off, none⟩) (by rw [if_pos hcap]) 0 (by omega))
            rw [show c' - (k + mm) = 0 by omega] at HD2
            have hc8 : c' = 8 := by omega
            subst hc8
            have Hcap := Lib.hid hcap
            have f5 : IntKind.i64.wrap 8 = 8 := by decide
            clear n0 n2 n4 hcap HD
            have hbv : Below wc.heap.size wc wc := Below.refl _ _
            go_wp2_with fail
            go_region_held3 (fun w' => w'.cell? ⟨w.heap.size, 0, none⟩ = some (.int .u16 (c0 : Int)) ∧ w'.cell? ⟨w.heap.size, 1, none⟩ = some (.int .u16 (c1 : Int)) ∧ w'.cell? ⟨w.heap.size, 2, none⟩ = some (.int .u16 (c2 : Int)) ∧ w'.cell? ⟨w.heap.size, 3, none⟩ = some (.int .u16 (c3 : Int)) ∧ w'.cell? ⟨w.heap.size, 4, none⟩ = some (.int .u16 (c4 : Int)) ∧ w'.cell? ⟨w.heap.size, 5, none⟩ = some (.int .u16 (c5 : Int)) ∧ w'.cell? ⟨w.heap.size, 6, none⟩ = some (.int .u16 (c6 : Int)) ∧ w'.cell? ⟨w.heap.size, 7, none⟩ = some (.int .u16 (c7 : Int)))
              (first | exact (HA93.out).cells Hxe.out | exact (HA92.out).cells Hxe.out | exact (HA91.out).cells Hxe.out | exact (HA90.out).cells Hxe.out | exact (HAr.out.drew).cells Hxe.out | exact (HAr.out).cells Hxe.out)
              (first
                | (go_at_call 29; first | (refine (x9.out w92 HO92.out).mono ?_; rintro e93 w93 ⟨rfl, hc93⟩; have HA93 := Lib.hid ((HA92.out).below hc93); have HO93 := Lib.hid ((HO92.out).below hc93); have hb93 := (hb92).trans (hc93.mono (hb92).size)))
                | (go_at_call 40; first | (refine (Hsays.out tz Hpz.out Hlz.out w91 HO91.out).mono ?_; rintro e92 w92 ⟨rfl, hc92⟩; have HA92 := Lib.hid ((HA91.out).below hc92); have HO92 := Lib.hid ((HO91.out).below hc92); have hb92 := (hb91).trans (hc92.mono (hb91).size)))
                | (go_at_call 26; first | (refine (HD2.out w90 hb90).mono ?_; rintro e91 w91 ⟨rfl, hc91⟩; have HA91 := Lib.hid ((HA90.out).below hc91); have HO91 := Lib.hid ((HO90.out).below hc91); have hb91 := (hb90).trans (hc91.mono (hb90).size)) | (refine (HT.out _ hbv.drew).mono ?_; rintro e90 w90 ⟨rfl, hc90⟩; have HA90 := Lib.hid ((HAr.out.drew).below hc90); have HO90 := Lib.hid ((Hor.out.below ((Below.refl _ _).drew)).below hc90); have hb90 := (hbv.drew).trans (hc90.mono (hbv.drew).size))))
            all_goals
              go_wp2
              go_ret
              exact ⟨rfl, hbr.trans (hb93.mono hbr.size)⟩
          · have HD2 := Lib.hid (fun V hv => HD.out V hv (some ⟨g, off + (k + mm), none⟩) (by rw [if_neg hcap]; simp [addr_add]) (8 - (k + mm)) rfl)
            have f7 : (0 : Int) ≤ (k : Int) + (mm : Int) := by omega
            have n5 : (8 : Int) ≤ (c' : Int) := by omega
            have n6 : (k : Int) + (mm : Int) ≤ (c' : Int) := by omega
            have hbv : Below wc.heap.size wc wc := Below.refl _ _
            go_wp2_with fail
            go_region_held3 (fun w' => w'.cell? ⟨w.heap.size, 0, none⟩ = some (.int .u16 (c0 : Int)) ∧ w'.cell? ⟨w.heap.size, 1, none⟩ = some (.int .u16 (c1 : Int)) ∧ w'.cell? ⟨w.heap.size, 2, none⟩ = some (.int .u16 (c2 : Int)) ∧ w'.cell? ⟨w.heap.size, 3, none⟩ = some (.int .u16 (c3 : Int)) ∧ w'.cell? ⟨w.heap.size, 4, none⟩ = some (.int .u16 (c4 : Int)) ∧ w'.cell? ⟨w.heap.size, 5, none⟩ = some (.int .u16 (c5 : Int)) ∧ w'.cell? ⟨w.heap.size, 6, none⟩ = some (.int .u16 (c6 : Int)) ∧ w'.cell? ⟨w.heap.size, 7, none⟩ = some (.int .u16 (c7 : Int)))
              (first | exact (HA93.out).cells Hxe.out | exact (HA92.out).cells Hxe.out | exact (HA91.out).cells Hxe.out | exact (HA90.out).cells Hxe.out | exact (HAr.out.drew).cells Hxe.out | exact (HAr.out).cells Hxe.out)
              (first
                | (go_at_call 29; first | (refine (x9.out w92 HO92.out).mono ?_; rintro e93 w93 ⟨rfl, hc93⟩; have HA93 := Lib.hid ((HA92.out).below hc93); have HO93 := Lib.hid ((HO92.out).below hc93); have hb93 := (hb92).trans (hc93.mono (hb92).size)))
                | (go_at_call 40; first | (refine (Hsays.out tz Hpz.out Hlz.out w91 HO91.out).mono ?_; rintro e92 w92 ⟨rfl, hc92⟩; have HA92 := Lib.hid ((HA91.out).below hc92); have HO92 := Lib.hid ((HO91.out).below hc92); have hb92 := (hb91).trans (hc92.mono (hb91).size)))
                | (go_at_call 26; first | (refine (HD2.out w90 hb90).mono ?_; rintro e91 w91 ⟨rfl, hc91⟩; have HA91 := Lib.hid ((HA90.out).below hc91); have HO91 := Lib.hid ((HO90.out).below hc91); have hb91 := (hb90).trans (hc91.mono (hb90).size)) | (refine (HT.out _ hbv.drew).mono ?_; rintro e90 w90 ⟨rfl, hc90⟩; have HA90 := Lib.hid ((HAr.out.drew).below hc90); have HO90 := Lib.hid ((Hor.out.below ((Below.refl _ _).drew)).below hc90); have hb90 := (hbv.drew).trans (hc90.mono (hbv.drew).size))))
            all_goals
              go_wp2
              go_ret
              exact ⟨rfl, hbr.trans (hb93.mono hbr.size)⟩
  | true =>
    obtain ⟨tl, htl⟩ : ∃ t, innerOf c6 c7 = t := ⟨_, rfl⟩
    have hx6 := Hx.out c6 (by rw [Hxe.out]; simp)
    have hx7 := Hx.out c7 (by rw [Hxe.out]; simp)
    have HI1 := Lib.hid (fun W ho => itoa_val (IntKind.i64.wrap ((c6 : Int) / 256)) (c6 / 256) (by rw [IntWalk.i64_in _ (by omega)]; omega) (by omega) W ho)
    have HJ1 := Lib.hid (fun W ho => itoa_val ((c6 : Int) / 256) (c6 / 256) (by omega) (by omega) W ho)
    have HI2 := Lib.hid (fun W ho => itoa_val (wrap64 (bits BinOp.and IntKind.u16 (c6 : Int) 255)) (c6 % 256) (low_val c6 hx6) (by omega) W ho)
    have HK2 := Lib.hid (fun W ho => itoa_val (IntKind.i64.wrap (bits BinOp.and IntKind.u16 (c6 : Int) 255)) (c6 % 256) (low_val3 c6 hx6) (by omega) W ho)
    have HJ2 := Lib.hid (fun W ho => itoa_val (bits BinOp.and IntKind.u16 (c6 : Int) 255) (c6 % 256) (low_val2 c6 hx6) (by omega) W ho)
    have HI3 := Lib.hid (fun W ho => itoa_val (IntKind.i64.wrap ((c7 : Int) / 256)) (c7 / 256) (by rw [IntWalk.i64_in _ (by omega)]; omega) (by omega) W ho)
    have HJ3 := Lib.hid (fun W ho => itoa_val ((c7 : Int) / 256) (c7 / 256) (by omega) (by omega) W ho)
    have HI4 := Lib.hid (fun W ho => itoa_val (wrap64 (bits BinOp.and IntKind.u16 (c7 : Int) 255)) (c7 % 256) (low_val c7 hx7) (by omega) W ho)
    have HK4 := Lib.hid (fun W ho => itoa_val (IntKind.i64.wrap (bits BinOp.and IntKind.u16 (c7 : Int) 255)) (c7 % 256) (low_val3 c7 hx7) (by omega) W ho)
    have HJ4 := Lib.hid (fun W ho => itoa_val (bits BinOp.and IntKind.u16 (c7 : Int) 255) (c7 % 256) (low_val2 c7 hx7) (by omega) W ho)
    have l1 := dec_len (c6 / 256)
    have l2 := dec_len (c6 % 256)
    have l3 := dec_len (c7 / 256)
    have l4 := dec_len (c7 % 256)
    have hin : innerOf c6 c7 = dec (c6 / 256) ++ [46] ++ dec (c6 % 256) ++ [46] ++ dec (c7 / 256) ++ [46] ++ dec (c7 % 256) := by
      unfold innerOf
      rw [join_cons2, join_cons2, join_cons2, Lib.join_one]
      simp
    rw [htl] at hin
    have Hgood := Lib.hid (innerOf_good hx6 hx7)
    rw [htl] at Hgood
    have htlen : tl.length ≤ 100 := by rw [← htl]; exact innerOf_len c6 c7
    have hp3 := Hp3.out c6 c7 (by rw [Hxe.out]; rfl) (by rw [Hxe.out]; rfl)
    have hp4 := Hp4.out c6 c7 (by rw [Hxe.out]; rfl) (by rw [Hxe.out]; rfl)
    rw [HS6.out, htl] at hp3 hp4
    obtain ⟨F0, F1, F2, F3, F4, F5, F6, F7, hFe⟩ := eightL HFl.out
    obtain ⟨L7, hL7⟩ : ∃ L, F.take 6 ++ [tl] = L := ⟨_, rfl⟩
    have hL7e : L7 = [F0, F1, F2, F3, F4, F5, tl] := by rw [← hL7, hFe]; rfl
    have hF6 : strV (F.take 6) = [.string ⟨F0.toArray⟩, .string ⟨F1.toArray⟩, .string ⟨F2.toArray⟩, .string ⟨F3.toArray⟩, .string ⟨F4.toArray⟩, .string ⟨F5.toArray⟩] := by rw [hFe]; rfl
    rw [hL7] at hp3 hp4
    have Hp6 := Lib.hid hp3
    have Hp7 := Lib.hid hp4
    have HL7 := Lib.hid hL7e
    have HF6 := Lib.hid hF6
    have Hsh7 : Hid (∀ p ∈ L7, p.length ≤ 100) := by
      show ∀ p ∈ L7, _
      intro p hp
      rw [← hL7] at hp
      rcases List.mem_append.1 hp with hp | hp
      · exact Hsh.out p (List.mem_of_mem_take hp)
      · rw [List.mem_singleton.1 hp]; exact htlen
    generalize dec (c6 / 256) = D1 at *
    generalize dec (c6 % 256) = D2 at *
    generalize dec (c7 / 256) = D3 at *
    generalize dec (c7 % 256) = D4 at *
    obtain ⟨S1, hS1⟩ : ∃ t, D1 ++ [46] = t := ⟨_, rfl⟩
    obtain ⟨S2, hS2⟩ : ∃ t, S1 ++ D2 = t := ⟨_, rfl⟩
    obtain ⟨S3, hS3⟩ : ∃ t, S2 ++ [46] = t := ⟨_, rfl⟩
    obtain ⟨S4, hS4⟩ : ∃ t, S3 ++ D3 = t := ⟨_, rfl⟩
    obtain ⟨S5, hS5⟩ : ∃ t, S4 ++ [46] = t := ⟨_, rfl⟩
    rw [hS1, hS2, hS3, hS4, hS5] at hin
    have k1 : S1.length ≤ 10 := by rw [← hS1, List.length_append]; simp only [List.length_cons, List.length_nil]; omega
    have k2 : S2.length ≤ 20 := by rw [← hS2, List.length_append]; omega
    have k3 : S3.length ≤ 30 := by rw [← hS3, List.length_append]; simp only [List.length_cons, List.length_nil]; omega
    have k4 : S4.length ≤ 40 := by rw [← hS4, List.length_append]; omega
    have k5 : S5.length ≤ 50 := by rw [← hS5, List.length_append]; simp only [List.length_cons, List.length_nil]; omega
    have z1 : (⟨D1.toArray⟩ : ByteArray) ++ ⟨#[46]⟩ = ⟨S1.toArray⟩ := by rw [← hS1]; exact cat6 D1 [46]
    have z2 : (⟨S1.toArray⟩ : ByteArray) ++ ⟨D2.toArray⟩ = ⟨S2.toArray⟩ := by rw [← hS2]; exact cat6 _ _
    have z3 : (⟨S2.toArray⟩ : ByteArray) ++ ⟨#[46]⟩ = ⟨S3.toArray⟩ := by rw [← hS3]; exact cat6 S2 [46]
    have z4 : (⟨S3.toArray⟩ : ByteArray) ++ ⟨D3.toArray⟩ = ⟨S4.toArray⟩ := by rw [← hS4]; exact cat6 _ _
    have z5 : (⟨S4.toArray⟩ : ByteArray) ++ ⟨#[46]⟩ = ⟨S5.toArray⟩ := by rw [← hS5]; exact cat6 S4 [46]
    have z6 : (⟨S5.toArray⟩ : ByteArray) ++ ⟨D4.toArray⟩ = ⟨tl.toArray⟩ := by rw [hin]; exact cat6 _ _
    have y1 := size_str D1
    have y2 := size_str D2
    have y3 := size_str D3
    have y4 := size_str D4
    have y5 := size_str S1
    have y6 := size_str S2
    have y7 := size_str S3
    have y8 := size_str S4
    have y9 := size_str S5
    have q1 : ¬ 9223372036854775807 < D1.length + 1 := by omega
    have q2 : ¬ 9223372036854775807 < S1.length + D2.length := by omega
    have q3 : ¬ 9223372036854775807 < S2.length + 1 := by omega
    have q4 : ¬ 9223372036854775807 < S3.length + D3.length := by omega
    have q5 : ¬ 9223372036854775807 < S4.length + 1 := by omega
    have q6 : ¬ 9223372036854775807 < S5.length + D4.length := by omega
    clear hS1 hS2 hS3 hS4 hS5 hin htl hp3 hp4 hL7 hL7e hF6 hFe Hp1 Hp2 Hp3 Hp4 HS6
    go_upto_region 5 with fail
    go_cut [14] from 16 (fun v wx => v = .string ⟨tl.toArray⟩ ∧ Below w1.heap.size w1 wx)
    case first =>
      have hbv : Below w1.heap.size w1 w1 := Below.refl _ _
      go_region_held3 (fun w' => w'.cell? ⟨w.heap.size, 0, none⟩ = some (.int .u16 (c0 : Int)) ∧ w'.cell? ⟨w.heap.size, 1, none⟩ = some (.int .u16 (c1 : Int)) ∧ w'.cell? ⟨w.heap.size, 2, none⟩ = some (.int .u16 (c2 : Int)) ∧ w'.cell? ⟨w.heap.size, 3, none⟩ = some (.int .u16 (c3 : Int)) ∧ w'.cell? ⟨w.heap.size, 4, none⟩ = some (.int .u16 (c4 : Int)) ∧ w'.cell? ⟨w.heap.size, 5, none⟩ = some (.int .u16 (c5 : Int)) ∧ w'.cell? ⟨w.heap.size, 6, none⟩ = some (.int .u16 (c6 : Int)) ∧ w'.cell? ⟨w.heap.size, 7, none⟩ = some (.int .u16 (c7 : Int)))
        (first | exact (HA93.out).cells Hxe.out | exact (HA92.out).cells Hxe.out | exact (HA91.out).cells Hxe.out | exact (HA90.out).cells Hxe.out | exact (HA1.out.drew).cells Hxe.out | exact (HA1.out).cells Hxe.out)
        (first
          | (go_at_call 24; first | (refine (HI4.out w92 HO92.out.ok).mono ?_; rintro e93 w93 ⟨rfl, hc93⟩; have HA93 := Lib.hid ((HA92.out).below hc93); have HO93 := Lib.hid ((HO92.out).below hc93); have hb93 := (hb92).trans (hc93.mono (hb92).size)) | (refine (HJ4.out w92 HO92.out.ok).mono ?_; rintro e93 w93 ⟨rfl, hc93⟩; have HA93 := Lib.hid ((HA92.out).below hc93); have HO93 := Lib.hid ((HO92.out).below hc93); have hb93 := (hb92).trans (hc93.mono (hb92).size)) | (refine (HK4.out w92 HO92.out.ok).mono ?_; rintro e93 w93 ⟨rfl, hc93⟩; have HA93 := Lib.hid ((HA92.out).below hc93); have HO93 := Lib.hid ((HO92.out).below hc93); have hb93 := (hb92).trans (hc93.mono (hb92).size)) | (refine (HI3.out w91 HO91.out.ok).mono ?_; rintro e92 w92 ⟨rfl, hc92⟩; have HA92 := Lib.hid ((HA91.out).below hc92); have HO92 := Lib.hid ((HO91.out).below hc92); have hb92 := (hb91).trans (hc92.mono (hb91).size)) | (refine (HJ3.out w91 HO91.out.ok).mono ?_; rintro e92 w92 ⟨rfl, hc92⟩; have HA92 := Lib.hid ((HA91.out).below hc92); have HO92 := Lib.hid ((HO91.out).below hc92); have hb92 := (hb91).trans (hc92.mono (hb91).size)) | (refine (HI2.out w90 HO90.out.ok).mono ?_; rintro e91 w91 ⟨rfl, hc91⟩; have HA91 := Lib.hid ((HA90.out).below hc91); have HO91 := Lib.hid ((HO90.out).below hc91); have hb91 := (hb90).trans (hc91.mono (hb90).size)) | (refine (HJ2.out w90 HO90.out.ok).mono ?_; rintro e91 w91 ⟨rfl, hc91⟩; have HA91 := Lib.hid ((HA90.out).below hc91); have HO91 := Lib.hid ((HO90.out).below hc91); have hb91 := (hb90).trans (hc91.mono (hb90).size)) | (refine (HK2.out w90 HO90.out.ok).mono ?_; rintro e91 w91 ⟨rfl, hc91⟩; have HA91 := Lib.hid ((HA90.out).below hc91); have HO91 := Lib.hid ((HO90.out).below hc91); have hb91 := (hb90).trans (hc91.mono (hb90).size)) | (refine (HI1.out w1.drew (Ho1.out.below ((Below.refl _ _).drew)).ok).mono ?_; rintro e90 w90 ⟨rfl, hc90⟩; have HA90 := Lib.hid ((HA1.out.drew).below hc90); have HO90 := Lib.hid ((Ho1.out.below ((Below.refl _ _).drew)).below hc90); have hb90 := (hbv.drew).trans (hc90.mono (hbv.drew).size)) | (refine (HJ1.out w1.drew (Ho1.out.below ((Below.refl _ _).drew)).ok).mono ?_; rintro e90 w90 ⟨rfl, hc90⟩; have HA90 := Lib.hid ((HA1.out.drew).below hc90); have HO90 := Lib.hid ((Ho1.out.below ((Below.refl _ _).drew)).below hc90); have hb90 := (hbv.drew).trans (hc90.mono (hbv.drew).size))))
      all_goals
        go_wp2_with fail
        go_meet
        exact ⟨rfl, hb93⟩
    case rest =>
      obtain ⟨rfl, hcv⟩ := hcut
      have HA5 := Lib.hid (HA1.out.below hcv)
      have Ho5 := Lib.hid (Ho1.out.below hcv)
      have hb5 := hb1.trans (hcv.mono hb1.size)
      have HRow5 := Lib.hid (HRow1.out.below hcv)
      clear hcv HI1 HI2 HI3 HI4 HJ1 HJ2 HJ3 HJ4 HK2 HK4 l1 l2 l3 l4 k1 k2 k3 k4 k5 z1 z2 z3 z4 z5 z6 y1 y2 y3 y4 y5 y6 y7 y8 y9 q1 q2 q3 q4 q5 q6 hx6 hx7 HA1 Ho1 hb1 HRow1
      obtain ⟨W5, hW5⟩ : ∃ W, W = wc := ⟨_, rfl⟩
      subst hW5
      have hN5 : w.heap.size < W5.heap.size := HA5.out.lt
      have own1 := Lib.hid (World.ownsRow_lit (base := W5.heap.size) (e := 9) (size := 1) W5.drew #[] 0 (Nat.le_refl _) (by decide) rfl)
      have own2 := Lib.hid (own1.out.alloc (.cells #[.string ⟨tl.toArray⟩] 9))
      have own3 := Lib.hid (World.ownsRow_lit (base := W5.heap.size) (e := 9) (size := 1) (W5.drew.alloc (.cells #[.string ⟨tl.toArray⟩] 9)) #[] 0 (by simp) (by decide) rfl)
      rw [World.size_alloc, World.size_drew] at own3
      have hr6 : Rd W5 W5.heap.size (some ⟨g, off, none⟩) [Value.string ⟨F0.toArray⟩, Value.string ⟨F1.toArray⟩, Value.string ⟨F2.toArray⟩, Value.string ⟨F3.toArray⟩, Value.string ⟨F4.toArray⟩, Value.string ⟨F5.toArray⟩] := by rw [← HF6.out, strV_take]; exact HRow5.out.rd.take 6
      have rd1 := Lib.hid ((Rd.drew hr6).alloc (Nat.le_refl _) (.cells #[] 9))
      have rd2 := Lib.hid (rd1.out.alloc (by simp) (.cells #[.string ⟨tl.toArray⟩] 9))
      have rd3 := Lib.hid (((Rd.drew hr6).alloc (Nat.le_refl _) (.cells #[.string ⟨tl.toArray⟩] 9)).alloc (by simp) (.cells #[] 9))
      have e6 : [Value.string ⟨F0.toArray⟩, Value.string ⟨F1.toArray⟩, Value.string ⟨F2.toArray⟩, Value.string ⟨F3.toArray⟩, Value.string ⟨F4.toArray⟩, Value.string ⟨F5.toArray⟩].length = 6 := rfl
      have e1 : [Value.string ⟨tl.toArray⟩].length = 1 := rfl
      have hm1 : 0 + [Value.string ⟨F0.toArray⟩, Value.string ⟨F1.toArray⟩, Value.string ⟨F2.toArray⟩, Value.string ⟨F3.toArray⟩, Value.string ⟨F4.toArray⟩, Value.string ⟨F5.toArray⟩].length ≤ maxLen := by rw [e6]; unfold maxLen; omega
      have hm2 : (0 + [Value.string ⟨F0.toArray⟩, Value.string ⟨F1.toArray⟩, Value.string ⟨F2.toArray⟩, Value.string ⟨F3.toArray⟩, Value.string ⟨F4.toArray⟩, Value.string ⟨F5.toArray⟩].length) * 16 ≤ 140737488355328 := (show ∀ a : Nat, a = 6 → (0 + a) * 16 ≤ 140737488355328 from fun a h => by omega) _ e6
      have hm3 : 6 + [Value.string ⟨tl.toArray⟩].length ≤ maxLen := by rw [e1]; unfold maxLen; omega
      have hm4 : (6 + [Value.string ⟨tl.toArray⟩].length) * 16 ≤ 140737488355328 := (show ∀ b : Nat, b = 1 → (6 + b) * 16 ≤ 140737488355328 from fun b h2 => by omega) _ e1
      clear e6 e1
      replace hm1 := Lib.hid hm1
      replace hm2 := Lib.hid hm2
      replace hm3 := Lib.hid hm3
      replace hm4 := Lib.hid hm4
      have hone6 : ∀ u ∈ [Value.string ⟨F0.toArray⟩, Value.string ⟨F1.toArray⟩, Value.string ⟨F2.toArray⟩, Value.string ⟨F3.toArray⟩, Value.string ⟨F4.toArray⟩, Value.string ⟨F5.toArray⟩], u.oneCell' = true := by simp [Value.oneCell']
      have hone1 : ∀ u ∈ [Value.string ⟨tl.toArray⟩], u.oneCell' = true := by simp [Value.oneCell']
      have hbs1 : W5.heap.size ≤ (W5.drew.alloc (.cells #[] 9)).heap.size := by simp
      have hbs2 : W5.heap.size ≤ ((W5.drew.alloc (.cells #[] 9)).alloc (.cells #[.string ⟨tl.toArray⟩] 9)).heap.size := by simp; omega
      have hbs3 : W5.heap.size ≤ ((W5.drew.alloc (.cells #[.string ⟨tl.toArray⟩] 9)).alloc (.cells #[] 9)).heap.size := by simp; omega
      have hB1 := (Below.refl W5.heap.size W5).drew.alloc (Nat.le_refl _) (.cells #[] 9)
      have hB2 := hB1.alloc hbs1 (.cells #[.string ⟨tl.toArray⟩] 9)
      have hB3 := ((Below.refl W5.heap.size W5).drew.alloc (Nat.le_refl _) (.cells #[.string ⟨tl.toArray⟩] 9)).alloc (by simp) (.cells #[] 9)
      have hne1 : (some W5.heap.size : Option Nat) ≠ some w.heap.size := fun e => by injection e with e; omega
      have hne3 : (some (W5.heap.size + 1) : Option Nat) ≠ some w.heap.size := fun e => by injection e with e; omega
      have hr1 : ∀ j, (some W5.heap.size : Option Nat) = some j → W5.heap.size ≤ j := fun j e => by injection e with e; omega
      have hr3 : ∀ j, (some (W5.heap.size + 1) : Option Nat) = some j → W5.heap.size ≤ j := fun j e => by injection e with e; omega
      have hc2 : ((W5.drew.alloc (.cells #[] 9)).alloc (.cells #[.string ⟨tl.toArray⟩] 9)).cell? ⟨W5.heap.size + 1, 0, none⟩ = some (.string ⟨tl.toArray⟩) := by
        have := (rd_new (W5.drew.alloc (.cells #[] 9)) [.string ⟨tl.toArray⟩] 9).cell (k := 0) rfl
        simpa using this
      have hc3 : ((W5.drew.alloc (.cells #[.string ⟨tl.toArray⟩] 9)).alloc (.cells #[] 9)).cell? ⟨W5.heap.size, 0, none⟩ = some (.string ⟨tl.toArray⟩) := by
        rw [World.cell?_alloc_lt _ _ _ (by simp)]
        have := (rd_new W5.drew [.string ⟨tl.toArray⟩] 9).cell (k := 0) rfl
        simpa using this
      have hnl2 : W5.heap.size ≠ W5.heap.size + 1 := by omega
      have hnl3 : W5.heap.size + 1 ≠ W5.heap.size := by omega
      have HJ7 : Hid (∀ (v : Value) (V : World), V.ownsRow W5.heap.size 9 1 v 7 (strV L7) → Calls Tryd.prog 26 #[v, .string ⟨#[58]⟩] V fun e w' => e = .returned (.string ⟨(Lib.join L7 [58]).toArray⟩) ∧ Below V.heap.size V w') := by
        show ∀ (v : Value), _
        intro v V h
        have hl : L7.length = 7 := by rw [HL7.out]; rfl
        have h' : V.ownsRow W5.heap.size 9 1 v L7.length (strV L7) := by rw [hl]; exact h
        exact join_own L7 (by rw [hl]; decide) v V W5.heap.size h' [58] (Nat.le_trans (join_small Hsh7.out (by rw [hl]; decide)) (by decide)) (by decide) (by rw [hl]; decide)
      obtain ⟨tj, htj⟩ : ∃ t, Lib.join L7 [58] = t := ⟨_, rfl⟩
      have Hlj : Hid (tj.length ≤ 100000) := by
        show _ ≤ _
        rw [← htj]
        exact Nat.le_trans (join_small Hsh7.out (by rw [HL7.out]; simp)) (by decide)
      rw [htj] at HJ7
      have HPj := Lib.hid (htj ▸ Hp6.out)
      have n6 : (6 : Int) ≤ (c' : Int) := by have := HRow5.out.cap; rw [HFl.out] at this; omega
      clear htj
      go_upto_region 6 with fail
      go_cut [65] from 16 (fun v wx => v = .bool false ∧ Below W5.heap.size W5 wx)
      case first =>
        go_region_held3 (fun w' => w'.cell? ⟨w.heap.size, 0, none⟩ = some (.int .u16 (c0 : Int)) ∧ w'.cell? ⟨w.heap.size, 1, none⟩ = some (.int .u16 (c1 : Int)) ∧ w'.cell? ⟨w.heap.size, 2, none⟩ = some (.int .u16 (c2 : Int)) ∧ w'.cell? ⟨w.heap.size, 3, none⟩ = some (.int .u16 (c3 : Int)) ∧ w'.cell? ⟨w.heap.size, 4, none⟩ = some (.int .u16 (c4 : Int)) ∧ w'.cell? ⟨w.heap.size, 5, none⟩ = some (.int .u16 (c5 : Int)) ∧ w'.cell? ⟨w.heap.size, 6, none⟩ = some (.int .u16 (c6 : Int)) ∧ w'.cell? ⟨w.heap.size, 7, none⟩ = some (.int .u16 (c7 : Int)))
          (first | exact (HA91.out).cells Hxe.out | exact (HA90.out).cells Hxe.out | exact (HA9.out).cells Hxe.out | exact (HAa.out).cells Hxe.out | exact (HAa.out.alloc _).cells Hxe.out | exact (HAb.out).cells Hxe.out | exact (HAc.out).cells Hxe.out | exact (HA5.out.drew).cells Hxe.out | exact (HA5.out.drew.alloc _).cells Hxe.out | exact ((HA5.out.drew.alloc _).alloc _).cells Hxe.out)
          (first
            | (go_at_call 40; first | (refine (Hsays.out tj HPj.out Hlj.out w90 HO90.out).mono ?_; rintro e91 w91 ⟨rfl, hc91⟩; have HA91 := Lib.hid ((HA90.out).below hc91); have HO91 := Lib.hid ((HO90.out).below hc91); have hb91 := (hb90).trans (hc91.mono (hb90).size)))
            | (go_at_call 26; first | (refine (HJ7.out _ _ hown7.out).mono ?_; rintro e90 w90 ⟨rfl, hc90⟩; have HA90 := Lib.hid ((HA9.out).below hc90); have HO90 := Lib.hid ((Ho5.out.below hB9).below hc90); have hb90 := (hB9).trans (hc90.mono (hB9).size)))
            | (refine step_append_rd _ rfl (.tmp 58) (.tmp 60) 33 rfl W5.heap.size 9 i0 (.string ⟨#[]⟩) 16 Tryd.underlying33 hi hz0 hz1 hz2 rfl _ 6 [Value.string ⟨F0.toArray⟩, Value.string ⟨F1.toArray⟩, Value.string ⟨F2.toArray⟩, Value.string ⟨F3.toArray⟩, Value.string ⟨F4.toArray⟩, Value.string ⟨F5.toArray⟩] rfl (howna.alloc (.cells #[.string ⟨tl.toArray⟩] 9)) (ua.heap.size + 1) (some ⟨ua.heap.size, 0, none⟩) 1 [.string ⟨tl.toArray⟩] rfl (rd_new ua [.string ⟨tl.toArray⟩] 9) hone1 hm3.out hm4.out hbsa ?_; intro v9 u9 hown9 hg9 hat9; have HA9 := Lib.hid (Addr8.grown (HAa.out.alloc _) hg9 (fun e => by have := (World.ownsRow.lt (howna.alloc (.cells #[.string ⟨tl.toArray⟩] 9)) _ e).1; omega)); have hB9 := (hBa.alloc hBa.size _).grown hg9 hbsa (fun j e => (World.ownsRow.lt (howna.alloc (.cells #[.string ⟨tl.toArray⟩] 9)) j e).1); have hown7 := Lib.hid (show u9.ownsRow W5.heap.size 9 1 v9 7 (strV L7) from (by rw [HL7.out]; exact hown9)))
            | (refine step_append_rd _ rfl (.tmp 58) (.tmp 60) 33 rfl W5.heap.size 9 i0 (.string ⟨#[]⟩) 16 Tryd.underlying33 hi hz0 hz1 hz2 rfl _ 6 [Value.string ⟨F0.toArray⟩, Value.string ⟨F1.toArray⟩, Value.string ⟨F2.toArray⟩, Value.string ⟨F3.toArray⟩, Value.string ⟨F4.toArray⟩, Value.string ⟨F5.toArray⟩] rfl hownb (W5.heap.size + 1 + 1) (some ⟨W5.heap.size + 1, 0, none⟩) 1 [.string ⟨tl.toArray⟩] rfl (rd_lit hgb hnl2 hc2) hone1 hm3.out hm4.out hBb.size ?_; intro v9 u9 hown9 hg9 hat9; have HA9 := Lib.hid (Addr8.grown (HAb.out) hg9 (fun e => by have := (World.ownsRow.lt hownb _ e).1; omega)); have hB9 := (hBb).grown hg9 hBb.size (fun j e => (World.ownsRow.lt hownb j e).1); have hown7 := Lib.hid (show u9.ownsRow W5.heap.size 9 1 v9 7 (strV L7) from (by rw [HL7.out]; exact hown9)))
            | (refine step_append_rd _ rfl (.tmp 58) (.tmp 60) 33 rfl W5.heap.size 9 i0 (.string ⟨#[]⟩) 16 Tryd.underlying33 hi hz0 hz1 hz2 rfl _ 6 [Value.string ⟨F0.toArray⟩, Value.string ⟨F1.toArray⟩, Value.string ⟨F2.toArray⟩, Value.string ⟨F3.toArray⟩, Value.string ⟨F4.toArray⟩, Value.string ⟨F5.toArray⟩] rfl hownc (W5.heap.size + 1) (some ⟨W5.heap.size, 0, none⟩) 1 [.string ⟨tl.toArray⟩] rfl (rd_lit hgc hnl3 hc3) hone1 hm3.out hm4.out hBc.size ?_; intro v9 u9 hown9 hg9 hat9; have HA9 := Lib.hid (Addr8.grown (HAc.out) hg9 (fun e => by have := (World.ownsRow.lt hownc _ e).1; omega)); have hB9 := (hBc).grown hg9 hBc.size (fun j e => (World.ownsRow.lt hownc j e).1); have hown7 := Lib.hid (show u9.ownsRow W5.heap.size 9 1 v9 7 (strV L7) from (by rw [HL7.out]; exact hown9)))
            | (refine step_append_rd _ rfl (.tmp 55) (.tmp 57) 33 rfl W5.heap.size 9 i0 (.string ⟨#[]⟩) 16 Tryd.underlying33 hi hz0 hz1 hz2 rfl _ 0 [] rfl own1.out W5.heap.size (some ⟨g, off, none⟩) c' [Value.string ⟨F0.toArray⟩, Value.string ⟨F1.toArray⟩, Value.string ⟨F2.toArray⟩, Value.string ⟨F3.toArray⟩, Value.string ⟨F4.toArray⟩, Value.string ⟨F5.toArray⟩] rfl rd1.out hone6 hm1.out hm2.out hbs1 ?_; intro va ua howna hga hata; have HAa := Lib.hid (Addr8.grown (HA5.out.drew.alloc _) hga hne1); have hBa := hB1.grown hga hbs1 hr1; have hbsa : W5.heap.size ≤ (ua.alloc (.cells #[.string ⟨tl.toArray⟩] 9)).heap.size := Nat.le_trans hBa.size (by simp))
            | (refine step_append_rd _ rfl (.tmp 55) (.tmp 57) 33 rfl W5.heap.size 9 i0 (.string ⟨#[]⟩) 16 Tryd.underlying33 hi hz0 hz1 hz2 rfl _ 0 [] rfl own2.out W5.heap.size (some ⟨g, off, none⟩) c' [Value.string ⟨F0.toArray⟩, Value.string ⟨F1.toArray⟩, Value.string ⟨F2.toArray⟩, Value.string ⟨F3.toArray⟩, Value.string ⟨F4.toArray⟩, Value.string ⟨F5.toArray⟩] rfl rd2.out hone6 hm1.out hm2.out hbs2 ?_; intro vb ub hownb hgb hatb; have HAb := Lib.hid (Addr8.grown ((HA5.out.drew.alloc _).alloc _) hgb hne1); have hBb := hB2.grown hgb hbs2 hr1)
            | (refine step_append_rd _ rfl (.tmp 55) (.tmp 57) 33 rfl W5.heap.size 9 i0 (.string ⟨#[]⟩) 16 Tryd.underlying33 hi hz0 hz1 hz2 rfl _ 0 [] rfl own3.out W5.heap.size (some ⟨g, off, none⟩) c' [Value.string ⟨F0.toArray⟩, Value.string ⟨F1.toArray⟩, Value.string ⟨F2.toArray⟩, Value.string ⟨F3.toArray⟩, Value.string ⟨F4.toArray⟩, Value.string ⟨F5.toArray⟩] rfl rd3.out hone6 hm1.out hm2.out hbs3 ?_; intro vc uc hownc hgc hatc; have HAc := Lib.hid (Addr8.grown ((HA5.out.drew.alloc _).alloc _) hgc hne3); have hBc := hB3.grown hgc hbs3 hr3))
        all_goals
          go_wp2_with fail
          go_meet
          exact ⟨rfl, hb91⟩
      case rest =>
        obtain ⟨rfl, hcv⟩ := hcut
        have HA6 := Lib.hid (HA5.out.below hcv)
        have Ho6 := Lib.hid (Ho5.out.below hcv)
        have hb6 := hb5.trans (hcv.mono hb5.size)
        have HRow6 := Lib.hid (HRow5.out.below hcv)
        obtain ⟨W6, hW6⟩ : ∃ W, W = wc := ⟨_, rfl⟩
        subst hW6
        have hN6 : w.heap.size < W6.heap.size := HA6.out.lt
        clear hcv HA5 Ho5 hb5 HRow5 own1 own2 own3 rd1 rd2 rd3 hr6 hbs1 hbs2 hbs3 hB1 hB2 hB3 hne1 hne3 hr1 hr3 hc2 hc3 hnl2 hnl3 HJ7 HPj Hlj hN5
        have own8 := Lib.hid (World.ownsRow_lit (base := W6.heap.size) (e := 9) (size := 1) W6 #[] 0 (Nat.le_refl _) (by decide) rfl)
        have hr8 : Rd W6 W6.heap.size (some ⟨g, off, none⟩) [Value.string ⟨F0.toArray⟩, Value.string ⟨F1.toArray⟩, Value.string ⟨F2.toArray⟩, Value.string ⟨F3.toArray⟩, Value.string ⟨F4.toArray⟩, Value.string ⟨F5.toArray⟩] := by rw [← HF6.out, strV_take]; exact HRow6.out.rd.take 6
        have rd8 := Lib.hid (hr8.alloc (Nat.le_refl _) (.cells #[] 9))
        have hbs8 : W6.heap.size ≤ (W6.alloc (.cells #[] 9)).heap.size := by simp
        have hne8 : (some W6.heap.size : Option Nat) ≠ some w.heap.size := fun e => by injection e with e; omega
        have hrr8 : ∀ j, (some W6.heap.size : Option Nat) = some j → W6.heap.size ≤ j := fun j e => by injection e with e; omega
        clear hr8
        go_wp2_with (at_builtin; refine wpList_append_rd _ rfl _ _ 33 rfl W6.heap.size 9 i0 (.string ⟨#[]⟩) 16 Tryd.underlying33 hi hz0 hz1 hz2 rfl _ 0 [] rfl own8.out W6.heap.size (some ⟨g, off, none⟩) c' [Value.string ⟨F0.toArray⟩, Value.string ⟨F1.toArray⟩, Value.string ⟨F2.toArray⟩, Value.string ⟨F3.toArray⟩, Value.string ⟨F4.toArray⟩, Value.string ⟨F5.toArray⟩] rfl rd8.out hone6 hm1.out hm2.out hbs8 ?_)
        intro v1 u1 hown1 hg1 hat1
        have HA7 := Lib.hid (Addr8.grown (HA6.out.alloc _) hg1 hne8)
        have hB7 := ((Below.refl W6.heap.size W6).alloc (Nat.le_refl _) (.cells #[] 9)).grown hg1 hbs8 hrr8
        have own9 := Lib.hid (hown1.alloc (.cells #[.string ⟨tl.toArray⟩] 9))
        have hbs9 : W6.heap.size ≤ (u1.alloc (.cells #[.string ⟨tl.toArray⟩] 9)).heap.size := Nat.le_trans hB7.size (by simp)
        clear own8 rd8 hown1 hg1
        go_wp2_with (at_builtin; refine wpList_append_rd _ rfl _ _ 33 rfl W6.heap.size 9 i0 (.string ⟨#[]⟩) 16 Tryd.underlying33 hi hz0 hz1 hz2 rfl _ 6 [Value.string ⟨F0.toArray⟩, Value.string ⟨F1.toArray⟩, Value.string ⟨F2.toArray⟩, Value.string ⟨F3.toArray⟩, Value.string ⟨F4.toArray⟩, Value.string ⟨F5.toArray⟩] rfl own9.out (u1.heap.size + 1) (some ⟨u1.heap.size, 0, none⟩) 1 [.string ⟨tl.toArray⟩] rfl (rd_new u1 [.string ⟨tl.toArray⟩] 9) hone1 hm3.out hm4.out hbs9 ?_)
        intro v2 u2 hown2 hg2 hat2
        have HA8 := Lib.hid (Addr8.grown (HA7.out.alloc (.cells #[.string ⟨tl.toArray⟩] 9)) hg2 (fun e => by have := (own9.out.lt _ e).1; omega))
        have hB8 := (hB7.alloc hB7.size (.cells #[.string ⟨tl.toArray⟩] 9)).grown hg2 hbs9 (fun j e => (own9.out.lt j e).1)
        have hown7 : u2.ownsRow W6.heap.size 9 1 v2 7 (strV L7) := by rw [HL7.out]; exact hown2
        have HLl8 : Hid (L7.length = 7) := by show _ = _; rw [HL7.out]; rfl
        obtain ⟨A7, cc7, rfl, hlc7⟩ := own_slice_le hown7
        have HRow8 := Lib.hid (Row.of_own hown7 (by rw [HLl8.out]; exact hlc7) Hsh7.out (by rw [HLl8.out]; decide))
        obtain ⟨g7, off7, rfl, _, _⟩ := HRow8.out.rd 0 _ (strV_get (List.getElem?_eq_getElem (show 0 < L7.length by rw [HLl8.out]; decide)))
        have Ho8 := Lib.hid (Ho6.out.below hB8)
        have hb8 := hb6.trans (hB8.mono hb6.size)
        clear hown2 hown7 hg2 own9 HA7 hB7 hB8 HA6 Ho6 hb6 HRow6 hbs8 hbs9 hm1 hm2 hm3 hm4 hone6 hone1 hne8 hrr8 hN6
        clear f1 f2 z8 hN1
        go_upto_if 74 with fail
        go_cut [12, 13] from 16 (fun kk nn wx => (∃ k2 nq : Nat, kk = .int .i64 (k2 : Int) ∧ nn = .int .i64 (nq : Int) ∧ k2 ≤ 5 ∧ 1 ≤ nq) ∧ wx = u2)
        case first =>
          by_cases h5 : (5 : Int) < (k : Int)
          · go_wp2_with fail
            go_meet
            exact ⟨⟨5, 1, rfl, rfl, by omega, by omega⟩, rfl⟩
          · go_wp2_with fail
            go_meet
            exact ⟨⟨k, mm, rfl, rfl, by omega, by omega⟩, rfl⟩
        case rest =>
          obtain ⟨⟨k2, nq, rfl, rfl, hk5, hnq⟩, hwc⟩ := hcut
          subst hwc
          first | (generalize hV8 : u2 = V8 at *) | (generalize hV8 : wc = V8 at *)
          clear hV8
          obtain ⟨mq, hmq⟩ : ∃ mq, min nq (6 - k2) = mq := ⟨_, rfl⟩
          have hmin : min (nq : Int) (6 - (k2 : Int)) = (mq : Int) := by omega
          have hmq1 : 1 ≤ mq := by omega
          have hkn : k2 + mq ≤ 6 := by omega
          clear hmq hk8 hm1 hkm
          have HJ8 := Lib.hid (fun W (h : Below V8.heap.size V8 W) => join_all (HRow8.out.below h))
          have hlen8 : (L7).length = 7 := HLl8.out
          rw [hlen8] at HJ8
          obtain ⟨tj, htj⟩ : ∃ t, Lib.join (L7) [58] = t := ⟨_, rfl⟩
          rw [htj] at HJ8
          have HPj := Lib.hid (Hp6.out)
          rw [htj] at HPj
          have Hlj : Hid (tj.length ≤ 100000) := by
            show _ ≤ _
            rw [← htj]
            exact Nat.le_trans (join_small HRow8.out.short HRow8.out.few) (by decide)
          clear htj hlen8
          go_upto_region 12 with fail
          go_cut [83] from 16 (fun v wx => v = .bool false ∧ Below V8.heap.size V8 wx)
          case first =>
            have hbv : Below V8.heap.size V8 V8 := Below.refl _ _
            go_region_held3 (fun w' => w'.cell? ⟨w.heap.size, 0, none⟩ = some (.int .u16 (c0 : Int)) ∧ w'.cell? ⟨w.heap.size, 1, none⟩ = some (.int .u16 (c1 : Int)) ∧ w'.cell? ⟨w.heap.size, 2, none⟩ = some (.int .u16 (c2 : Int)) ∧ w'.cell? ⟨w.heap.size, 3, none⟩ = some (.int .u16 (c3 : Int)) ∧ w'.cell? ⟨w.heap.size, 4, none⟩ = some (.int .u16 (c4 : Int)) ∧ w'.cell? ⟨w.heap.size, 5, none⟩ = some (.int .u16 (c5 : Int)) ∧ w'.cell? ⟨w.heap.size, 6, none⟩ = some (.int .u16 (c6 : Int)) ∧ w'.cell? ⟨w.heap.size, 7, none⟩ = some (.int .u16 (c7 : Int)))
              (first | exact (HA91.out).cells Hxe.out | exact (HA90.out).cells Hxe.out | exact (HA8.out.drew).cells Hxe.out | exact (HA8.out).cells Hxe.out)
              (first
                | (go_at_call 40; first | (refine (Hsays.out tj HPj.out Hlj.out w90 HO90.out).mono ?_; rintro e91 w91 ⟨rfl, hc91⟩; have HA91 := Lib.hid ((HA90.out).below hc91); have HO91 := Lib.hid ((HO90.out).below hc91); have hb91 := (hb90).trans (hc91.mono (hb90).size)))
                | (go_at_call 26; first | (refine (HJ8.out _ hbv.drew).mono ?_; rintro e90 w90 ⟨rfl, hc90⟩; have HA90 := Lib.hid ((HA8.out.drew).below hc90); have HO90 := Lib.hid ((Ho8.out.below ((Below.refl _ _).drew)).below hc90); have hb90 := (hbv.drew).trans (hc90.mono (hbv.drew).size))))
            all_goals
              go_wp2_with fail
              go_meet
              exact ⟨rfl, hb91⟩
          case rest =>
            obtain ⟨rfl, hcv⟩ := hcut
            have HAr := Lib.hid (HA8.out.below hcv)
            have Hor := Lib.hid (Ho8.out.below hcv)
            have hbr := hb8.trans (hcv.mono hb8.size)
            have HRowr := Lib.hid (HRow8.out.below hcv)
            clear HPj Hlj HJ8 hcv HA8 Ho8 hb8
            have HLlr : Hid (L7.length = 7) := HLl8.out
            clear hmin
            go_wp2
            go_loopw [15] (fun v wr => ∃ j : Nat, k2 ≤ j ∧ j ≤ k2 + mq ∧ v = .int .i64 (j : Int) ∧ wr = wc ∧ Hid (∀ i, k2 ≤ i → i < j → x[i]? = some 0)) (fun v _ => k2 + mq - (intOf v).toNat)
            case atStart => exact ⟨k2, Nat.le_refl _, by omega, rfl, rfl, fun i h1 h2 => by omega⟩
            case round =>
              obtain ⟨j, hj0, hj, rfl, hwr, hall⟩ := hrel
              replace hwr := hwr.symm
              subst hwr
              by_cases hlt2 : j < k2 + mq
              · have i2 : (j : Int) < (k2 : Int) + (mq : Int) := by omega
                have i3 : (j : Int) < 8 := by omega
                obtain ⟨z, hz⟩ : ∃ z, x[j]? = some z := ⟨_, List.getElem?_eq_getElem (by rw [H8.out]; omega)⟩
                have hcell : wc.cell? ⟨w.heap.size, j, none⟩ = some (.int .u16 (z : Int)) := HAr.out.cell hz
                by_cases hz0 : z = 0
                · subst hz0
                  have hall2 : Hid (∀ i, k2 ≤ i → i < j + 1 → x[i]? = some 0) := fun i h1 h2 => by
                    by_cases e : i = j
                    · rw [e]; exact hz
                    · exact hall.out i h1 (by omega)
                  clear hz
                  go_wp2
                  exact ⟨⟨j + 1, by omega, by omega, rfl, by trivial, hall2.out⟩, by simp [intOf]; omega⟩
                · have g5 : ((z : Int) == 0) = false := by rw [beq_eq_false_iff_ne]; omega
                  clear hz hz0
                  go_wp2_with fail
                  refine (x9.out _ Hor.out).mono ?_
                  rintro e4 w4 ⟨rfl, hc⟩
                  go_wp2
                  go_ret
                  exact ⟨rfl, hbr.trans (hc.mono hbr.size)⟩
              · have hje : j = k2 + mq := by omega
                have i2 : ¬ (j : Int) < (k2 : Int) + (mq : Int) := by omega
                have hpz := (Hp7.out k2 mq hmq1 hkn (fun i h1 h2 => hall.out i h1 (by omega)))
                obtain ⟨t2, ht2⟩ : ∃ t, Lib.join ((L7).take k2) [58] = t := ⟨_, rfl⟩
                obtain ⟨t3, ht3⟩ : ∃ t, Lib.join ((L7).drop (k2 + mq)) [58] = t := ⟨_, rfl⟩
                obtain ⟨tm, htm⟩ : ∃ t, t2 ++ [58, 58] = t := ⟨_, rfl⟩
                obtain ⟨tz, htz⟩ : ∃ t, tm ++ t3 = t := ⟨_, rfl⟩
                rw [ht2, ht3, htm, htz] at hpz
                have Hpz := Lib.hid hpz
                have hfew := HRowr.out.few
                have l2 : t2.length ≤ 10000 := by rw [← ht2]; exact join_small (fun q hq => HRowr.out.short q (List.mem_of_mem_take hq)) (by rw [List.length_take]; omega)
                have l3 : t3.length ≤ 10000 := by rw [← ht3]; exact join_small (fun q hq => HRowr.out.short q (List.mem_of_mem_drop hq)) (by rw [List.length_drop]; omega)
                have l4 : tm.length ≤ 10002 := by rw [← htm, List.length_append]; simp only [List.length_cons, List.length_nil]; omega
                have Hlz : Hid (tz.length ≤ 100000) := by show _ ≤ _; rw [← htz, List.length_append]; omega
                have hrl : (L7).length = 7 := HLlr.out
                have HT := Lib.hid (fun W (hv : Below wc.heap.size wc W) => join_take (HRowr.out.below hv) k2 (by rw [hrl]; omega))
                rw [ht2] at HT
                have HD := Lib.hid (fun W (hv : Below wc.heap.size wc W) A2 h n hn => join_drop (HRowr.out.below hv) (k2 + mq) (by rw [hrl]; omega) A2 h n hn)
                rw [ht3, hrl] at HD
                have hs2 := size_str t2
                have hs3 := size_str t3
                have hs4 := size_str tm
                have hcat1 : (⟨t2.toArray⟩ : ByteArray) ++ ⟨#[58, 58]⟩ = ⟨tm.toArray⟩ := by rw [← htm]; exact cat6 t2 [58, 58]
                have hcat2 : (⟨tm.toArray⟩ : ByteArray) ++ ⟨t3.toArray⟩ = ⟨tz.toArray⟩ := by rw [← htz]; exact cat6 _ _
                have hcl : 7 ≤ cc7 := by have := HRowr.out.cap; omega
                have q1 : ¬ 9223372036854775807 < t2.length + 2 := by omega
                have q2 : ¬ 9223372036854775807 < tm.length + t3.length := by omega
                have n0 : IntKind.i64.wrap ((k2 : Int) + (mq : Int)) = (k2 : Int) + (mq : Int) := by rw [IntWalk.i64_in _ (by omega)]
                have n1 : (k2 : Int) ≤ 7 := by omega
                have n2 : (k2 : Int) + (mq : Int) ≤ 7 := by omega
                have n3 : (k2 : Int) ≤ (cc7 : Int) := by omega
                have n4 : ((k2 : Int) + (mq : Int)).toNat = k2 + mq := by omega
                clear ht2 ht3 htm htz hpz hrl hje hfew
                have hcap : ¬ (cc7 = k2 + mq) := by omega
                have HD2 := Lib.hid (fun V hv => HD.out V hv (some ⟨g7, off7 + (k2 + mq), none⟩) (by rw [if_neg hcap]; simp [addr_add]) (7 - (k2 + mq)) rfl)
                have f7 : (0 : Int) ≤ (k2 : Int) + (mq : Int) := by omega
                have n5 : (7 : Int) ≤ (cc7 : Int) := by omega
                have n6 : (k2 : Int) + (mq : Int) ≤ (cc7 : Int) := by omega
                have hbv : Below wc.heap.size wc wc := Below.refl _ _
                go_wp2_with fail
                go_region_held3 (fun w' => w'.cell? ⟨w.heap.size, 0, none⟩ = some (.int .u16 (c0 : Int)) ∧ w'.cell? ⟨w.heap.size, 1, none⟩ = some (.int .u16 (c1 : Int)) ∧ w'.cell? ⟨w.heap.size, 2, none⟩ = some (.int .u16 (c2 : Int)) ∧ w'.cell? ⟨w.heap.size, 3, none⟩ = some (.int .u16 (c3 : Int)) ∧ w'.cell? ⟨w.heap.size, 4, none⟩ = some (.int .u16 (c4 : Int)) ∧ w'.cell? ⟨w.heap.size, 5, none⟩ = some (.int .u16 (c5 : Int)) ∧ w'.cell? ⟨w.heap.size, 6, none⟩ = some (.int .u16 (c6 : Int)) ∧ w'.cell? ⟨w.heap.size, 7, none⟩ = some (.int .u16 (c7 : Int)))
                  (first | exact (HA93.out).cells Hxe.out | exact (HA92.out).cells Hxe.out | exact (HA91.out).cells Hxe.out | exact (HA90.out).cells Hxe.out | exact (HAr.out.drew).cells Hxe.out | exact (HAr.out).cells Hxe.out)
                  (first
                    | (go_at_call 29; first | (refine (x9.out w92 HO92.out).mono ?_; rintro e93 w93 ⟨rfl, hc93⟩; have HA93 := Lib.hid ((HA92.out).below hc93); have HO93 := Lib.hid ((HO92.out).below hc93); have hb93 := (hb92).trans (hc93.mono (hb92).size)))
                    | (go_at_call 40; first | (refine (Hsays.out tz Hpz.out Hlz.out w91 HO91.out).mono ?_; rintro e92 w92 ⟨rfl, hc92⟩; have HA92 := Lib.hid ((HA91.out).below hc92); have HO92 := Lib.hid ((HO91.out).below hc92); have hb92 := (hb91).trans (hc92.mono (hb91).size)))
                    | (go_at_call 26; first | (refine (HD2.out w90 hb90).mono ?_; rintro e91 w91 ⟨rfl, hc91⟩; have HA91 := Lib.hid ((HA90.out).below hc91); have HO91 := Lib.hid ((HO90.out).below hc91); have hb91 := (hb90).trans (hc91.mono (hb90).size)) | (refine (HT.out _ hbv.drew).mono ?_; rintro e90 w90 ⟨rfl, hc90⟩; have HA90 := Lib.hid ((HAr.out.drew).below hc90); have HO90 := Lib.hid ((Hor.out.below ((Below.refl _ _).drew)).below hc90); have hb90 := (hbv.drew).trans (hc90.mono (hbv.drew).size))))
                all_goals
                  go_wp2
                  go_ret
                  exact ⟨rfl, hbr.trans (hb93.mono hbr.size)⟩
#print axioms sixForms_main
end Go.Proofs.YtmobeppmdakjmaaDoor
