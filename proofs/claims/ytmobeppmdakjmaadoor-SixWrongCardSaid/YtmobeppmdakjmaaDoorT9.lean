/- Law: SixWrong answers true at every address, place, byte, and text. (Printed by sixwrong.py.) -/
import Derived.Test.YtmobeppmdakjmaaDoorT6
import Derived.Test.YtmobeppmdakjmaaDoorR5
import Derived.Deep.Cut
import Derived.Deep.RegionHeld3
namespace Go.Proofs.YtmobeppmdakjmaaDoor
open Go.RowKit

theorem trim6_any (s : List UInt8) (hl : s.length ≤ 100) (ht : Lib.trimS s fineSet = []) (w : World) :
    Calls Tryd.prog 38 #[.string ⟨s.toArray⟩, .string ⟨#[48, 49, 50, 51, 52, 53, 54, 55, 56, 57, 97, 98, 99, 100, 101, 102, 65, 66, 67, 68, 69, 70, 58, 46]⟩] w fun e w' => e = .returned (.string ⟨#[]⟩) ∧ Below w.heap.size w w' := by
  refine (Tryd.strings_Trim ⟨s.toArray⟩ ⟨#[48, 49, 50, 51, 52, 53, 54, 55, 56, 57, 97, 98, 99, 100, 101, 102, 65, 66, 67, 68, 69, 70, 58, 46]⟩ w (by rw [size_str]; omega) (by decide) (ascii_of_all (by decide))).mono ?_
  rintro e w' ⟨rfl, hb⟩
  refine ⟨?_, hb⟩
  show Ending.returned (.string ⟨(Lib.trimS s fineSet).toArray⟩) = _
  rw [ht]
theorem trip_any (s : List UInt8) (hl : s.length ≤ 100) (ht : Lib.contains s [58, 58, 58] = false) (w : World) (ho : Ok w) :
    Calls Tryd.prog 42 #[.string ⟨s.toArray⟩, .string ⟨#[58, 58, 58]⟩] w fun e w' => e = .returned (.bool false) ∧ w' = w := by
  obtain ⟨m, hm⟩ := ho.mx.2
  have := Tryd.strings_Contains ⟨s.toArray⟩ ⟨#[58, 58, 58]⟩ m w (by rw [size_str]; omega) hm
  rw [show Lib.contains (⟨s.toArray⟩ : ByteArray).data.toList (⟨#[58, 58, 58]⟩ : ByteArray).data.toList = false from ht] at this
  exact this
theorem index6_any (c : UInt8) (r : Int) (hr : Lib.indexByte hexSet c = r) (w : World) :
    Calls Tryd.prog 28 #[.string ⟨#[48, 49, 50, 51, 52, 53, 54, 55, 56, 57, 97, 98, 99, 100, 101, 102, 65, 66, 67, 68, 69, 70, 58]⟩, .int .u8 c.toNat] w fun e w' => e = .returned (.int .i64 r) ∧ w' = w := by
  subst hr
  exact strings_IndexByte' ⟨#[48, 49, 50, 51, 52, 53, 54, 55, 56, 57, 97, 98, 99, 100, 101, 102, 65, 66, 67, 68, 69, 70, 58]⟩ c w
theorem conv_byte (c : UInt8) (w : World) : (convert 41 9 (.slice (some ⟨w.heap.size, 0, none⟩) 1 1)).run Tryd.prog (w.alloc (.cells #[.int .u8 c.toNat] 5)) = .ok (.string ⟨#[c]⟩) (w.alloc (.cells #[.int .u8 c.toNat] 5)) := by
  refine run_convert_bytes_back (P := Tryd.prog) (w.alloc (.cells #[.int .u8 c.toNat] 5)) 41 9 5 ⟨w.heap.size, 0, none⟩ 1 [c] Tryd.underlying41 Tryd.underlying5 Tryd.underlying9 (fun j hj => ?_)
  obtain rfl : j = 0 := by simpa using hj
  rw [Lib.add_plain, World.cell?_alloc_at _ _ _ _ rfl]
  rfl
set_option maxHeartbeats 16000000 in
set_option maxRecDepth 100000 in
theorem sixWrong_main (x : List Nat) (h8 : x.length = 8) (hx : ∀ n ∈ x, n < 65536) (a c : UInt8) (k : Nat) (hk8 : k < 8) (f1 : (a.toNat : Int) % 8 = (k : Int)) (s : List UInt8) (hl : s.length ≤ 100) (w : World) (ho : Ok6 w) :
    Calls Tryd.prog 10 #[addrV x, .int .u8 a.toNat, .int .u8 c.toNat, .string ⟨s.toArray⟩] w fun e w' => e = .returned (.bool true) ∧ Below w.heap.size w w' := by
  obtain ⟨i0, hi, hz0, hz1, hz2⟩ := info_parts Tryd.info9
  have ha := a.toNat_lt
  have hsz := size_str s
  have i100 : ¬ (100 : Int) < (s.length : Int) := by omega
  have hb0 : Below w.heap.size w (w.alloc (.cells (u16V x).toArray 44)) := (Below.refl _ w).alloc (Nat.le_refl _) _
  have HA0 : Hid (Addr8 w.heap.size x (w.alloc (.cells (u16V x).toArray 44))) := World.alloc_heap_new w _
  have Ho := Lib.hid (ho.below hb0)
  have Hp := Lib.hid (parse6_any s (by omega) (w.alloc (.cells (u16V x).toArray 44)) Ho.out.ok)
  have Hb0 := Lib.hid hb0
  have Hfull := Lib.hid (fun W h => full_any x h8 hx [] none 0 W W.heap.size (Nat.le_refl _) (Rd.nil _ _ _) h)
  have x9 := Lib.hid (fun W h => awake6_true W h)
  have Hnone := Lib.hid (fun t h hl W ho => none6_true t h hl W ho)
  have Hsh := Lib.hid (full6_short100 [] hx)
  obtain ⟨n, hn⟩ : ∃ n, x[k]? = some n := ⟨_, List.getElem?_eq_getElem (by omega)⟩
  have hn16 := hx n (List.mem_of_getElem? hn)
  have hpk : (full6 [] x)[k]? = some (hexOf n) := by rw [full6_nil, List.getElem?_map, hn]; rfl
  have hfb := fiveOf_bad hn16
  have hlen4 := hex_len4 hn16
  have W1 := Lib.hid (wrong_behind h8 hx)
  have W2 := Lib.hid (wrong_ahead h8 hx)
  have W3 := Lib.hid (wrong_more h8 hx)
  have W4 := Lib.hid (wrong_gap_behind h8 hx)
  have W5 := Lib.hid (wrong_gap_ahead h8 hx)
  have W6x := Lib.hid (wrong_set h8 hx hfb.1 hfb.2.1 hfb.2.2 hk8)
  have W7x := Lib.hid (wrong_less h8 hx hk8)
  have W8 := Lib.hid (fun (h : Lib.indexByte hexSet c < 0) => wrong_set h8 hx (odd_bad c h).1 (odd_bad c h).2.1 (odd_bad c h).2.2 hk8)
  obtain ⟨F, hF⟩ : ∃ F, full6 [] x = F := ⟨_, rfl⟩
  have hFl : F.length = 8 := by rw [← hF, full6_len, h8]
  rw [show ([] : List UInt8).map (·.toNat) = [] from rfl, hF] at Hfull
  rw [hF] at Hsh W1 W2 W3 W4 W5 W6x W7x W8 hpk
  have HFl := Lib.hid hFl
  have Hpk := Lib.hid hpk
  obtain ⟨h, hh⟩ : ∃ h, hexOf n = h := ⟨_, rfl⟩
  rw [hh] at Hpk W6x hlen4
  obtain ⟨fk, hfk⟩ : ∃ t, fiveOf h = t := ⟨_, rfl⟩
  rw [hfk] at W6x
  have Hfk := Lib.hid hfk
  obtain ⟨wh, hwh⟩ : ∃ t, Lib.join F [58] = t := ⟨_, rfl⟩
  rw [hwh] at W1 W2 W3 W4 W5
  have Hwh := Lib.hid hwh
  have Hfine := Lib.hid (fun l (h : parse6 s = some l) => parse6_fine h)
  have HPl := Lib.hid (fun l (h : parse6 s = some l) => parse6_len h)
  obtain ⟨c0, c1, c2, c3, c4, c5, c6, c7, hxe⟩ := eight h8
  have hcx : (u16V x).toArray = #[.int .u16 (c0 : Int), .int .u16 (c1 : Int), .int .u16 (c2 : Int), .int .u16 (c3 : Int), .int .u16 (c4 : Int), .int .u16 (c5 : Int), .int .u16 (c6 : Int), .int .u16 (c7 : Int)] := by rw [hxe]; rfl
  have Hxe := Lib.hid hxe
  unfold addrV at *
  rw [hcx] at Hfull Hb0 Ho HA0 Hp ⊢
  clear hcx hxe hb0 ho hFl hF h8 hx hn hn16 hpk hfb hh hfk hwh
  have HR : Hid (∀ (code : Int) (m0 m1 m2 m3 m4 m5 m6 m7 : Int), parse6V (parse6 s) = .tuple #[.agg #[.int .u16 m0, .int .u16 m1, .int .u16 m2, .int .u16 m3, .int .u16 m4, .int .u16 m5, .int .u16 m6, .int .u16 m7], .int .i64 code] →
      ((code == 0) = false ∨ (code == 0) = true ∧ Lib.trimS s fineSet = [] ∧ Lib.count s [58, 58] ≤ 1 ∧ Lib.contains s [58, 58, 58] = false) →
      Calls Tryd.prog 10 #[.agg #[.int .u16 (c0 : Int), .int .u16 (c1 : Int), .int .u16 (c2 : Int), .int .u16 (c3 : Int), .int .u16 (c4 : Int), .int .u16 (c5 : Int), .int .u16 (c6 : Int), .int .u16 (c7 : Int)], .int .u8 a.toNat, .int .u8 c.toNat, .string ⟨s.toArray⟩] w fun e w' => e = .returned (.bool true) ∧ Below w.heap.size w w') := by
    show ∀ (code : Int), _
    intro code m0 m1 m2 m3 m4 m5 m6 m7 hv hcase
    rw [hv] at Hp
    clear hv Hfine HPl
    have Hcase := Lib.hid hcase
    clear hcase
    go_enter Tryd.func10, Tryd.ntmps10
    generalize hW : w.alloc (.cells #[.int .u16 (c0 : Int), .int .u16 (c1 : Int), .int .u16 (c2 : Int), .int .u16 (c3 : Int), .int .u16 (c4 : Int), .int .u16 (c5 : Int), .int .u16 (c6 : Int), .int .u16 (c7 : Int)] 44) = W at *
    have HW := Lib.hid hW
    clear hW
    go_wp2_with fail
    rw [HW.out]
    refine Hp.out.mono ?_
    rintro e1 w1 ⟨rfl, hc⟩
    have HA1 := Lib.hid (HA0.out.below hc)
    have Ho1 := Lib.hid (Ho.out.below hc)
    have hb1 := Hb0.out.trans (hc.mono Hb0.out.size)
    clear hc HA0 Ho Hb0 HW Hp
    go_upto_region 4 with fail
    go_cut [43] from 19 (fun v wx => v = .bool false ∧ Below w1.heap.size w1 wx)
    case first =>
      rcases Hcase.out with g0 | ⟨g0, g1, g2, g3⟩
      · go_wp2_with fail
        go_meet
        exact ⟨rfl, (Below.refl _ w1).alloc (Nat.le_refl _) _⟩
      · have HT := Lib.hid (fun W => trim6_any s hl g1 W)
        obtain ⟨cn, hcn⟩ : ∃ cn, Lib.count s [58, 58] = cn := ⟨_, rfl⟩
        have HC := Lib.hid (fun W h => count_any s (by omega) cn hcn W h)
        have HK := Lib.hid (fun W h => trip_any s hl g3 W h)
        have g4 : ¬ (1 : Int) < (cn : Int) := by omega
        have hbv := (Below.refl _ w1).alloc (Nat.le_refl w1.heap.size) (.cells #[.int .u16 m0, .int .u16 m1, .int .u16 m2, .int .u16 m3, .int .u16 m4, .int .u16 m5, .int .u16 m6, .int .u16 m7] 44)
        clear g1 g2 g3 hcn
        go_wp2_with fail
        refine (HT.out _).mono ?_
        rintro e2 w2 ⟨rfl, hc⟩
        have hb2 := hbv.trans (hc.mono hbv.size)
        have Ho2 := Lib.hid (Ho1.out.below hb2)
        clear hc
        go_wp2_with fail
        refine (HC.out _ Ho2.out.ok).mono ?_
        rintro e3 w3 ⟨rfl, hw3⟩
        subst w3
        go_wp2_with fail
        refine (HK.out _ Ho2.out.ok).mono ?_
        rintro e4 w4 ⟨rfl, hw4⟩
        subst w4
        go_wp2_with fail
        go_meet
        exact ⟨by simp; omega, hb2⟩
    case rest =>
      obtain ⟨rfl, hcv⟩ := hcut
      have HA2 := Lib.hid (HA1.out.below hcv)
      have Ho2 := Lib.hid (Ho1.out.below hcv)
      have hb2 := hb1.trans (hcv.mono hb1.size)
      clear hcv HA1 Ho1 hb1 Hcase
      obtain ⟨d0, d1, d2, d3, d4, d5, d6, d7⟩ := HA2.out.cells Hxe.out
      go_wp2_with fail
      refine (Hfull.out _ Ho2.out).mono ?_
      rintro e3 w3 ⟨⟨v, rfl, hown⟩, hc⟩
      obtain ⟨A', c', rfl, hlc⟩ := own_slice_le hown
      have HRow3 := Lib.hid (Row.of_own hown (by rw [HFl.out]; exact hlc) Hsh.out (by rw [HFl.out]; decide))
      have Ho3 := Lib.hid (Ho2.out.below hc)
      have hb3 := hb2.trans (hc.mono hb2.size)
      obtain ⟨g, off, rfl, _, _⟩ := HRow3.out.rd 0 _ (strV_get (List.getElem?_eq_getElem (show 0 < F.length by rw [HFl.out]; decide)))
      have HJ := Lib.hid (join_all HRow3.out)
      rw [HFl.out, Hwh.out] at HJ
      clear hc hown d0 d1 d2 d3 d4 d5 d6 d7 HA2 Ho2 hb2 Hfull
      go_wp2_with fail
      refine HJ.out.mono ?_
      rintro e4 w4 ⟨rfl, hc⟩
      have HRow4 := Lib.hid (HRow3.out.below hc)
      have Ho4 := Lib.hid (Ho3.out.below hc)
      have hb4 := hb3.trans (hc.mono hb3.size)
      clear hc HRow3 Ho3 hb3 HJ
      obtain ⟨gb, goff, ge, hgl4, hgc4⟩ := HRow4.out.rd k _ (strV_get Hpk.out)
      obtain ⟨rfl, rfl⟩ : g = gb ∧ off = goff := by
        injection ge with ge
        injection ge with e1 e2 _
        exact ⟨e1, e2⟩
      clear ge
      have own5 := Lib.hid (World.ownsRow_lit (base := w4.heap.size) (e := 9) (size := 1) w4 #[] 0 (Nat.le_refl _) (by decide) rfl)
      have rd5 := Lib.hid (HRow4.out.rd.alloc (Nat.le_refl _) (.cells #[] 9))
      have hbs5 : w4.heap.size ≤ (w4.alloc (.cells #[] 9)).heap.size := by simp
      have hm1 : Hid (0 + (strV F).length ≤ maxLen) := by show _ ≤ _; rw [strV_length, HFl.out]; unfold maxLen; omega
      have hm2 : Hid ((0 + (strV F).length) * 16 ≤ 140737488355328) := (show ∀ a : Nat, a = 8 → (0 + a) * 16 ≤ 140737488355328 from fun a h => by omega) _ (by rw [strV_length, HFl.out])
      have hlF : (strV F).length = 8 := by rw [strV_length, HFl.out]
      have hsl8 : Hid (Value.slice (some ⟨g, off, none⟩) 8 c' = Value.slice (some ⟨g, off, none⟩) (strV F).length c') := by show _ = _; rw [hlF]
      have hrr : ∀ j, (some w4.heap.size : Option Nat) = some j → w4.heap.size ≤ j := fun j e => by injection e with e; omega
      have hoF := strV_one F
      clear hlF
      go_wp2_with (at_builtin; refine wpList_append_rd _ rfl _ _ 33 rfl w4.heap.size 9 i0 (.string ⟨#[]⟩) 16 Tryd.underlying33 hi hz0 hz1 hz2 rfl _ 0 [] rfl own5.out w4.heap.size (some ⟨g, off, none⟩) c' (strV F) hsl8.out rd5.out hoF hm1.out hm2.out hbs5 ?_)
      intro v5 u5 hown5 hg5 hat5
      have hB5 : Below w4.heap.size w4 u5 := ((Below.refl w4.heap.size w4).alloc (Nat.le_refl _) (.cells #[] 9)).grown hg5 hbs5 hrr
      have hown5' : u5.ownsRow w4.heap.size 9 1 v5 8 (strV F) := by
        have := hown5
        rw [strV_length, HFl.out] at this
        exact this
      obtain ⟨A5, c5', rfl, hlc5⟩ := own_slice_le hown5'
      obtain ⟨g5, off5, rfl, _, hcell5⟩ := Rd.of_own hown5' k _ (strV_get Hpk.out)
      have hoff5 : off5 = 0 := by
        rcases hown5'.2 with ⟨h', _⟩ | ⟨g', cap', cur, h', _⟩
        · simp at h'
        · simp only [Value.slice.injEq, Option.some.injEq, Addr.mk.injEq] at h'
          exact h'.1.2.1
      subst hoff5
      rw [Nat.zero_add] at hcell5
      have hg5lt := hown5'.lt g5 rfl
      have Hown5 := Lib.hid hown5'
      have hz5 := hown5'.frozenAt k
      have hcl5 : u5.cell? ⟨g, off + k, none⟩ = some (.string ⟨h.toArray⟩) := (hB5.cell (p := ⟨g, off + k, none⟩) hgl4).trans hgc4
      have hgu : g < u5.heap.size := Nat.lt_of_lt_of_le hgl4 hB5.size
      obtain ⟨rp, hrp⟩ : ∃ rp, List.replicate (4 - h.length) (48 : UInt8) = rp := ⟨_, rfl⟩
      have hrl : rp.length ≤ 4 := by rw [← hrp, List.length_replicate]; omega
      have HRp := Lib.hid (fun W => repeat_noughts (4 - h.length) (by omega) (4 - (h.length : Int)) (by omega) W)
      rw [hrp] at HRp
      obtain ⟨sa, hsa⟩ : ∃ t, [48] ++ rp = t := ⟨_, rfl⟩
      have hsal : sa.length ≤ 5 := by rw [← hsa, List.length_append]; simp only [List.length_cons, List.length_nil]; omega
      have hfke : sa ++ h = fk := by rw [← Hfk.out, ← hsa, ← hrp]; rfl
      have zz1 : (⟨#[48]⟩ : ByteArray) ++ ⟨rp.toArray⟩ = ⟨sa.toArray⟩ := by rw [← hsa]; exact cat6 [48] rp
      have zz2 : (⟨sa.toArray⟩ : ByteArray) ++ ⟨h.toArray⟩ = ⟨fk.toArray⟩ := by rw [← hfke]; exact cat6 _ _
      have y1 := size_str rp
      have y2 := size_str sa
      have y3 := size_str h
      have q1 : ¬ 9223372036854775807 < 1 + rp.length := by omega
      have q2 : ¬ 9223372036854775807 < sa.length + h.length := by omega
      have kI : (k : Int) < 8 := by omega
      have kw : IntKind.i64.wrap (4 - (h.length : Int)) = 4 - (h.length : Int) := by rw [IntWalk.i64_in _ (by omega)]
      clear hrp hsa hfke hown5 hown5' hg5 own5 rd5
      go_upto_region 10 with fail
      go_cut [] from 19 (fun wx => wx.ownsRow w4.heap.size 9 1 (.slice (some ⟨g5, 0, none⟩) 8 c5') 8 (strV (F.set k fk)) ∧ Below w4.heap.size w4 wx)
      case first =>
        go_region_held3 (fun w' => w'.cell? ⟨g, off + k, none⟩ = some (.string ⟨h.toArray⟩))
          (first | exact hcl5 | exact hcl90 | exact hcl91)
          (first
            | (go_at_call 43; refine (HRp.out u5.drew).mono ?_; rintro e90 w90 ⟨rfl, hc90⟩; have hown90 := Lib.hid (own_below (World.ownsRow.drew Hown5.out) hc90 (Nat.le_refl _)); have hcl90 := (hc90.cell (p := ⟨g, off + k, none⟩) hgu).trans hcl5; have hc590 := (hc90.cell (p := ⟨g5, k, none⟩) hg5lt.2).trans hcell5; have hz90 := hown90.out.frozenAt k; have hst := Lib.hid (hown90.out.stored k (.string ⟨fk.toArray⟩)).1; have hB90 := hB5.drew.trans (hc90.mono hB5.size); have hcl91 := (World.cell?_setCell_other w90 ⟨g5, k, none⟩ ⟨g, off + k, none⟩ (.string ⟨fk.toArray⟩) (fun e => by injection e with e; omega)).trans hcl90))
        all_goals
          go_wp2_with fail
          go_meet
          exact ⟨by rw [strV_set]; exact hst.out, hB90.setCell hg5lt.1 _⟩
      case rest =>
        obtain ⟨hown6, hB6⟩ := hcut
        obtain ⟨W6, hW6⟩ : ∃ W, W = wc := ⟨_, rfl⟩
        subst hW6
        have HRow6 := Lib.hid (HRow4.out.below hB6)
        have Ho6 := Lib.hid (Ho4.out.below hB6)
        have hb6 := hb4.trans (hB6.mono hb4.size)
        have Hown6 := Lib.hid hown6
        have hgl6 : g < W6.heap.size := Nat.lt_of_lt_of_le hgl4 hB6.size
        clear hown6 hB6 hB5 Hown5 hz5 hcl5 hcell5 hg5lt hgu HRp zz1 zz2 y1 y2 y3 q1 q2 kw hrl hsal hgc4 HRow4 Ho4 hb4 hsl8 hrr hbs5 hoF hlc5 hat5
        have own7 := Lib.hid (World.ownsRow.drew (World.ownsRow_lit (base := W6.heap.size) (e := 9) (size := 1) W6 #[] 0 (Nat.le_refl _) (by decide) rfl))
        have hbs7 : W6.heap.size ≤ (W6.alloc (.cells #[] 9)).drew.heap.size := by simp
        have hB7 := ((Below.refl W6.heap.size W6).alloc (Nat.le_refl _) (.cells #[] 9)).drew
        have hrr7 : ∀ j, (some W6.heap.size : Option Nat) = some j → W6.heap.size ≤ j := fun j e => by injection e with e; omega
        have lk : (F.take k).length = k := by rw [List.length_take, HFl.out]; omega
        have ld : (F.drop (k + 1)).length = 8 - (k + 1) := by rw [List.length_drop, HFl.out]
        have rdk : Hid (Rd (W6.alloc (.cells #[] 9)).drew W6.heap.size (some ⟨g, off, none⟩) (strV (F.take k))) := by
          show Rd _ _ _ _
          rw [strV_take]
          exact Rd.drew ((HRow6.out.rd.take k).alloc (Nat.le_refl _) _)
        have hslk : Hid (∀ A : Option Addr, Value.slice A k c' = Value.slice A (strV (F.take k)).length c') := by show ∀ A, _; intro A; rw [strV_length, lk]
        have hsld : Hid (∀ (A : Option Addr) (z : Nat), Value.slice A (7 - k) z = Value.slice A (strV (F.drop (k + 1))).length z) := by show ∀ A, _; intro A z; rw [strV_length, ld, show 8 - (k + 1) = 7 - k by omega]
        have hm3 : Hid (0 + (strV (F.take k)).length ≤ maxLen) := by show _ ≤ _; rw [strV_length, lk]; unfold maxLen; omega
        have hm4 : Hid ((0 + (strV (F.take k)).length) * 16 ≤ 140737488355328) := (show ∀ a : Nat, a < 8 → (0 + a) * 16 ≤ 140737488355328 from fun a h => by omega) _ (by rw [strV_length, lk]; exact hk8)
        have hm5 : Hid (k + (strV (F.drop (k + 1))).length ≤ maxLen) := by show _ ≤ _; rw [strV_length, ld]; unfold maxLen; omega
        have hm6 : Hid ((k + (strV (F.drop (k + 1))).length) * 16 ≤ 140737488355328) := (show ∀ a : Nat, a ≤ 8 → (k + a) * 16 ≤ 140737488355328 from fun a h => by omega) _ (by rw [strV_length, ld]; omega)
        have hok := strV_one (F.take k)
        have hod := strV_one (F.drop (k + 1))
        have hown_k : Hid (∀ (V : World) (v : Value), V.ownsRow W6.heap.size 9 1 v (0 + (strV (F.take k)).length) ([] ++ strV (F.take k)) → V.ownsRow W6.heap.size 9 1 v k (strV (F.take k))) := by
          show ∀ (V : World), _
          intro V v h
          rw [strV_length, lk, Nat.zero_add, List.nil_append] at h
          exact h
        have hown_d : Hid (∀ (V : World) (v : Value), V.ownsRow W6.heap.size 9 1 v (k + (strV (F.drop (k + 1))).length) (strV (F.take k) ++ strV (F.drop (k + 1))) → V.ownsRow W6.heap.size 9 1 v 7 (strV (F.take k ++ F.drop (k + 1)))) := by
          show ∀ (V : World), _
          intro V v h
          rw [strV_length, ld, ← strV_append] at h
          rwa [show k + (8 - (k + 1)) = 7 by omega] at h
        have hcc8 : 8 ≤ c' := by have := HRow6.out.cap; rw [HFl.out] at this; exact this
        have n1 : (k : Int) ≤ 8 := by omega
        have n2 : (k : Int) + 1 ≤ 8 := by omega
        have n3 : (k : Int) ≤ (c' : Int) := by omega
        have n4 : ((k : Int) + 1).toNat = k + 1 := by omega
        have n0 : IntKind.i64.wrap ((k : Int) + 1) = (k : Int) + 1 := by rw [IntWalk.i64_in _ (by omega)]
        have n5 : (8 : Int) ≤ (c' : Int) := by omega
        have n7 : (0 : Int) ≤ (k : Int) + 1 := by omega
        clear lk ld
        go_upto_region 11 with fail
        go_cut [15] from 19 (fun v wx => wx.ownsRow W6.heap.size 9 1 v 7 (strV (F.take k ++ F.drop (k + 1))) ∧ Below W6.heap.size W6 wx)
        case first =>
          have rdd : ∀ A2 : Option Addr, A2 = (if c' = k + 1 then some ⟨g, off, none⟩ else some ⟨g, off + (k + 1), none⟩) → ∀ u : World, Below W6.heap.size W6 u → Rd u W6.heap.size A2 (strV (F.drop (k + 1))) := by
            intro A2 hA u hu
            have := (HRow6.out.rd.drop (k + 1) c' (by rw [strV_length]; exact HRow6.out.cap)).below hu
            rw [← strV_drop] at this
            rw [hA]
            by_cases e : c' = k + 1
            · rw [if_pos e]; rw [if_pos e] at this; exact this
            · rw [if_neg e]; rw [if_neg e] at this; simpa [addr_add] using this
          have Rdd := Lib.hid rdd
          clear rdd
          have hcc : (c' = k + 1 ∧ ∃ A2 : Option Addr, A2 = some ⟨g, off, none⟩) ∨ (¬ c' = k + 1) := by
            by_cases e : c' = k + 1
            · exact .inl ⟨e, _, rfl⟩
            · exact .inr e
          rcases hcc with ⟨e, _⟩ | e
          · obtain rfl : k = 7 := by omega
            obtain rfl : c' = 8 := by omega
            have RD := Lib.hid (Rdd.out (some ⟨g, off, none⟩) (by rw [if_pos rfl]))
            have f5 : IntKind.i64.wrap 8 = 8 := by decide
            clear n0 n2 n4 n7 Rdd e
            go_region_law (first | (refine step_append_rd _ rfl (.tmp 70) (.tmp 73) 33 rfl _ 9 i0 (.string ⟨#[]⟩) 16 Tryd.underlying33 hi hz0 hz1 hz2 rfl _ 0 [] rfl own7.out _ (some ⟨g, off, none⟩) 8 (strV (F.take 7)) (hslk.out _) rdk.out hok hm3.out hm4.out hbs7 ?_; intro v7 u7 hown7 hg7 hat7; have hB8 := hB7.grown hg7 hbs7 hrr7; have hown7k := Lib.hid (hown_k.out _ _ hown7)) | (refine step_append_rd _ rfl (.tmp 74) (.tmp 78) 33 rfl _ 9 i0 (.string ⟨#[]⟩) 16 Tryd.underlying33 hi hz0 hz1 hz2 rfl v7 7 (strV (F.take 7)) rfl hown7k.out _ (some ⟨g, off, none⟩) 0 (strV (F.drop (7 + 1))) (hsld.out _ _) (RD.out u7 hB8) hod hm5.out hm6.out hB8.size ?_; intro v8 u8 hown8 hg8 hat8; have hB9 := hB8.grown hg8 hB8.size (fun j e => (hown7k.out.lt j e).1)))
            all_goals
              go_wp2_with fail
              go_meet
              exact ⟨hown_d.out _ _ hown8, hB9⟩
          · have RD := Lib.hid (Rdd.out (some ⟨g, off + (k + 1), none⟩) (by rw [if_neg e]))
            have e2 : ¬ k + 1 = c' := fun h => e h.symm
            clear Rdd
            go_region_law (first | (refine step_append_rd _ rfl (.tmp 70) (.tmp 73) 33 rfl W6.heap.size 9 i0 (.string ⟨#[]⟩) 16 Tryd.underlying33 hi hz0 hz1 hz2 rfl _ 0 [] rfl own7.out W6.heap.size (some ⟨g, off, none⟩) c' (strV (F.take k)) (hslk.out _) rdk.out hok hm3.out hm4.out hbs7 ?_; intro v7 u7 hown7 hg7 hat7; have hB8 := hB7.grown hg7 hbs7 hrr7; have hown7k := Lib.hid (hown_k.out _ _ hown7)) | (refine step_append_rd _ rfl (.tmp 74) (.tmp 78) 33 rfl W6.heap.size 9 i0 (.string ⟨#[]⟩) 16 Tryd.underlying33 hi hz0 hz1 hz2 rfl v7 k (strV (F.take k)) rfl hown7k.out W6.heap.size (some ⟨g, off + (k + 1), none⟩) (c' - (k + 1)) (strV (F.drop (k + 1))) (hsld.out _ _) (RD.out u7 hB8) hod hm5.out hm6.out hB8.size ?_; intro v8 u8 hown8 hg8 hat8; have hB9 := hB8.grown hg8 hB8.size (fun j e => (hown7k.out.lt j e).1)))
            all_goals
              go_wp2_with fail
              go_meet
              exact ⟨hown_d.out _ _ hown8, hB9⟩
        case rest =>
          obtain ⟨hown7, hB7'⟩ := hcut
          obtain ⟨W7, hW7⟩ : ∃ W, W = wc := ⟨_, rfl⟩
          subst hW7
          obtain ⟨A7, c7', rfl, hlc7⟩ := own_slice_le hown7
          have Hown7 := Lib.hid hown7
          have HRow7 := Lib.hid (HRow6.out.below hB7')
          have Ho7 := Lib.hid (Ho6.out.below hB7')
          have hb7 := hb6.trans (hB7'.mono hb6.size)
          have Hown5 := Lib.hid (own_below Hown6.out hB7' (Nat.le_refl _))
          have hgl7 : g < W7.heap.size := Nat.lt_of_lt_of_le hgl6 hB7'.size
          clear hown7 hB7 hB7' own7 hbs7 hrr7 rdk hslk hsld hm3 hm4 hm5 hm6 hok hod hown_k hown_d n0 n1 n2 n3 n4 n5 n7 HRow6 Ho6 hb6 Hown6 hgl4 hgl6
          have own8 := Lib.hid (World.ownsRow_lit (base := W7.heap.size) (e := 9) (size := 1) W7 #[] 0 (Nat.le_refl _) (by decide) rfl)
          have rd8 := Lib.hid (HRow7.out.rd.alloc (Nat.le_refl _) (.cells #[] 9))
          have hbs8 : W7.heap.size ≤ (W7.alloc (.cells #[] 9)).heap.size := by simp
          have hlF : (strV F).length = 8 := by rw [strV_length, HFl.out]
          have hsl8 : Hid (Value.slice (some ⟨g, off, none⟩) 8 c' = Value.slice (some ⟨g, off, none⟩) (strV F).length c') := by show _ = _; rw [hlF]
          have hrr8 : ∀ j, (some W7.heap.size : Option Nat) = some j → W7.heap.size ≤ j := fun j e => by injection e with e; omega
          have hoF := strV_one F
          clear hlF
          go_wp2_with (at_builtin; refine wpList_append_rd _ rfl _ _ 33 rfl W7.heap.size 9 i0 (.string ⟨#[]⟩) 16 Tryd.underlying33 hi hz0 hz1 hz2 rfl _ 0 [] rfl own8.out W7.heap.size (some ⟨g, off, none⟩) c' (strV F) hsl8.out rd8.out hoF hm1.out hm2.out hbs8 ?_)
          intro v8 u8 hown8 hg8 hat8
          have hB8 : Below W7.heap.size W7 u8 := ((Below.refl W7.heap.size W7).alloc (Nat.le_refl _) (.cells #[] 9)).grown hg8 hbs8 hrr8
          have hown8' : u8.ownsRow W7.heap.size 9 1 v8 8 (strV F) := by
            have := hown8
            rw [strV_length, HFl.out] at this
            exact this
          obtain ⟨A8, c8', rfl, hlc8⟩ := own_slice_le hown8'
          obtain ⟨g8, off8, rfl, _, hcell8⟩ := Rd.of_own hown8' k _ (strV_get Hpk.out)
          have hoff8 : off8 = 0 := by
            rcases hown8'.2 with ⟨h', _⟩ | ⟨g', cap', cur, h', _⟩
            · simp at h'
            · simp only [Value.slice.injEq, Option.some.injEq, Addr.mk.injEq] at h'
              exact h'.1.2.1
          subst hoff8
          rw [Nat.zero_add] at hcell8
          have hg8lt := hown8'.lt g8 rfl
          have hcv := fun W => conv_byte c W
          have hc9 : (u8.alloc (.cells #[.int .u8 c.toNat] 5)).cell? ⟨g8, k, none⟩ = some (.string ⟨h.toArray⟩) := (World.cell?_alloc_lt u8 (.cells #[.int .u8 c.toNat] 5) ⟨g8, k, none⟩ hg8lt.2).trans hcell8
          have hz9 : (u8.alloc (.cells #[.int .u8 c.toNat] 5)).frozen? ⟨g8, k, none⟩ = false := (hown8'.alloc (.cells #[.int .u8 c.toNat] 5)).frozenAt k
          have hst9 := Lib.hid ((hown8'.stored k (.string ⟨[c].toArray⟩)).1.alloc (.cells #[.int .u8 c.toNat] 5))
          have hBs : Below W7.heap.size W7 (u8.setCell ⟨g8, k, none⟩ (.string ⟨[c].toArray⟩)) := hB8.setCell hg8lt.1 _
          have hB9 : Below W7.heap.size W7 ((u8.setCell ⟨g8, k, none⟩ (.string ⟨[c].toArray⟩)).alloc (.cells #[.int .u8 c.toNat] 5)) := hBs.alloc hBs.size (.cells #[.int .u8 c.toNat] 5)
          have HB9 := Lib.hid hB9
          obtain ⟨e1, he1⟩ : ∃ t, wh ++ [58] = t := ⟨_, rfl⟩
          obtain ⟨e2, he2⟩ : ∃ t, 58 :: wh = t := ⟨_, rfl⟩
          obtain ⟨e3, he3⟩ : ∃ t, wh ++ [58, 49] = t := ⟨_, rfl⟩
          obtain ⟨e4, he4⟩ : ∃ t, wh ++ [58, 58] = t := ⟨_, rfl⟩
          obtain ⟨e5, he5⟩ : ∃ t, [58, 58] ++ wh = t := ⟨_, rfl⟩
          obtain ⟨jf, hjf⟩ : ∃ t, Lib.join (F.set k fk) [58] = t := ⟨_, rfl⟩
          obtain ⟨jl, hjl⟩ : ∃ t, Lib.join (F.take k ++ F.drop (k + 1)) [58] = t := ⟨_, rfl⟩
          have hwl : wh.length ≤ 10000 := by rw [← Hwh.out]; exact join_small Hsh.out (by rw [HFl.out]; decide)
          have x1 : (⟨wh.toArray⟩ : ByteArray) ++ ⟨#[58]⟩ = ⟨e1.toArray⟩ := by rw [← he1]; exact cat6 wh [58]
          have x2 : (⟨#[58]⟩ : ByteArray) ++ ⟨wh.toArray⟩ = ⟨e2.toArray⟩ := by rw [← he2]; exact cat6 [58] wh
          have x3 : (⟨wh.toArray⟩ : ByteArray) ++ ⟨#[58, 49]⟩ = ⟨e3.toArray⟩ := by rw [← he3]; exact cat6 wh [58, 49]
          have x4 : (⟨wh.toArray⟩ : ByteArray) ++ ⟨#[58, 58]⟩ = ⟨e4.toArray⟩ := by rw [← he4]; exact cat6 wh [58, 58]
          have x5 : (⟨#[58, 58]⟩ : ByteArray) ++ ⟨wh.toArray⟩ = ⟨e5.toArray⟩ := by rw [← he5]; exact cat6 [58, 58] wh
          have y1 := size_str wh
          have q1 : ¬ 9223372036854775807 < wh.length + 1 := by omega
          have q2 : ¬ 9223372036854775807 < 1 + wh.length := by omega
          have q3 : ¬ 9223372036854775807 < wh.length + 2 := by omega
          have q4 : ¬ 9223372036854775807 < 2 + wh.length := by omega
          have hfl : fk.length ≤ 100 := by rw [← Hfk.out]; unfold fiveOf; simp only [List.length_append, List.length_replicate, List.length_cons, List.length_nil]; omega
          have hs5 : ∀ p ∈ F.set k fk, p.length ≤ 100 := fun p hp => by
            rcases List.mem_or_eq_of_mem_set hp with hp | rfl
            · exact Hsh.out p hp
            · exact hfl
          have hs7 : ∀ p ∈ F.take k ++ F.drop (k + 1), p.length ≤ 100 := fun p hp => by
            rcases List.mem_append.1 hp with hp | hp
            · exact Hsh.out p (List.mem_of_mem_take hp)
            · exact Hsh.out p (List.mem_of_mem_drop hp)
          have hs9 : ∀ p ∈ F.set k [c], p.length ≤ 100 := fun p hp => by
            rcases List.mem_or_eq_of_mem_set hp with hp | rfl
            · exact Hsh.out p hp
            · simp
          have l5 : (F.set k fk).length = 8 := by rw [List.length_set, HFl.out]
          have l9 : (F.set k [c]).length = 8 := by rw [List.length_set, HFl.out]
          have l7 : (F.take k ++ F.drop (k + 1)).length = 7 := by rw [List.length_append, List.length_take, List.length_drop, HFl.out]; omega
          have hjfl : jf.length ≤ 10000 := by rw [← hjf]; exact join_small hs5 (by rw [l5]; decide)
          have hjll : jl.length ≤ 10000 := by rw [← hjl]; exact join_small hs7 (by rw [l7]; decide)
          have HJ5 : Hid (∀ (v : Value) (V : World) (b : Nat), V.ownsRow b 9 1 v 8 (strV (F.set k fk)) → Calls Tryd.prog 26 #[v, .string ⟨#[58]⟩] V fun e w' => e = .returned (.string ⟨jf.toArray⟩) ∧ Below V.heap.size V w') := by
            show ∀ (v : Value), _
            intro v V b h
            rw [← hjf]
            exact join_own _ (by rw [l5]; decide) v V b (by rw [l5]; exact h) [58] (by rw [hjf]; omega) (by decide) (by rw [l5]; decide)
          have HJ7 : Hid (∀ (v : Value) (V : World) (b : Nat), V.ownsRow b 9 1 v 7 (strV (F.take k ++ F.drop (k + 1))) → Calls Tryd.prog 26 #[v, .string ⟨#[58]⟩] V fun e w' => e = .returned (.string ⟨jl.toArray⟩) ∧ Below V.heap.size V w') := by
            show ∀ (v : Value), _
            intro v V b h
            rw [← hjl]
            exact join_own _ (by rw [l7]; decide) v V b (by rw [l7]; exact h) [58] (by rw [hjl]; omega) (by decide) (by rw [l7]; decide)
          obtain ⟨jo, hjo⟩ : ∃ t, Lib.join (F.set k [c]) [58] = t := ⟨_, rfl⟩
          have hjol : jo.length ≤ 10000 := by rw [← hjo]; exact join_small hs9 (by rw [l9]; decide)
          have HJ9 : Hid (∀ (v : Value) (V : World) (b : Nat), V.ownsRow b 9 1 v 8 (strV (F.set k [c])) → Calls Tryd.prog 26 #[v, .string ⟨#[58]⟩] V fun e w' => e = .returned (.string ⟨jo.toArray⟩) ∧ Below V.heap.size V w') := by
            show ∀ (v : Value), _
            intro v V b h
            rw [← hjo]
            exact join_own _ (by rw [l9]; decide) v V b (by rw [l9]; exact h) [58] (by rw [hjo]; omega) (by decide) (by rw [l9]; decide)
          have Hno := Lib.hid (fun hlt W ho => Hnone.out jo (hjo ▸ W8.out hlt) (by omega) W ho)
          obtain ⟨bads, hbads⟩ : ∃ l, l = [e1, e2, e3, e4, e5, jf, jl, [58, 58, 58], [49, 58, 58, 58, 50]] := ⟨_, rfl⟩
          have Hbads : Hid (∀ t ∈ bads, parse6 t = none ∧ t.length ≤ 100000) := by
            show ∀ t ∈ bads, _
            intro t ht
            rw [hbads] at ht
            simp only [List.mem_cons, List.not_mem_nil, or_false] at ht
            rcases ht with e | e | e | e | e | e | e | e | e <;> subst e
            · exact ⟨he1 ▸ W1.out, by rw [← he1, List.length_append]; simp only [List.length_cons, List.length_nil]; omega⟩
            · exact ⟨he2 ▸ W2.out, by rw [← he2, List.length_cons]; omega⟩
            · exact ⟨he3 ▸ W3.out, by rw [← he3, List.length_append]; simp only [List.length_cons, List.length_nil]; omega⟩
            · exact ⟨he4 ▸ W4.out, by rw [← he4, List.length_append]; simp only [List.length_cons, List.length_nil]; omega⟩
            · exact ⟨he5 ▸ W5.out, by rw [← he5, List.length_append]; simp only [List.length_cons, List.length_nil]; omega⟩
            · exact ⟨hjf ▸ W6x.out, by omega⟩
            · exact ⟨hjl ▸ W7x.out, by omega⟩
            · decide
            · decide
          have hbl : bads.length = 9 := by rw [hbads]; rfl
          have hbc : (strV bads).toArray = #[.string ⟨e1.toArray⟩, .string ⟨e2.toArray⟩, .string ⟨e3.toArray⟩, .string ⟨e4.toArray⟩, .string ⟨e5.toArray⟩, .string ⟨jf.toArray⟩, .string ⟨jl.toArray⟩, .string ⟨#[58, 58, 58]⟩, .string ⟨#[49, 58, 58, 58, 50]⟩] := by rw [hbads]; rfl
          have Hbl := Lib.hid hbl
          have Hrow : Hid (∀ (V : World) (j : Nat) (t : List UInt8), bads[j]? = some t → (V.alloc (.cells #[.string ⟨e1.toArray⟩, .string ⟨e2.toArray⟩, .string ⟨e3.toArray⟩, .string ⟨e4.toArray⟩, .string ⟨e5.toArray⟩, .string ⟨jf.toArray⟩, .string ⟨jl.toArray⟩, .string ⟨#[58, 58, 58]⟩, .string ⟨#[49, 58, 58, 58, 50]⟩] 9)).cell? ⟨V.heap.size, j, none⟩ = some (.string ⟨t.toArray⟩)) := by
            show ∀ (V : World), _
            intro V j t hj
            have := (rd_new V (strV bads) 9).cell (k := j) (strV_get hj)
            rw [hbc, Nat.zero_add] at this
            exact this
          have Hst9 : Hid (((u8.setCell ⟨g8, k, none⟩ (.string ⟨[c].toArray⟩)).alloc (.cells #[.int .u8 c.toNat] 5)).ownsRow W7.heap.size 9 1 (.slice (some ⟨g8, 0, none⟩) 8 c8') 8 (strV (F.set k [c]))) := by
            show World.ownsRow _ _ _ _ _ _ _
            rw [strV_set]
            exact hst9.out
          clear he1 he2 he3 he4 he5 hjf hjl hjo hbads hbl hbc hwl hfl hs5 hs7 hs9 l5 l7 l9 hjfl hjll hjol hst9 hown8 hown8' hg8 hB9 own8 rd8 hbs8 hrr8 hsl8 hoF hm1 hm2 W1 W2 W3 W4 W5 W6x W7x W8 hcell8
          go_wp2_with fail
          refine (HJ5.out _ _ _ (own_below Hown5.out HB9.out (Nat.le_refl _))).mono ?_
          rintro e10 w10 ⟨rfl, hc10⟩
          have hB10 := HB9.out.trans (hc10.mono HB9.out.size)
          have Hst10 := Lib.hid (own_below Hst9.out hc10 (Nat.le_refl _))
          clear hc9 hz9 hc10
          go_wp2_with fail
          refine (HJ7.out _ _ _ (own_below Hown7.out hB10 (Nat.le_refl _))).mono ?_
          rintro e11 w11 ⟨rfl, hc11⟩
          have hB11 := hB10.trans (hc11.mono hB10.size)
          have Hst11 := Lib.hid (own_below Hst10.out hc11 (Nat.le_refl _))
          have Ho11 := Lib.hid (Ho7.out.below hB11)
          have hb11 := hb7.trans (hB11.mono hb7.size)
          clear hc11 hB10 Hst10 HB9 Hst9 hB11 x1 x2 x3 x4 x5 y1 q1 q2 q3 q4
          go_wp2
          go_loopw [105] (fun i wr => ∃ j : Nat, j ≤ 9 ∧ i = .int .i64 (j : Int) ∧ Below w11.heap.size w11 wr ∧ Hid (w11.heap.size < wr.heap.size ∧ ∀ (j : Nat) (t : List UInt8), bads[j]? = some t → wr.cell? ⟨w11.heap.size, j, none⟩ = some (.string ⟨t.toArray⟩))) (fun i _ => 9 - (intOf i).toNat)
          case atStart =>
            refine ⟨0, Nat.zero_le _, rfl, (Below.refl _ _).alloc (Nat.le_refl _) _, ?_⟩
            show _ ∧ _
            exact ⟨by simp, fun j t hj => Hrow.out w11 j t hj⟩
          case round =>
            obtain ⟨j, hj, rfl, hbw, hrow⟩ := hrel
            have hNr := hrow.out.1
            have Hor := Lib.hid (Ho11.out.below hbw)
            have hbr := hb11.trans (hbw.mono hb11.size)
            by_cases hj9 : j = 9
            · subst hj9
              obtain ⟨r, hr⟩ : ∃ r, Lib.indexByte hexSet c = r := ⟨_, rfl⟩
              have xib := Lib.hid (fun W => index6_any c r hr W)
              rw [hr] at Hno
              have Hstr := Lib.hid (own_below Hst11.out hbw (Nat.le_refl _))
              clear hr
              go_wp2_with fail
              refine (xib.out _).mono ?_
              rintro e12 w12 ⟨rfl, hw12⟩
              subst w12
              by_cases hi0 : r < 0
              · have Hno2 := Lib.hid (fun W ho => Hno.out hi0 W ho)
                clear Hno
                go_wp2_with fail
                refine (HJ9.out _ _ _ Hstr.out).mono ?_
                rintro e13 w13 ⟨rfl, hc13⟩
                have Ho13 := Lib.hid (Hor.out.below hc13)
                have hb13 := hbr.trans (hc13.mono hbr.size)
                go_wp2_with fail
                refine (Hno2.out _ Ho13.out).mono ?_
                rintro e14 w14 ⟨rfl, hc14⟩
                have Ho14 := Lib.hid (Ho13.out.below hc14)
                have hb14 := hb13.trans (hc14.mono hb13.size)
                go_wp2_with fail
                refine (x9.out _ Ho14.out).mono ?_
                rintro e15 w15 ⟨rfl, hc15⟩
                go_wp2
                go_ret
                exact ⟨rfl, hb14.trans (hc15.mono hb14.size)⟩
              · have hi1 : 0 ≤ r := by omega
                clear Hno
                go_wp2_with fail
                refine (x9.out _ Hor.out).mono ?_
                rintro e15 w15 ⟨rfl, hc15⟩
                go_wp2
                go_ret
                exact ⟨rfl, hbr.trans (hc15.mono hbr.size)⟩
            · obtain ⟨t, ht⟩ : ∃ t, bads[j]? = some t := ⟨_, List.getElem?_eq_getElem (show j < bads.length by rw [Hbl.out]; omega)⟩
              have hcell := hrow.out.2 j t ht
              have hmem := Hbads.out t (List.mem_of_getElem? ht)
              have hn := Lib.hid (Hnone.out t hmem.1 hmem.2 wr Hor.out)
              have hk2 : (j : Int) < 9 := by omega
              have hk3 : (0 : Int) ≤ (j : Int) := by omega
              clear ht hmem hj9
              go_wp2_with fail
              refine hn.out.mono ?_
              rintro e w8 ⟨rfl, hc⟩
              have hrown : Hid (w11.heap.size < w8.heap.size ∧ ∀ (j : Nat) (t : List UInt8), bads[j]? = some t → w8.cell? ⟨w11.heap.size, j, none⟩ = some (.string ⟨t.toArray⟩)) := by
                show _ ∧ _
                exact ⟨Nat.lt_of_lt_of_le hNr hc.size, fun j t hj => (hc.cell (p := ⟨w11.heap.size, j, none⟩) hNr).trans (hrow.out.2 j t hj)⟩
              have hbn := hbw.trans (hc.mono hbw.size)
              clear hcell hc
              go_wp2
              refine ⟨⟨j + 1, by omega, ?_, hbn, hrown⟩, ?_⟩
              · rw [Int.natCast_add]
                rfl
              · simp only [intOf]
                omega
  cases hp : parse6 s with
  | none => exact HR.out 31 0 0 0 0 0 0 0 0 (by rw [hp]; rfl) (.inl rfl)
  | some l =>
    have hl8 := HPl.out l hp
    obtain ⟨a', b', c', d', e', f', g', i', hle⟩ := eight hl8
    have hcells : (u16V l).toArray = #[.int .u16 (a' : Int), .int .u16 (b' : Int), .int .u16 (c' : Int), .int .u16 (d' : Int), .int .u16 (e' : Int), .int .u16 (f' : Int), .int .u16 (g' : Int), .int .u16 (i' : Int)] := by rw [hle]; rfl
    exact HR.out 0 _ _ _ _ _ _ _ _ (by rw [hp]; show Value.tuple #[.agg (u16V l).toArray, _] = _; rw [hcells]) (.inr ⟨rfl, Hfine.out l hp⟩)
#print axioms sixWrong_main
end Go.Proofs.YtmobeppmdakjmaaDoor
