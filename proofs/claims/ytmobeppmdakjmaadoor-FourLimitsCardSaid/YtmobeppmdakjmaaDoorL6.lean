/- Law: FourLimits answers true. (Printed by fourlim.py.) -/
import Derived.Test.YtmobeppmdakjmaaDoorL5
import Derived.Test.YtmobeppmdakjmaaDoorLA
import Derived.Test.YtmobeppmdakjmaaDoorF2
import Derived.RangeFuncBox
import Derived.Deep.RegionLaw
import Derived.IntWalk
namespace Go.Proofs.YtmobeppmdakjmaaDoor
open Go.RowKit Go.Shelf

theorem byte_val2 (y : Nat) (h : y < 4294967296) : IntKind.i64.wrap (bits BinOp.and IntKind.u32 (y : Int) 255) = ((y % 256 : Nat) : Int) := by
  rw [show bits BinOp.and IntKind.u32 (y : Int) 255 = (y : Int) % 256 from bits_mask .u32 32 (by decide) wraps_u32 8 (by decide) (y : Int) (by omega) (by omega)]
  rw [IntWalk.i64_in _ (by omega)]
  omega
theorem fmtuint_val (v : Int) (u : Nat) (hv : v = (u : Int)) (hu64 : u < 18446744073709551616) (w : World) (ho : Ok w) :
    Calls Tryd.prog 27 #[.int .u64 v, .int .i64 10] w fun e w' => e = .returned (.string ⟨(Lib.decDigits u).toArray⟩) ∧ Below w.heap.size w w' := by
  subst hv; exact fmtuint_any u hu64 w ho
theorem index_val (c : UInt8) (r : Int) (hr : Lib.indexByte [48, 49, 50, 51, 52, 53, 54, 55, 56, 57, 97, 98, 99, 100, 101, 102, 65, 66, 67, 68, 69, 70, 120, 88, 46] c = r) (w : World) :
    Calls Tryd.prog 28 #[.string ⟨#[48, 49, 50, 51, 52, 53, 54, 55, 56, 57, 97, 98, 99, 100, 101, 102, 65, 66, 67, 68, 69, 70, 120, 88, 46]⟩, .int .u8 c.toNat] w fun e w' => e = .returned (.int .i64 r) ∧ w' = w := by
  subst hr
  exact strings_IndexByte' _ c w
theorem conv_one (c : UInt8) (w : World) : (convert 41 9 (.slice (some ⟨w.heap.size, 0, none⟩) 1 1)).run Tryd.prog (w.alloc (.cells #[.int .u8 c.toNat] 5)) = .ok (.string ⟨#[c]⟩) (w.alloc (.cells #[.int .u8 c.toNat] 5)) := by
  refine run_convert_bytes_back (P := Tryd.prog) (w.alloc (.cells #[.int .u8 c.toNat] 5)) 41 9 5 ⟨w.heap.size, 0, none⟩ 1 [c] Tryd.underlying41 Tryd.underlying5 Tryd.underlying9 (fun j hj => ?_)
  obtain rfl : j = 0 := by simpa using hj
  rw [Lib.add_plain, World.cell?_alloc_at _ _ _ _ rfl]
  rfl
theorem bytes_cat (a b : List UInt8) : (⟨a.toArray⟩ : ByteArray) ++ ⟨b.toArray⟩ = ⟨(a ++ b).toArray⟩ := by
  apply ByteArray.ext
  simp
theorem ok_drew {w : World} (h : Ok w) : Ok w.drew := h.below ((Below.refl _ w).drew)
structure Lim (x n k L K : Nat) (A : Option Addr) (c : Nat) (W : World) : Prop where
  ok : Ok W
  l : W.heap[L]? = some (.cells #[.slice A n c] 33 (0, 0))
  k : W.heap[K]? = some (.cells #[.int .i64 (k : Int)] 3 (0, 0))
  rd : Rd W W.heap.size A (strV (partsOf x n))
theorem Lim.below {x n k L K : Nat} {A : Option Addr} {c : Nat} {W W' : World} (h : Lim x n k L K A c W) (hb : Below W.heap.size W W') : Lim x n k L K A c W' :=
  ⟨h.ok.below hb, (hb.block L (Array.getElem?_eq_some_iff.1 h.l).1).trans h.l, (hb.block K (Array.getElem?_eq_some_iff.1 h.k).1).trans h.k, (h.rd.below hb).more hb.size⟩
theorem with_lim {x n k L K : Nat} {A : Option Addr} {c : Nat} (hk : k < n) (hn : n ≤ 4) (p t : List UInt8) (hp : p.length ≤ 30) (ht : withP x n k p = t) (W : World) (h : Lim x n k L K A c W) :
    Calls Tryd.prog 25 #[.string ⟨p.toArray⟩, .pointer (some ⟨L, 0, none⟩), .pointer (some ⟨K, 0, none⟩)] W fun e w' => e = .returned (.string ⟨t.toArray⟩) ∧ Below W.heap.size W w' := by
  subst ht
  have hl := partsOf_len x n
  refine with_any (partsOf x n) k (by rw [hl]; exact hk) (by rw [hl]; omega) p (withP_short x n k hn p hp) W L K A c ?_ h.rd (Boxed.cell h.k)
  rw [hl]
  exact Boxed.cell h.l
theorem boxed_of_below {W W' : World} {B : Nat} {t : TypeId} {v : Value} (h : Boxed W B t v) (hb : Below W.heap.size W W') : Boxed W' B t v := (hb.block B h.lt).trans h

set_option maxHeartbeats 16000000 in
set_option maxRecDepth 100000 in
theorem fourLimits_main (x : Nat) (hx : x < 4294967296) (m a c : UInt8) (n k : Nat) (hn1 : 1 ≤ n) (hn4 : n ≤ 4) (f1 : 1 + (m.toNat : Int) % 4 = n) (hk : k < n) (f2 : (a.toNat : Int) % n = (k : Int)) (w : World) (ho : Ok w) :
    Calls Tryd.prog 5 #[.int .u32 (x : Int), .int .u8 m.toNat, .int .u8 a.toNat, .int .u8 c.toNat] w fun e w' => e = .returned (.bool true) ∧ Below w.heap.size w w' := by
  obtain ⟨i0, hi, hz0, hz1, hz2⟩ := info_parts Tryd.info9
  have hm := m.toNat_lt
  have ha := a.toNat_lt
  have hK0 := (Boxed.new w 3 (.int .i64 (k : Int))).alloc (.cells #[Value.slice none 0 0] 33)
  have hL0 := Boxed.new (w.alloc (.cells #[.int .i64 (k : Int)] 3)) 33 (Value.slice none 0 0)
  rw [World.size_alloc] at hL0
  have hb0 : Below w.heap.size w ((w.alloc (.cells #[.int .i64 (k : Int)] 3)).alloc (.cells #[Value.slice none 0 0] 33)) := ((Below.refl _ w).alloc (Nat.le_refl _) _).alloc (by simp) _
  have ho0 := Lib.hid (ho.below hb0)
  have HK0 := Lib.hid hK0
  have HL0 := Lib.hid hL0
  have Hw := Lib.hid ho
  clear ho hK0 hL0
  go_enter Tryd.func5, Tryd.ntmps5
  go_wp2
  go_loopw [26] (fun i wr => ∃ j : Nat, j ≤ n ∧ i = .int .i64 (j : Int) ∧ Below w.heap.size w wr ∧ Hid (Ok wr) ∧ Hid (Boxed wr w.heap.size 3 (.int .i64 (k : Int))) ∧ ∃ v, Hid (Boxed wr (w.heap.size + 1) 33 v) ∧ Hid (wr.ownsRow w.heap.size 9 1 v j (strV (partsOf x j)))) (fun i _ => (n - intOf i).toNat)
  case atStart => exact ⟨0, Nat.zero_le _, rfl, hb0, ho0.out, HK0.out, _, HL0.out, World.ownsRow_nil _ _ _ _⟩
  case round =>
    clear ho0 HK0 HL0 hb0
    obtain ⟨j, hj, rfl, hbw, hor, hKb, v, hLb, hown⟩ := hrel
    by_cases hlt : j < n
    · have i1 : (j : Int) < (n : Int) := by omega
      have hv : Hid (IntKind.i64.wrap (bits BinOp.and IntKind.u32 ((x : Int) / 2 ^ (8 * j)) 255) = (((x / 2 ^ (8 * j)) % 256 : Nat) : Int)) := by
        have := byte_val2 (x / 2 ^ (8 * j)) (Nat.lt_of_le_of_lt (Nat.div_le_self _ _) hx)
        rw [show (((x / 2 ^ (8 * j) : Nat)) : Int) = (x : Int) / 2 ^ (8 * j) from by rw [Int.natCast_ediv]; simp] at this
        exact this
      have hcell : wr.cell? ⟨w.heap.size + 1, 0, none⟩ = some v := hLb.out.cell
      have hfz : wr.frozen? ⟨w.heap.size + 1, 0, none⟩ = false := hLb.out.frozen
      have q0 : IntKind.i64.wrap (8 * (j : Int)) = ((8 * j : Nat) : Int) := by rw [IntWalk.i64_in _ (by omega)]; omega
      have q1 : (0 : Int) ≤ ((8 * j : Nat) : Int) := by omega
      have q2 : (((8 * j : Nat) : Int)).toNat = 8 * j := by omega
      have hjm : j + 1 ≤ maxLen := by unfold maxLen; omega
      have hjb : (j + 1) * 16 ≤ 140737488355328 := by omega
      go_wp2
      go_region_law (first | (refine step_append_rd _ rfl (.tmp 29) (.tmp 37) 33 rfl w.heap.size 9 i0 (.string ⟨#[]⟩) 16 Tryd.underlying33 hi hz0 hz1 hz2 rfl v j (strV (partsOf x j)) rfl ((own_below (World.ownsRow.drew hown.out) hc1 (Nat.le_refl _)).alloc _) (w1.heap.size + 1) (some ⟨w1.heap.size, 0, none⟩) 1 [.string ⟨(dec ((x / 2 ^ (8 * j)) % 256)).toArray⟩] rfl (rd_new w1 [.string ⟨(dec ((x / 2 ^ (8 * j)) % 256)).toArray⟩] 9) (by simp [Value.oneCell']) hjm hjb (Nat.le_trans hbw.size (Nat.le_trans hc1.size (by simp))) ?_; intro v' w2 hown2 hg2 hat2; obtain ⟨A', c', rfl, hlc⟩ := own_slice_le hown2; have hap := Boxed.appended (tmp := .cells #[.string ⟨(dec ((x / 2 ^ (8 * j)) % 256)).toArray⟩] 9) (boxed_of_below (W := wr.drew) hLb.out hc1) (by decide : (33 : Nat) ≠ 9) (own_below (World.ownsRow.drew hown.out) hc1 (Nat.le_refl _)) (Nat.le_trans hbw.size hc1.size) (Nat.le_succ _) hown2 hg2; have hcell2 := hap.1.cell; have hfz2 := hap.1.frozen) | (go_simp; go_at_call 24; refine (itoa_val _ ((x / 2 ^ (8 * j)) % 256) hv.out (by omega) _ (ok_drew hor.out)).mono ?_; rintro e w1 ⟨rfl, hc1⟩; have hb1 := boxed_of_below (W := wr.drew) hLb.out hc1; have hcell1 := hb1.cell; have hcell1a := (hb1.alloc (.cells #[.string ⟨(dec ((x / 2 ^ (8 * j)) % 256)).toArray⟩] 9)).cell))
      all_goals
        have hw1 : Below w.heap.size w w1 := (hbw.drew).trans (hc1.mono hbw.size)
        have hw2 := hw1.trans hap.2.2.2.2
        have hK1 := boxed_of_below (W := wr.drew) hKb.out hc1
        have hK2 := ((hK1.alloc (.cells #[.string ⟨(dec ((x / 2 ^ (8 * j)) % 256)).toArray⟩] 9)).kept hg2 (hK1.not_row (by decide) (own_below (World.ownsRow.drew hown.out) hc1 (Nat.le_refl _)))).other (B' := w.heap.size + 1) (by omega) (.slice A' (j + 1) c')
        have how3 := hap.2.2.1
        rw [show strV (partsOf x j) ++ [Value.string ⟨(dec ((x / 2 ^ (8 * j)) % 256)).toArray⟩] = strV (partsOf x (j + 1)) from by unfold partsOf; rw [bytesOf_succ, List.map_append, strV_append]; rfl] at how3
        clear hcell hfz hcell1 hcell1a hcell2 hfz2
        go_wp2
        rw [f2]
        exact ⟨⟨_, _, _, _, _, _, _, _, _, _, _, _, _, _, _, ⟨j + 1, by omega, rfl, hw2, Hw.out.below hw2, hK2, _, hap.2.1, how3⟩, rfl⟩, by simp [intOf]; omega⟩

    · obtain rfl : j = n := by omega
      have i1 : ¬ (j : Int) < (j : Int) := by omega
      obtain ⟨A, cc, rfl, hcc⟩ := own_slice_le hown.out
      have hlim0 : Lim x j k (w.heap.size + 1) w.heap.size A cc wr := ⟨hor.out, hLb.out, hKb.out, Rd.of_own hown.out⟩
      have hl0 := Lib.hid hlim0
      have hb0 := hbw
      clear hor hLb hKb hown hj hlt hbw
      obtain ⟨R, hR⟩ : ∃ R, roomOf j k = R := ⟨_, rfl⟩
      have hRb := room_le j k hn1
      rw [hR] at hRb
      have hR1 : 256 ≤ R := by omega
      have hR2 : R ≤ 4294967296 := by omega
      clear hRb
      obtain ⟨t1, ht1⟩ : ∃ t, withP x j k (Lib.decDigits R) = t := ⟨_, rfl⟩
      obtain ⟨t2, ht2⟩ : ∃ t, withP x j k (Lib.decDigits (R + x)) = t := ⟨_, rfl⟩
      obtain ⟨t3, ht3⟩ : ∃ t, withP x j k [57, 57, 57, 57, 57, 57, 57, 57, 57, 57, 57, 57, 57, 57, 57, 57, 57, 57, 57, 57, 57, 57, 57] = t := ⟨_, rfl⟩
      obtain ⟨t4, ht4⟩ : ∃ t, withP x j k (Lib.decDigits (R - 1)) = t := ⟨_, rfl⟩
      obtain ⟨t5, ht5⟩ : ∃ t, withP x j k [] = t := ⟨_, rfl⟩
      obtain ⟨t6, ht6⟩ : ∃ t, withP x j k [49, c] = t := ⟨_, rfl⟩
      obtain ⟨t7, ht7⟩ : ∃ t, Lib.join (partsOf x j ++ [[49], [49], [49], [49]]) [46] = t := ⟨_, rfl⟩
      obtain ⟨y, hy⟩ := withP_some (x := x) hk hn4 (show R - 1 < roomOf j k by omega)
      rw [ht4] at hy
      have xf1 := Lib.hid (fun W h => fmtuint_any R (by omega) W h)
      have xf2 := Lib.hid (fun W h => fmtuint_val ((R : Int) + (x : Int)) (R + x) (by omega) (by omega) W h)
      have xf4 := Lib.hid (fun W h => fmtuint_val ((R : Int) - 1) (R - 1) (by omega) (by omega) W h)
      have xw1 := Lib.hid (fun W h => with_lim (x := x) (L := w.heap.size + 1) (K := w.heap.size) (A := A) (c := cc) hk hn4 (Lib.decDigits R) t1 (digits_len R (by omega)) ht1 W h)
      have xw2 := Lib.hid (fun W h => with_lim (x := x) (L := w.heap.size + 1) (K := w.heap.size) (A := A) (c := cc) hk hn4 (Lib.decDigits (R + x)) t2 (digits_len (R + x) (by omega)) ht2 W h)
      have xw3 := Lib.hid (fun W h => with_lim (x := x) (L := w.heap.size + 1) (K := w.heap.size) (A := A) (c := cc) hk hn4 [57, 57, 57, 57, 57, 57, 57, 57, 57, 57, 57, 57, 57, 57, 57, 57, 57, 57, 57, 57, 57, 57, 57] t3 (by decide) ht3 W h)
      have xw4 := Lib.hid (fun W h => with_lim (x := x) (L := w.heap.size + 1) (K := w.heap.size) (A := A) (c := cc) hk hn4 (Lib.decDigits (R - 1)) t4 (digits_len (R - 1) (by omega)) ht4 W h)
      have xw5 := Lib.hid (fun W h => with_lim (x := x) (L := w.heap.size + 1) (K := w.heap.size) (A := A) (c := cc) hk hn4 [] t5 (by decide) ht5 W h)
      have xw6 := Lib.hid (fun W h => with_lim (x := x) (L := w.heap.size + 1) (K := w.heap.size) (A := A) (c := cc) hk hn4 [49, c] t6 (by simp) ht6 W h)
      have xn1 := Lib.hid (fun W h => none_true t1 (by rw [← ht1]; exact withP_big hk hn4 (by omega)) (by rw [← ht1]; exact withP_short x j k hn4 _ (digits_len R (by omega))) W h)
      have xn2 := Lib.hid (fun W h => none_true t2 (by rw [← ht2]; exact withP_big hk hn4 (by omega)) (by rw [← ht2]; exact withP_short x j k hn4 _ (digits_len (R + x) (by omega))) W h)
      have xn3 := Lib.hid (fun W h => none_true t3 (by rw [← ht3]; exact withP_nines hk hn4) (by rw [← ht3]; exact withP_short x j k hn4 _ (by decide)) W h)
      have xp4 := Lib.hid (fun W h => parse_is t4 (some y) hy (by rw [← ht4]; exact withP_short x j k hn4 _ (digits_len (R - 1) (by omega))) W h)
      have xn5 := Lib.hid (fun (hh : j = 1 ∨ k + 1 < j) W h => none_true t5 (by rw [← ht5]; exact withP_empty hk hn4 hh) (by rw [← ht5]; exact withP_short x j k hn4 _ (by decide)) W h)
      obtain ⟨r, hr⟩ : ∃ r, Lib.indexByte [48, 49, 50, 51, 52, 53, 54, 55, 56, 57, 97, 98, 99, 100, 101, 102, 65, 66, 67, 68, 69, 70, 120, 88, 46] c = r := ⟨_, rfl⟩
      have xib := Lib.hid (fun W => index_val c r hr W)
      have hcv := fun W => conv_one c W
      have hcat := bytes_cat [49] [c]
      simp only [List.cons_append, List.nil_append] at hcat
      have xn6 := Lib.hid (fun (hh : r < 0) W h => none_true t6 (by rw [← ht6]; exact withP_odd hk hn4 (index_odd c (by rw [hr]; exact hh))) (by rw [← ht6]; exact withP_short x j k hn4 _ (by simp)) W h)
      have xn7 := Lib.hid (fun W h => none_true t7 (by rw [← ht7]; exact five_of x j hn1) (by rw [← ht7]; exact five_short x j hn4) W h)
      have x9 := Lib.hid (fun W h => awake_true W h)
      have hmax := five_short x j hn4
      simp only [parseV] at xp4
      have Ht7 := Lib.hid ht7
      have HR := Lib.hid hR
      clear ht1 ht2 ht3 ht4 ht5 ht6 ht7 hy hR hr
      have hKc : wr.cell? ⟨w.heap.size, 0, none⟩ = some (.int .i64 (k : Int)) := Boxed.cell hlim0.k
      clear hlim0
      have hRi : (R : Int) ≤ 4294967296 := by omega
      have hRi1 : (256 : Int) ≤ (R : Int) := by omega
      have hxi : (x : Int) < 4294967296 := by omega
      clear hR1 hR2
      by_cases hkn : k + 1 = j
      · have g1 : ((k : Int) == (j : Int) - 1) = true := by rw [beq_iff_eq]; omega
        have hsh : IntKind.u64.wrap (2 ^ (8 * (5 - j))) = (R : Int) := by
          rw [← HR.out]
          unfold roomOf
          rw [if_pos hkn]
          have q : j = 1 ∨ j = 2 ∨ j = 3 ∨ j = 4 := by omega
          rcases q with rfl | rfl | rfl | rfl <;> decide
        by_cases hj1 : j = 1
        · have g3 : ((j : Int) == 1) = true := by rw [beq_iff_eq]; omega
          have g4 : ¬ (1 : Int) < (j : Int) := by omega
          have Hj1 := Lib.hid hj1
          clear hj1
          go_wp2_with fail
          refine (xf1.out _ hl0.out.ok).mono ?_
          rintro e w1 ⟨rfl, hc⟩
          have hl1 := Lib.hid (hl0.out.below hc)
          have hb1 := hb0.trans (hc.mono hb0.size)
          clear hc hb0 hl0
          clear hsh g1 hkn f1 f2
          go_wp2_with fail
          refine (xw1.out _ hl1.out).mono ?_
          rintro e w2 ⟨rfl, hc⟩
          have hl2 := Lib.hid (hl1.out.below hc)
          have hb2 := hb1.trans (hc.mono hb1.size)
          clear hc hb1 hl1
          go_wp2_with fail
          refine (xn1.out _ hl2.out.ok).mono ?_
          rintro e w3 ⟨rfl, hc⟩
          have hl3 := Lib.hid (hl2.out.below hc)
          have hb3 := hb2.trans (hc.mono hb2.size)
          clear hc hb2 hl2
          go_wp2_with fail
          refine (xf2.out _ hl3.out.ok).mono ?_
          rintro e w4 ⟨rfl, hc⟩
          have hl4 := Lib.hid (hl3.out.below hc)
          have hb4 := hb3.trans (hc.mono hb3.size)
          clear hc hb3 hl3
          go_wp2_with fail
          refine (xw2.out _ hl4.out).mono ?_
          rintro e w5 ⟨rfl, hc⟩
          have hl5 := Lib.hid (hl4.out.below hc)
          have hb5 := hb4.trans (hc.mono hb4.size)
          clear hc hb4 hl4
          go_wp2_with fail
          refine (xn2.out _ hl5.out.ok).mono ?_
          rintro e w6 ⟨rfl, hc⟩
          have hl6 := Lib.hid (hl5.out.below hc)
          have hb6 := hb5.trans (hc.mono hb5.size)
          clear hc hb5 hl5
          go_wp2_with fail
          refine (xw3.out _ hl6.out).mono ?_
          rintro e w7 ⟨rfl, hc⟩
          have hl7 := Lib.hid (hl6.out.below hc)
          have hb7 := hb6.trans (hc.mono hb6.size)
          clear hc hb6 hl6
          go_wp2_with fail
          refine (xn3.out _ hl7.out.ok).mono ?_
          rintro e w8 ⟨rfl, hc⟩
          have hl8 := Lib.hid (hl7.out.below hc)
          have hb8 := hb7.trans (hc.mono hb7.size)
          clear hc hb7 hl7
          go_wp2_with fail
          refine (xf4.out _ hl8.out.ok).mono ?_
          rintro e w9 ⟨rfl, hc⟩
          have hl9 := Lib.hid (hl8.out.below hc)
          have hb9 := hb8.trans (hc.mono hb8.size)
          clear hc hb8 hl8
          go_wp2_with fail
          refine (xw4.out _ hl9.out).mono ?_
          rintro e w10 ⟨rfl, hc⟩
          have hl10 := Lib.hid (hl9.out.below hc)
          have hb10 := hb9.trans (hc.mono hb9.size)
          clear hc hb9 hl9
          go_wp2_with fail
          refine (xp4.out _ hl10.out.ok).mono ?_
          rintro e w11 ⟨rfl, hc⟩
          have hl11 := Lib.hid (hl10.out.below hc)
          have hb11 := hb10.trans (hc.mono hb10.size)
          clear hc hb10 hl10
          clear hx hxi
          clear hRi hRi1
          have hKd : w11.cell? ⟨w.heap.size, 0, none⟩ = some (.int .i64 (k : Int)) := Boxed.cell hl11.out.k
          go_wp2_with fail
          refine (xw5.out _ hl11.out).mono ?_
          rintro e w12 ⟨rfl, hc⟩
          have hl12 := Lib.hid (hl11.out.below hc)
          have hb12 := hb11.trans (hc.mono hb11.size)
          clear hc hb11 hl11
          go_wp2_with fail
          refine (xn5.out (.inl Hj1.out) _ hl12.out.ok).mono ?_
          rintro e w13 ⟨rfl, hc⟩
          have hl13 := Lib.hid (hl12.out.below hc)
          have hb13 := hb12.trans (hc.mono hb12.size)
          clear hc hb12 hl12
          go_wp2_with fail
          refine (xib.out _).mono ?_
          rintro e w' ⟨rfl, hw⟩
          subst w'
          by_cases hi0 : r < 0
          · have hba : Below w13.heap.size w13 (w13.alloc (.cells #[.int .u8 c.toNat] 5)) := (Below.refl _ _).alloc (Nat.le_refl _) _
            have hl14 := Lib.hid (hl13.out.below hba)
            have hb14 := hb13.trans (hba.mono hb13.size)
            have Hi0 := Lib.hid hi0
            clear hba hl13 hb13
            go_wp2_with fail
            refine (xw6.out _ hl14.out).mono ?_
            rintro e w15 ⟨rfl, hc⟩
            have hl15 := Lib.hid (hl14.out.below hc)
            have hb15 := hb14.trans (hc.mono hb14.size)
            clear hc hb14 hl14
            go_wp2_with fail
            refine (xn6.out Hi0.out _ hl15.out.ok).mono ?_
            rintro e w16 ⟨rfl, hc⟩
            have hl16 := Lib.hid (hl15.out.below hc)
            have hb16 := hb15.trans (hc.mono hb15.size)
            clear hc hb15 hl15
            have hLs := (Array.getElem?_eq_some_iff.1 hl16.out.l).1
            have hLd : w16.cell? ⟨w.heap.size + 1, 0, none⟩ = some (.slice A j cc) := Boxed.cell hl16.out.l
            have Hown0 := Lib.hid (World.ownsRow_lit (base := w16.heap.size) (e := 9) (size := 1) w16 #[] 0 (Nat.le_refl _) (by decide) rfl)
            have Hrd0 := Lib.hid (hl16.out.rd.alloc (Nat.le_refl _) (.cells #[] 9))
            have hba : Below w16.heap.size w16 (w16.alloc (.cells #[] 9)) := (Below.refl _ _).alloc (Nat.le_refl _) _
            go_wp2_with (at_builtin; refine wpList_append_rd _ rfl _ _ 33 rfl w16.heap.size 9 i0 (.string ⟨#[]⟩) 16 Tryd.underlying33 hi hz0 hz1 hz2 rfl _ 0 [] rfl Hown0.out w16.heap.size A cc (strV (partsOf x j)) (by rw [strV_length, partsOf_len]; rfl) Hrd0.out (strV_one _) (by rw [strV_length, partsOf_len]; unfold maxLen; omega) (by rw [strV_length, partsOf_len]; omega) (by simp) ?_)
            intro v1 w1a hown1 hg1 _
            rw [strV_length, partsOf_len] at hown1
            have hbb : Below w16.heap.size w16 w1a := hba.grown (row := some w16.heap.size) hg1 (by simp) (fun q e => by injection e with e; omega)
            have Hown1 := Lib.hid (hown1.alloc (.cells (strV [[49], [49], [49], [49]]).toArray 9))
            have Hrd1 := Lib.hid (rd_new w1a (strV [[49], [49], [49], [49]]) 9)
            obtain ⟨A1, c1, rfl, hlc1⟩ := own_slice_le hown1
            have hlt1 := hown1.lt
            clear hown1 hg1 Hown0 Hrd0 hLd
            go_wp2_with (at_builtin; refine wpList_append_rd _ rfl _ _ 33 rfl w16.heap.size 9 i0 (.string ⟨#[]⟩) 16 Tryd.underlying33 hi hz0 hz1 hz2 rfl _ j (strV (partsOf x j)) rfl Hown1.out (w1a.heap.size + 1) (some ⟨w1a.heap.size, 0, none⟩) 4 (strV [[49], [49], [49], [49]]) rfl Hrd1.out (strV_one _) (by rw [strV_length]; simp only [List.length_cons, List.length_nil]; unfold maxLen; omega) (by rw [strV_length]; simp only [List.length_cons, List.length_nil]; omega) (Nat.le_trans hbb.size (by simp)) ?_)
            intro v2 w2a hown2 hg2 _
            have hbc : Below w16.heap.size w16 w2a := (hbb.alloc (hbb.size) _).grown hg2 (Nat.le_trans hbb.size (by simp)) (fun q e => (hlt1 q e).1)
            rw [← strV_append, strV_length, List.length_cons, List.length_cons, List.length_cons, List.length_cons, List.length_nil] at hown2
            have HJ := Lib.hid (join_own (partsOf x j ++ [[49], [49], [49], [49]]) (by simp) v2 w2a w16.heap.size (by rw [List.length_append, partsOf_len]; exact hown2) [46] hmax (by decide) (by rw [List.length_append, partsOf_len]; simp only [List.length_cons, List.length_nil]; omega))
            rw [Ht7.out] at HJ
            have hl17 := Lib.hid (hl16.out.below hbc)
            have hb17 := hb16.trans (hbc.mono hb16.size)
            clear hown2 hg2 Hown1 Hrd1 hlt1 hba hbb hbc hl16 hb16
            go_wp2_with fail
            refine (HJ.out).mono ?_
            rintro e w18 ⟨rfl, hc⟩
            have hl18 := Lib.hid (hl17.out.below hc)
            have hb18 := hb17.trans (hc.mono hb17.size)
            clear hc hb17 hl17
            go_wp2_with fail
            refine (xn7.out _ hl18.out.ok).mono ?_
            rintro e w19 ⟨rfl, hc⟩
            have hl19 := Lib.hid (hl18.out.below hc)
            have hb19 := hb18.trans (hc.mono hb18.size)
            clear hc hb18 hl18
            go_wp2_with fail
            refine (x9.out _ hl19.out.ok).mono ?_
            rintro e w20 ⟨rfl, hc⟩
            have hl20 := Lib.hid (hl19.out.below hc)
            have hb20 := hb19.trans (hc.mono hb19.size)
            clear hc hb19 hl19
            go_wp2
            go_ret
            exact ⟨rfl, hb20⟩
          · have hi1 : 0 ≤ r := by omega
            have hLs := (Array.getElem?_eq_some_iff.1 hl13.out.l).1
            have hLd : w13.cell? ⟨w.heap.size + 1, 0, none⟩ = some (.slice A j cc) := Boxed.cell hl13.out.l
            have Hown0 := Lib.hid (World.ownsRow_lit (base := w13.heap.size) (e := 9) (size := 1) w13 #[] 0 (Nat.le_refl _) (by decide) rfl)
            have Hrd0 := Lib.hid (hl13.out.rd.alloc (Nat.le_refl _) (.cells #[] 9))
            have hba : Below w13.heap.size w13 (w13.alloc (.cells #[] 9)) := (Below.refl _ _).alloc (Nat.le_refl _) _
            go_wp2_with (at_builtin; refine wpList_append_rd _ rfl _ _ 33 rfl w13.heap.size 9 i0 (.string ⟨#[]⟩) 16 Tryd.underlying33 hi hz0 hz1 hz2 rfl _ 0 [] rfl Hown0.out w13.heap.size A cc (strV (partsOf x j)) (by rw [strV_length, partsOf_len]; rfl) Hrd0.out (strV_one _) (by rw [strV_length, partsOf_len]; unfold maxLen; omega) (by rw [strV_length, partsOf_len]; omega) (by simp) ?_)
            intro v1 w1a hown1 hg1 _
            rw [strV_length, partsOf_len] at hown1
            have hbb : Below w13.heap.size w13 w1a := hba.grown (row := some w13.heap.size) hg1 (by simp) (fun q e => by injection e with e; omega)
            have Hown1 := Lib.hid (hown1.alloc (.cells (strV [[49], [49], [49], [49]]).toArray 9))
            have Hrd1 := Lib.hid (rd_new w1a (strV [[49], [49], [49], [49]]) 9)
            obtain ⟨A1, c1, rfl, hlc1⟩ := own_slice_le hown1
            have hlt1 := hown1.lt
            clear hown1 hg1 Hown0 Hrd0 hLd
            go_wp2_with (at_builtin; refine wpList_append_rd _ rfl _ _ 33 rfl w13.heap.size 9 i0 (.string ⟨#[]⟩) 16 Tryd.underlying33 hi hz0 hz1 hz2 rfl _ j (strV (partsOf x j)) rfl Hown1.out (w1a.heap.size + 1) (some ⟨w1a.heap.size, 0, none⟩) 4 (strV [[49], [49], [49], [49]]) rfl Hrd1.out (strV_one _) (by rw [strV_length]; simp only [List.length_cons, List.length_nil]; unfold maxLen; omega) (by rw [strV_length]; simp only [List.length_cons, List.length_nil]; omega) (Nat.le_trans hbb.size (by simp)) ?_)
            intro v2 w2a hown2 hg2 _
            have hbc : Below w13.heap.size w13 w2a := (hbb.alloc (hbb.size) _).grown hg2 (Nat.le_trans hbb.size (by simp)) (fun q e => (hlt1 q e).1)
            rw [← strV_append, strV_length, List.length_cons, List.length_cons, List.length_cons, List.length_cons, List.length_nil] at hown2
            have HJ := Lib.hid (join_own (partsOf x j ++ [[49], [49], [49], [49]]) (by simp) v2 w2a w13.heap.size (by rw [List.length_append, partsOf_len]; exact hown2) [46] hmax (by decide) (by rw [List.length_append, partsOf_len]; simp only [List.length_cons, List.length_nil]; omega))
            rw [Ht7.out] at HJ
            have hl14 := Lib.hid (hl13.out.below hbc)
            have hb14 := hb13.trans (hbc.mono hb13.size)
            clear hown2 hg2 Hown1 Hrd1 hlt1 hba hbb hbc hl13 hb13
            go_wp2_with fail
            refine (HJ.out).mono ?_
            rintro e w15 ⟨rfl, hc⟩
            have hl15 := Lib.hid (hl14.out.below hc)
            have hb15 := hb14.trans (hc.mono hb14.size)
            clear hc hb14 hl14
            go_wp2_with fail
            refine (xn7.out _ hl15.out.ok).mono ?_
            rintro e w16 ⟨rfl, hc⟩
            have hl16 := Lib.hid (hl15.out.below hc)
            have hb16 := hb15.trans (hc.mono hb15.size)
            clear hc hb15 hl15
            go_wp2_with fail
            refine (x9.out _ hl16.out.ok).mono ?_
            rintro e w17 ⟨rfl, hc⟩
            have hl17 := Lib.hid (hl16.out.below hc)
            have hb17 := hb16.trans (hc.mono hb16.size)
            clear hc hb16 hl16
            go_wp2
            go_ret
            exact ⟨rfl, hb17⟩
        · have g3 : ((j : Int) == 1) = false := by rw [beq_eq_false_iff_ne]; omega
          have g4 : (1 : Int) < (j : Int) := by omega
          have g5 : ¬ (k : Int) < (j : Int) - 1 := by omega
          go_wp2_with fail
          refine (xf1.out _ hl0.out.ok).mono ?_
          rintro e w1 ⟨rfl, hc⟩
          have hl1 := Lib.hid (hl0.out.below hc)
          have hb1 := hb0.trans (hc.mono hb0.size)
          clear hc hb0 hl0
          clear hsh g1 hkn f1 f2
          go_wp2_with fail
          refine (xw1.out _ hl1.out).mono ?_
          rintro e w2 ⟨rfl, hc⟩
          have hl2 := Lib.hid (hl1.out.below hc)
          have hb2 := hb1.trans (hc.mono hb1.size)
          clear hc hb1 hl1
          go_wp2_with fail
          refine (xn1.out _ hl2.out.ok).mono ?_
          rintro e w3 ⟨rfl, hc⟩
          have hl3 := Lib.hid (hl2.out.below hc)
          have hb3 := hb2.trans (hc.mono hb2.size)
          clear hc hb2 hl2
          go_wp2_with fail
          refine (xf2.out _ hl3.out.ok).mono ?_
          rintro e w4 ⟨rfl, hc⟩
          have hl4 := Lib.hid (hl3.out.below hc)
          have hb4 := hb3.trans (hc.mono hb3.size)
          clear hc hb3 hl3
          go_wp2_with fail
          refine (xw2.out _ hl4.out).mono ?_
          rintro e w5 ⟨rfl, hc⟩
          have hl5 := Lib.hid (hl4.out.below hc)
          have hb5 := hb4.trans (hc.mono hb4.size)
          clear hc hb4 hl4
          go_wp2_with fail
          refine (xn2.out _ hl5.out.ok).mono ?_
          rintro e w6 ⟨rfl, hc⟩
          have hl6 := Lib.hid (hl5.out.below hc)
          have hb6 := hb5.trans (hc.mono hb5.size)
          clear hc hb5 hl5
          go_wp2_with fail
          refine (xw3.out _ hl6.out).mono ?_
          rintro e w7 ⟨rfl, hc⟩
          have hl7 := Lib.hid (hl6.out.below hc)
          have hb7 := hb6.trans (hc.mono hb6.size)
          clear hc hb6 hl6
          go_wp2_with fail
          refine (xn3.out _ hl7.out.ok).mono ?_
          rintro e w8 ⟨rfl, hc⟩
          have hl8 := Lib.hid (hl7.out.below hc)
          have hb8 := hb7.trans (hc.mono hb7.size)
          clear hc hb7 hl7
          go_wp2_with fail
          refine (xf4.out _ hl8.out.ok).mono ?_
          rintro e w9 ⟨rfl, hc⟩
          have hl9 := Lib.hid (hl8.out.below hc)
          have hb9 := hb8.trans (hc.mono hb8.size)
          clear hc hb8 hl8
          go_wp2_with fail
          refine (xw4.out _ hl9.out).mono ?_
          rintro e w10 ⟨rfl, hc⟩
          have hl10 := Lib.hid (hl9.out.below hc)
          have hb10 := hb9.trans (hc.mono hb9.size)
          clear hc hb9 hl9
          go_wp2_with fail
          refine (xp4.out _ hl10.out.ok).mono ?_
          rintro e w11 ⟨rfl, hc⟩
          have hl11 := Lib.hid (hl10.out.below hc)
          have hb11 := hb10.trans (hc.mono hb10.size)
          clear hc hb10 hl10
          clear hx hxi
          clear hRi hRi1
          have hKd : w11.cell? ⟨w.heap.size, 0, none⟩ = some (.int .i64 (k : Int)) := Boxed.cell hl11.out.k
          go_wp2_with fail
          refine (xib.out _).mono ?_
          rintro e w' ⟨rfl, hw⟩
          subst w'
          by_cases hi0 : r < 0
          · have hba : Below w11.heap.size w11 (w11.alloc (.cells #[.int .u8 c.toNat] 5)) := (Below.refl _ _).alloc (Nat.le_refl _) _
            have hl12 := Lib.hid (hl11.out.below hba)
            have hb12 := hb11.trans (hba.mono hb11.size)
            have Hi0 := Lib.hid hi0
            clear hba hl11 hb11
            go_wp2_with fail
            refine (xw6.out _ hl12.out).mono ?_
            rintro e w13 ⟨rfl, hc⟩
            have hl13 := Lib.hid (hl12.out.below hc)
            have hb13 := hb12.trans (hc.mono hb12.size)
            clear hc hb12 hl12
            go_wp2_with fail
            refine (xn6.out Hi0.out _ hl13.out.ok).mono ?_
            rintro e w14 ⟨rfl, hc⟩
            have hl14 := Lib.hid (hl13.out.below hc)
            have hb14 := hb13.trans (hc.mono hb13.size)
            clear hc hb13 hl13
            have hLs := (Array.getElem?_eq_some_iff.1 hl14.out.l).1
            have hLd : w14.cell? ⟨w.heap.size + 1, 0, none⟩ = some (.slice A j cc) := Boxed.cell hl14.out.l
            have Hown0 := Lib.hid (World.ownsRow_lit (base := w14.heap.size) (e := 9) (size := 1) w14 #[] 0 (Nat.le_refl _) (by decide) rfl)
            have Hrd0 := Lib.hid (hl14.out.rd.alloc (Nat.le_refl _) (.cells #[] 9))
            have hba : Below w14.heap.size w14 (w14.alloc (.cells #[] 9)) := (Below.refl _ _).alloc (Nat.le_refl _) _
            go_wp2_with (at_builtin; refine wpList_append_rd _ rfl _ _ 33 rfl w14.heap.size 9 i0 (.string ⟨#[]⟩) 16 Tryd.underlying33 hi hz0 hz1 hz2 rfl _ 0 [] rfl Hown0.out w14.heap.size A cc (strV (partsOf x j)) (by rw [strV_length, partsOf_len]; rfl) Hrd0.out (strV_one _) (by rw [strV_length, partsOf_len]; unfold maxLen; omega) (by rw [strV_length, partsOf_len]; omega) (by simp) ?_)
            intro v1 w1a hown1 hg1 _
            rw [strV_length, partsOf_len] at hown1
            have hbb : Below w14.heap.size w14 w1a := hba.grown (row := some w14.heap.size) hg1 (by simp) (fun q e => by injection e with e; omega)
            have Hown1 := Lib.hid (hown1.alloc (.cells (strV [[49], [49], [49], [49]]).toArray 9))
            have Hrd1 := Lib.hid (rd_new w1a (strV [[49], [49], [49], [49]]) 9)
            obtain ⟨A1, c1, rfl, hlc1⟩ := own_slice_le hown1
            have hlt1 := hown1.lt
            clear hown1 hg1 Hown0 Hrd0 hLd
            go_wp2_with (at_builtin; refine wpList_append_rd _ rfl _ _ 33 rfl w14.heap.size 9 i0 (.string ⟨#[]⟩) 16 Tryd.underlying33 hi hz0 hz1 hz2 rfl _ j (strV (partsOf x j)) rfl Hown1.out (w1a.heap.size + 1) (some ⟨w1a.heap.size, 0, none⟩) 4 (strV [[49], [49], [49], [49]]) rfl Hrd1.out (strV_one _) (by rw [strV_length]; simp only [List.length_cons, List.length_nil]; unfold maxLen; omega) (by rw [strV_length]; simp only [List.length_cons, List.length_nil]; omega) (Nat.le_trans hbb.size (by simp)) ?_)
            intro v2 w2a hown2 hg2 _
            have hbc : Below w14.heap.size w14 w2a := (hbb.alloc (hbb.size) _).grown hg2 (Nat.le_trans hbb.size (by simp)) (fun q e => (hlt1 q e).1)
            rw [← strV_append, strV_length, List.length_cons, List.length_cons, List.length_cons, List.length_cons, List.length_nil] at hown2
            have HJ := Lib.hid (join_own (partsOf x j ++ [[49], [49], [49], [49]]) (by simp) v2 w2a w14.heap.size (by rw [List.length_append, partsOf_len]; exact hown2) [46] hmax (by decide) (by rw [List.length_append, partsOf_len]; simp only [List.length_cons, List.length_nil]; omega))
            rw [Ht7.out] at HJ
            have hl15 := Lib.hid (hl14.out.below hbc)
            have hb15 := hb14.trans (hbc.mono hb14.size)
            clear hown2 hg2 Hown1 Hrd1 hlt1 hba hbb hbc hl14 hb14
            go_wp2_with fail
            refine (HJ.out).mono ?_
            rintro e w16 ⟨rfl, hc⟩
            have hl16 := Lib.hid (hl15.out.below hc)
            have hb16 := hb15.trans (hc.mono hb15.size)
            clear hc hb15 hl15
            go_wp2_with fail
            refine (xn7.out _ hl16.out.ok).mono ?_
            rintro e w17 ⟨rfl, hc⟩
            have hl17 := Lib.hid (hl16.out.below hc)
            have hb17 := hb16.trans (hc.mono hb16.size)
            clear hc hb16 hl16
            go_wp2_with fail
            refine (x9.out _ hl17.out.ok).mono ?_
            rintro e w18 ⟨rfl, hc⟩
            have hl18 := Lib.hid (hl17.out.below hc)
            have hb18 := hb17.trans (hc.mono hb17.size)
            clear hc hb17 hl17
            go_wp2
            go_ret
            exact ⟨rfl, hb18⟩
          · have hi1 : 0 ≤ r := by omega
            have hLs := (Array.getElem?_eq_some_iff.1 hl11.out.l).1
            have hLd : w11.cell? ⟨w.heap.size + 1, 0, none⟩ = some (.slice A j cc) := Boxed.cell hl11.out.l
            have Hown0 := Lib.hid (World.ownsRow_lit (base := w11.heap.size) (e := 9) (size := 1) w11 #[] 0 (Nat.le_refl _) (by decide) rfl)
            have Hrd0 := Lib.hid (hl11.out.rd.alloc (Nat.le_refl _) (.cells #[] 9))
            have hba : Below w11.heap.size w11 (w11.alloc (.cells #[] 9)) := (Below.refl _ _).alloc (Nat.le_refl _) _
            go_wp2_with (at_builtin; refine wpList_append_rd _ rfl _ _ 33 rfl w11.heap.size 9 i0 (.string ⟨#[]⟩) 16 Tryd.underlying33 hi hz0 hz1 hz2 rfl _ 0 [] rfl Hown0.out w11.heap.size A cc (strV (partsOf x j)) (by rw [strV_length, partsOf_len]; rfl) Hrd0.out (strV_one _) (by rw [strV_length, partsOf_len]; unfold maxLen; omega) (by rw [strV_length, partsOf_len]; omega) (by simp) ?_)
            intro v1 w1a hown1 hg1 _
            rw [strV_length, partsOf_len] at hown1
            have hbb : Below w11.heap.size w11 w1a := hba.grown (row := some w11.heap.size) hg1 (by simp) (fun q e => by injection e with e; omega)
            have Hown1 := Lib.hid (hown1.alloc (.cells (strV [[49], [49], [49], [49]]).toArray 9))
            have Hrd1 := Lib.hid (rd_new w1a (strV [[49], [49], [49], [49]]) 9)
            obtain ⟨A1, c1, rfl, hlc1⟩ := own_slice_le hown1
            have hlt1 := hown1.lt
            clear hown1 hg1 Hown0 Hrd0 hLd
            go_wp2_with (at_builtin; refine wpList_append_rd _ rfl _ _ 33 rfl w11.heap.size 9 i0 (.string ⟨#[]⟩) 16 Tryd.underlying33 hi hz0 hz1 hz2 rfl _ j (strV (partsOf x j)) rfl Hown1.out (w1a.heap.size + 1) (some ⟨w1a.heap.size, 0, none⟩) 4 (strV [[49], [49], [49], [49]]) rfl Hrd1.out (strV_one _) (by rw [strV_length]; simp only [List.length_cons, List.length_nil]; unfold maxLen; omega) (by rw [strV_length]; simp only [List.length_cons, List.length_nil]; omega) (Nat.le_trans hbb.size (by simp)) ?_)
            intro v2 w2a hown2 hg2 _
            have hbc : Below w11.heap.size w11 w2a := (hbb.alloc (hbb.size) _).grown hg2 (Nat.le_trans hbb.size (by simp)) (fun q e => (hlt1 q e).1)
            rw [← strV_append, strV_length, List.length_cons, List.length_cons, List.length_cons, List.length_cons, List.length_nil] at hown2
            have HJ := Lib.hid (join_own (partsOf x j ++ [[49], [49], [49], [49]]) (by simp) v2 w2a w11.heap.size (by rw [List.length_append, partsOf_len]; exact hown2) [46] hmax (by decide) (by rw [List.length_append, partsOf_len]; simp only [List.length_cons, List.length_nil]; omega))
            rw [Ht7.out] at HJ
            have hl12 := Lib.hid (hl11.out.below hbc)
            have hb12 := hb11.trans (hbc.mono hb11.size)
            clear hown2 hg2 Hown1 Hrd1 hlt1 hba hbb hbc hl11 hb11
            go_wp2_with fail
            refine (HJ.out).mono ?_
            rintro e w13 ⟨rfl, hc⟩
            have hl13 := Lib.hid (hl12.out.below hc)
            have hb13 := hb12.trans (hc.mono hb12.size)
            clear hc hb12 hl12
            go_wp2_with fail
            refine (xn7.out _ hl13.out.ok).mono ?_
            rintro e w14 ⟨rfl, hc⟩
            have hl14 := Lib.hid (hl13.out.below hc)
            have hb14 := hb13.trans (hc.mono hb13.size)
            clear hc hb13 hl13
            go_wp2_with fail
            refine (x9.out _ hl14.out.ok).mono ?_
            rintro e w15 ⟨rfl, hc⟩
            have hl15 := Lib.hid (hl14.out.below hc)
            have hb15 := hb14.trans (hc.mono hb14.size)
            clear hc hb14 hl14
            go_wp2
            go_ret
            exact ⟨rfl, hb15⟩
      · have g1 : ((k : Int) == (j : Int) - 1) = false := by rw [beq_eq_false_iff_ne]; omega
        have g4 : (1 : Int) < (j : Int) := by omega
        have g5 : (k : Int) < (j : Int) - 1 := by omega
        have hR0 : Hid (R = 256) := by show _ = _; rw [← HR.out]; unfold roomOf; rw [if_neg hkn]
        obtain rfl := hR0.out
        go_wp2_with fail
        refine (xf1.out _ hl0.out.ok).mono ?_
        rintro e w1 ⟨rfl, hc⟩
        have hl1 := Lib.hid (hl0.out.below hc)
        have hb1 := hb0.trans (hc.mono hb0.size)
        clear hc hb0 hl0
        clear g1
        go_wp2_with fail
        refine (xw1.out _ hl1.out).mono ?_
        rintro e w2 ⟨rfl, hc⟩
        have hl2 := Lib.hid (hl1.out.below hc)
        have hb2 := hb1.trans (hc.mono hb1.size)
        clear hc hb1 hl1
        go_wp2_with fail
        refine (xn1.out _ hl2.out.ok).mono ?_
        rintro e w3 ⟨rfl, hc⟩
        have hl3 := Lib.hid (hl2.out.below hc)
        have hb3 := hb2.trans (hc.mono hb2.size)
        clear hc hb2 hl2
        go_wp2_with fail
        refine (xf2.out _ hl3.out.ok).mono ?_
        rintro e w4 ⟨rfl, hc⟩
        have hl4 := Lib.hid (hl3.out.below hc)
        have hb4 := hb3.trans (hc.mono hb3.size)
        clear hc hb3 hl3
        go_wp2_with fail
        refine (xw2.out _ hl4.out).mono ?_
        rintro e w5 ⟨rfl, hc⟩
        have hl5 := Lib.hid (hl4.out.below hc)
        have hb5 := hb4.trans (hc.mono hb4.size)
        clear hc hb4 hl4
        go_wp2_with fail
        refine (xn2.out _ hl5.out.ok).mono ?_
        rintro e w6 ⟨rfl, hc⟩
        have hl6 := Lib.hid (hl5.out.below hc)
        have hb6 := hb5.trans (hc.mono hb5.size)
        clear hc hb5 hl5
        go_wp2_with fail
        refine (xw3.out _ hl6.out).mono ?_
        rintro e w7 ⟨rfl, hc⟩
        have hl7 := Lib.hid (hl6.out.below hc)
        have hb7 := hb6.trans (hc.mono hb6.size)
        clear hc hb6 hl6
        go_wp2_with fail
        refine (xn3.out _ hl7.out.ok).mono ?_
        rintro e w8 ⟨rfl, hc⟩
        have hl8 := Lib.hid (hl7.out.below hc)
        have hb8 := hb7.trans (hc.mono hb7.size)
        clear hc hb7 hl7
        go_wp2_with fail
        refine (xf4.out _ hl8.out.ok).mono ?_
        rintro e w9 ⟨rfl, hc⟩
        have hl9 := Lib.hid (hl8.out.below hc)
        have hb9 := hb8.trans (hc.mono hb8.size)
        clear hc hb8 hl8
        go_wp2_with fail
        refine (xw4.out _ hl9.out).mono ?_
        rintro e w10 ⟨rfl, hc⟩
        have hl10 := Lib.hid (hl9.out.below hc)
        have hb10 := hb9.trans (hc.mono hb9.size)
        clear hc hb9 hl9
        go_wp2_with fail
        refine (xp4.out _ hl10.out.ok).mono ?_
        rintro e w11 ⟨rfl, hc⟩
        have hl11 := Lib.hid (hl10.out.below hc)
        have hb11 := hb10.trans (hc.mono hb10.size)
        clear hc hb10 hl10
        clear hx hxi
        have hKd : w11.cell? ⟨w.heap.size, 0, none⟩ = some (.int .i64 (k : Int)) := Boxed.cell hl11.out.k
        go_wp2_with fail
        refine (xw5.out _ hl11.out).mono ?_
        rintro e w12 ⟨rfl, hc⟩
        have hl12 := Lib.hid (hl11.out.below hc)
        have hb12 := hb11.trans (hc.mono hb11.size)
        clear hc hb11 hl11
        go_wp2_with fail
        refine (xn5.out (.inr (by omega)) _ hl12.out.ok).mono ?_
        rintro e w13 ⟨rfl, hc⟩
        have hl13 := Lib.hid (hl12.out.below hc)
        have hb13 := hb12.trans (hc.mono hb12.size)
        clear hc hb12 hl12
        go_wp2_with fail
        refine (xib.out _).mono ?_
        rintro e w' ⟨rfl, hw⟩
        subst w'
        by_cases hi0 : r < 0
        · have hba : Below w13.heap.size w13 (w13.alloc (.cells #[.int .u8 c.toNat] 5)) := (Below.refl _ _).alloc (Nat.le_refl _) _
          have hl14 := Lib.hid (hl13.out.below hba)
          have hb14 := hb13.trans (hba.mono hb13.size)
          have Hi0 := Lib.hid hi0
          clear hba hl13 hb13
          go_wp2_with fail
          refine (xw6.out _ hl14.out).mono ?_
          rintro e w15 ⟨rfl, hc⟩
          have hl15 := Lib.hid (hl14.out.below hc)
          have hb15 := hb14.trans (hc.mono hb14.size)
          clear hc hb14 hl14
          go_wp2_with fail
          refine (xn6.out Hi0.out _ hl15.out.ok).mono ?_
          rintro e w16 ⟨rfl, hc⟩
          have hl16 := Lib.hid (hl15.out.below hc)
          have hb16 := hb15.trans (hc.mono hb15.size)
          clear hc hb15 hl15
          have hLs := (Array.getElem?_eq_some_iff.1 hl16.out.l).1
          have hLd : w16.cell? ⟨w.heap.size + 1, 0, none⟩ = some (.slice A j cc) := Boxed.cell hl16.out.l
          have Hown0 := Lib.hid (World.ownsRow_lit (base := w16.heap.size) (e := 9) (size := 1) w16 #[] 0 (Nat.le_refl _) (by decide) rfl)
          have Hrd0 := Lib.hid (hl16.out.rd.alloc (Nat.le_refl _) (.cells #[] 9))
          have hba : Below w16.heap.size w16 (w16.alloc (.cells #[] 9)) := (Below.refl _ _).alloc (Nat.le_refl _) _
          go_wp2_with (at_builtin; refine wpList_append_rd _ rfl _ _ 33 rfl w16.heap.size 9 i0 (.string ⟨#[]⟩) 16 Tryd.underlying33 hi hz0 hz1 hz2 rfl _ 0 [] rfl Hown0.out w16.heap.size A cc (strV (partsOf x j)) (by rw [strV_length, partsOf_len]; rfl) Hrd0.out (strV_one _) (by rw [strV_length, partsOf_len]; unfold maxLen; omega) (by rw [strV_length, partsOf_len]; omega) (by simp) ?_)
          intro v1 w1a hown1 hg1 _
          rw [strV_length, partsOf_len] at hown1
          have hbb : Below w16.heap.size w16 w1a := hba.grown (row := some w16.heap.size) hg1 (by simp) (fun q e => by injection e with e; omega)
          have Hown1 := Lib.hid (hown1.alloc (.cells (strV [[49], [49], [49], [49]]).toArray 9))
          have Hrd1 := Lib.hid (rd_new w1a (strV [[49], [49], [49], [49]]) 9)
          obtain ⟨A1, c1, rfl, hlc1⟩ := own_slice_le hown1
          have hlt1 := hown1.lt
          clear hown1 hg1 Hown0 Hrd0 hLd
          go_wp2_with (at_builtin; refine wpList_append_rd _ rfl _ _ 33 rfl w16.heap.size 9 i0 (.string ⟨#[]⟩) 16 Tryd.underlying33 hi hz0 hz1 hz2 rfl _ j (strV (partsOf x j)) rfl Hown1.out (w1a.heap.size + 1) (some ⟨w1a.heap.size, 0, none⟩) 4 (strV [[49], [49], [49], [49]]) rfl Hrd1.out (strV_one _) (by rw [strV_length]; simp only [List.length_cons, List.length_nil]; unfold maxLen; omega) (by rw [strV_length]; simp only [List.length_cons, List.length_nil]; omega) (Nat.le_trans hbb.size (by simp)) ?_)
          intro v2 w2a hown2 hg2 _
          have hbc : Below w16.heap.size w16 w2a := (hbb.alloc (hbb.size) _).grown hg2 (Nat.le_trans hbb.size (by simp)) (fun q e => (hlt1 q e).1)
          rw [← strV_append, strV_length, List.length_cons, List.length_cons, List.length_cons, List.length_cons, List.length_nil] at hown2
          have HJ := Lib.hid (join_own (partsOf x j ++ [[49], [49], [49], [49]]) (by simp) v2 w2a w16.heap.size (by rw [List.length_append, partsOf_len]; exact hown2) [46] hmax (by decide) (by rw [List.length_append, partsOf_len]; simp only [List.length_cons, List.length_nil]; omega))
          rw [Ht7.out] at HJ
          have hl17 := Lib.hid (hl16.out.below hbc)
          have hb17 := hb16.trans (hbc.mono hb16.size)
          clear hown2 hg2 Hown1 Hrd1 hlt1 hba hbb hbc hl16 hb16
          go_wp2_with fail
          refine (HJ.out).mono ?_
          rintro e w18 ⟨rfl, hc⟩
          have hl18 := Lib.hid (hl17.out.below hc)
          have hb18 := hb17.trans (hc.mono hb17.size)
          clear hc hb17 hl17
          go_wp2_with fail
          refine (xn7.out _ hl18.out.ok).mono ?_
          rintro e w19 ⟨rfl, hc⟩
          have hl19 := Lib.hid (hl18.out.below hc)
          have hb19 := hb18.trans (hc.mono hb18.size)
          clear hc hb18 hl18
          go_wp2_with fail
          refine (x9.out _ hl19.out.ok).mono ?_
          rintro e w20 ⟨rfl, hc⟩
          have hl20 := Lib.hid (hl19.out.below hc)
          have hb20 := hb19.trans (hc.mono hb19.size)
          clear hc hb19 hl19
          go_wp2
          go_ret
          exact ⟨rfl, hb20⟩
        · have hi1 : 0 ≤ r := by omega
          have hLs := (Array.getElem?_eq_some_iff.1 hl13.out.l).1
          have hLd : w13.cell? ⟨w.heap.size + 1, 0, none⟩ = some (.slice A j cc) := Boxed.cell hl13.out.l
          have Hown0 := Lib.hid (World.ownsRow_lit (base := w13.heap.size) (e := 9) (size := 1) w13 #[] 0 (Nat.le_refl _) (by decide) rfl)
          have Hrd0 := Lib.hid (hl13.out.rd.alloc (Nat.le_refl _) (.cells #[] 9))
          have hba : Below w13.heap.size w13 (w13.alloc (.cells #[] 9)) := (Below.refl _ _).alloc (Nat.le_refl _) _
          go_wp2_with (at_builtin; refine wpList_append_rd _ rfl _ _ 33 rfl w13.heap.size 9 i0 (.string ⟨#[]⟩) 16 Tryd.underlying33 hi hz0 hz1 hz2 rfl _ 0 [] rfl Hown0.out w13.heap.size A cc (strV (partsOf x j)) (by rw [strV_length, partsOf_len]; rfl) Hrd0.out (strV_one _) (by rw [strV_length, partsOf_len]; unfold maxLen; omega) (by rw [strV_length, partsOf_len]; omega) (by simp) ?_)
          intro v1 w1a hown1 hg1 _
          rw [strV_length, partsOf_len] at hown1
          have hbb : Below w13.heap.size w13 w1a := hba.grown (row := some w13.heap.size) hg1 (by simp) (fun q e => by injection e with e; omega)
          have Hown1 := Lib.hid (hown1.alloc (.cells (strV [[49], [49], [49], [49]]).toArray 9))
          have Hrd1 := Lib.hid (rd_new w1a (strV [[49], [49], [49], [49]]) 9)
          obtain ⟨A1, c1, rfl, hlc1⟩ := own_slice_le hown1
          have hlt1 := hown1.lt
          clear hown1 hg1 Hown0 Hrd0 hLd
          go_wp2_with (at_builtin; refine wpList_append_rd _ rfl _ _ 33 rfl w13.heap.size 9 i0 (.string ⟨#[]⟩) 16 Tryd.underlying33 hi hz0 hz1 hz2 rfl _ j (strV (partsOf x j)) rfl Hown1.out (w1a.heap.size + 1) (some ⟨w1a.heap.size, 0, none⟩) 4 (strV [[49], [49], [49], [49]]) rfl Hrd1.out (strV_one _) (by rw [strV_length]; simp only [List.length_cons, List.length_nil]; unfold maxLen; omega) (by rw [strV_length]; simp only [List.length_cons, List.length_nil]; omega) (Nat.le_trans hbb.size (by simp)) ?_)
          intro v2 w2a hown2 hg2 _
          have hbc : Below w13.heap.size w13 w2a := (hbb.alloc (hbb.size) _).grown hg2 (Nat.le_trans hbb.size (by simp)) (fun q e => (hlt1 q e).1)
          rw [← strV_append, strV_length, List.length_cons, List.length_cons, List.length_cons, List.length_cons, List.length_nil] at hown2
          have HJ := Lib.hid (join_own (partsOf x j ++ [[49], [49], [49], [49]]) (by simp) v2 w2a w13.heap.size (by rw [List.length_append, partsOf_len]; exact hown2) [46] hmax (by decide) (by rw [List.length_append, partsOf_len]; simp only [List.length_cons, List.length_nil]; omega))
          rw [Ht7.out] at HJ
          have hl14 := Lib.hid (hl13.out.below hbc)
          have hb14 := hb13.trans (hbc.mono hb13.size)
          clear hown2 hg2 Hown1 Hrd1 hlt1 hba hbb hbc hl13 hb13
          go_wp2_with fail
          refine (HJ.out).mono ?_
          rintro e w15 ⟨rfl, hc⟩
          have hl15 := Lib.hid (hl14.out.below hc)
          have hb15 := hb14.trans (hc.mono hb14.size)
          clear hc hb14 hl14
          go_wp2_with fail
          refine (xn7.out _ hl15.out.ok).mono ?_
          rintro e w16 ⟨rfl, hc⟩
          have hl16 := Lib.hid (hl15.out.below hc)
          have hb16 := hb15.trans (hc.mono hb15.size)
          clear hc hb15 hl15
          go_wp2_with fail
          refine (x9.out _ hl16.out.ok).mono ?_
          rintro e w17 ⟨rfl, hc⟩
          have hl17 := Lib.hid (hl16.out.below hc)
          have hb17 := hb16.trans (hc.mono hb16.size)
          clear hc hb16 hl16
          go_wp2
          go_ret
          exact ⟨rfl, hb17⟩

#print axioms fourLimits_main
end Go.Proofs.YtmobeppmdakjmaaDoor
