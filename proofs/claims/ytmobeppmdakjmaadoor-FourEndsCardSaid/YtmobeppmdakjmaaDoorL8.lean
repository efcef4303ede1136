/- Law: FourEnds answers true. (Printed by fourends.py.) -/
import Derived.Test.YtmobeppmdakjmaaDoorL7
import Derived.Test.YtmobeppmdakjmaaDoorS3
import Derived.Test.YtmobeppmdakjmaaDoorF2
namespace Go.Proofs.YtmobeppmdakjmaaDoor
open Go.RowKit

theorem trimSuffix_any (s : List UInt8) (hl : s.length ≤ 1000000) (w : World) :
    Calls Tryd.prog 36 #[.string ⟨s.toArray⟩, .string ⟨#[46]⟩] w fun e w' => e = .returned (.string ⟨(trimDot s).toArray⟩) ∧ w' = w := by
  have := Tryd.strings_TrimSuffix ⟨s.toArray⟩ ⟨#[46]⟩ w (by rw [size_str]; omega)
  have e : Lib.trimSuffix (⟨s.toArray⟩ : ByteArray).data.toList (⟨#[46]⟩ : ByteArray).data.toList = trimDot s := trimSuffix_dot s
  rwa [e] at this
theorem trimDot_len (s : List UInt8) : (trimDot s).length ≤ s.length := by
  unfold trimDot
  split
  · simp
  · exact Nat.le_refl _
theorem cat_bytes (a b : List UInt8) : (⟨a.toArray⟩ : ByteArray) ++ ⟨b.toArray⟩ = ⟨(a ++ b).toArray⟩ := by
  apply ByteArray.ext
  simp
theorem trim_any (s : List UInt8) (hl : s.length ≤ 1000000) (w : World) :
    Calls Tryd.prog 38 #[.string ⟨s.toArray⟩, .string ⟨#[48, 49, 50, 51, 52, 53, 54, 55, 56, 57]⟩] w fun e w' => (∃ t : List UInt8, e = .returned (.string ⟨t.toArray⟩) ∧ (t == []) = digitsB 10 s) ∧ Below w.heap.size w w' := by
  refine (Tryd.strings_Trim ⟨s.toArray⟩ ⟨#[48, 49, 50, 51, 52, 53, 54, 55, 56, 57]⟩ w (by rw [size_str]; omega) (by decide) (ascii_of_all (by decide))).mono ?_
  rintro e w' ⟨rfl, hb⟩
  exact ⟨⟨_, rfl, trim_ten s⟩, hb⟩


set_option maxHeartbeats 8000000 in
set_option maxRecDepth 100000 in
/-- The law behind its guards, at a text that is not empty. -/
theorem fourEnds_main (s a : List UInt8) (hs : s.length ≤ 200) (ha : a.length ≤ 50) (hne : s ≠ []) (w : World) (ho : Ok w) :
    Calls Tryd.prog 7 #[.string ⟨s.toArray⟩, .string ⟨a.toArray⟩] w fun e w' => e = .returned (.bool true) ∧ Below w.heap.size w w' := by
  have hsz := size_str s
  have hsza := size_str a
  have i1 : ¬ (200 : Int) < (s.length : Int) := by omega
  have i2 : ¬ (50 : Int) < (a.length : Int) := by omega
  have i3 : (s == ([] : List UInt8)) = false := by rw [beq_eq_false_iff_ne]; exact hne
  obtain ⟨k, hk, hkl, hlast⟩ := lib_last (trimDot s)
  have hpl := trimDot_len s
  have Hl := Lib.hid (fun W => Tryd.strings_LastIndexByte ⟨(trimDot s).toArray⟩ 46 (by rw [size_str]; omega) W)
  rw [hk] at Hl
  have x1 := Lib.hid (fun W => trimSuffix_any s (by omega) W)
  obtain ⟨r, hr⟩ : ∃ r, (trimDot s).drop k = r := ⟨_, rfl⟩
  rw [hr] at hlast
  have hrl : r.length ≤ 200 := by rw [← hr, List.length_drop]; omega
  have x2 := Lib.hid (fun W h => ends_is s (endsL r) (ends4_last hlast.piece) (by omega) W h)
  have x3 := Lib.hid (fun W h => ends_is (a ++ 46 :: s) (endsL r) (ends4_ahead a hne hlast) (by simp; omega) W h)
  have x4 := Lib.hid (fun W h => ends_is (120 :: 46 :: s) (endsL r) (ends4_ahead [120] hne hlast) (by simp; omega) W h)
  have x5 := Lib.hid (fun W h => ends_is (120 :: 46 :: r) (endsL r) (ends4_x r hlast.free) (by simp; omega) W h)
  have x6 := Lib.hid (fun W h => ends_is r (endsL r) (ends4_free r hlast.free) (by omega) W h)
  have x9 := Lib.hid (fun W h => awake_true W h)
  have hszp := size_str (trimDot s)
  have hkl' : (k : Int) ≤ ((trimDot s).length : Int) := by omega
  have hw64 : wrap64 (k : Int) = (k : Int) := by unfold wrap64; omega
  have hext : (⟨(trimDot s).toArray⟩ : ByteArray).extract k (trimDot s).length = ⟨r.toArray⟩ := by rw [ext_drop _ _ _ rfl, hr]
  have hcat1 : (⟨a.toArray⟩ : ByteArray) ++ ⟨#[46]⟩ ++ ⟨s.toArray⟩ = ⟨(a ++ 46 :: s).toArray⟩ := by
    rw [show (⟨#[46]⟩ : ByteArray) = ⟨[46].toArray⟩ from rfl, cat_bytes, cat_bytes]
    simp
  have hcat2 : (⟨#[120, 46]⟩ : ByteArray) ++ ⟨s.toArray⟩ = ⟨(120 :: 46 :: s).toArray⟩ := cat_bytes [120, 46] s
  have hcat3 : (⟨#[120, 46]⟩ : ByteArray) ++ ⟨r.toArray⟩ = ⟨(120 :: 46 :: r).toArray⟩ := cat_bytes [120, 46] r
  clear hr hlast hpl hk hkl hne
  generalize trimDot s = p at *
  obtain ⟨op, hop⟩ : ∃ o, parse4 s = o := ⟨_, rfl⟩
  have x0 := Lib.hid (fun W h => parse_is s op hop (by omega) W h)
  obtain ⟨b, hbe⟩ : ∃ b, endsL r = b := ⟨_, rfl⟩
  rw [hbe] at x2 x3 x4 x5 x6
  have Hb := Lib.hid hbe
  obtain ⟨o, ho7⟩ : ∃ o, number4 r = o := ⟨_, rfl⟩
  have x7 := Lib.hid (fun W h => number_is r o ho7 (by omega) W h)
  have Ho := Lib.hid ho7
  obtain ⟨oq, ho8⟩ : ∃ o, number4 s = o := ⟨_, rfl⟩
  have x8 := Lib.hid (fun W h => number_is s oq ho8 (by omega) W h)
  have Hq := Lib.hid ho8
  obtain ⟨d, hd⟩ : ∃ d, digitsB 10 r = d := ⟨_, rfl⟩
  have xt := Lib.hid (fun W => trim_any r (by omega) W)
  rw [hd] at xt
  have Hd := Lib.hid hd
  clear hbe ho7 ho8 hd
  have hend := Lib.hid (fun v (h : parse4 s = some v) => parse4_ends h)
  have ho0 := Lib.hid ho
  clear ho
  have hb0 := Below.refl w.heap.size w
  cases op with
  | none =>
    simp only [parseV] at x0
    clear hop hend
    go_enter Tryd.func7, Tryd.ntmps7
    go_wp2_with fail
    refine (x0.out _ ho0.out).mono ?_
    rintro e w1 ⟨rfl, hc⟩
    have ho1 := Lib.hid (ho0.out.below hc)
    have hb1 := hb0.trans (hc.mono hb0.size)
    clear hc hb0 ho0
    go_wp2_with fail
    refine (x1.out _).mono ?_
    rintro e w' ⟨rfl, hw⟩
    subst hw
    go_wp2_with fail
    refine (Hl.out _).mono ?_
    rintro e w' ⟨rfl, hw⟩
    subst hw
    go_wp2_with fail
    refine (x3.out _ ho1.out).mono ?_
    rintro e w2 ⟨rfl, hc⟩
    have ho2 := Lib.hid (ho1.out.below hc)
    have hb2 := hb1.trans (hc.mono hb1.size)
    clear hc hb1 ho1
    go_wp2_with fail
    refine (x4.out _ ho2.out).mono ?_
    rintro e w3 ⟨rfl, hc⟩
    have ho3 := Lib.hid (ho2.out.below hc)
    have hb3 := hb2.trans (hc.mono hb2.size)
    clear hc hb2 ho2
    go_wp2_with fail
    refine (x5.out _ ho3.out).mono ?_
    rintro e w4 ⟨rfl, hc⟩
    have ho4 := Lib.hid (ho3.out.below hc)
    have hb4 := hb3.trans (hc.mono hb3.size)
    clear hc hb3 ho3
    by_cases h0 : r = []
    · have f2 : (r == ([] : List UInt8)) = true := by rw [h0]; rfl
      have hbf : b = false := by rw [← Hb.out, h0]; rfl
      subst hbf
      obtain rfl : o = none := by rw [← Ho.out, h0]; rfl
      simp only [numV] at x7
      clear h0
      go_wp2_with fail
      refine (x7.out _ ho4.out).mono ?_
      rintro e w5 ⟨rfl, hc⟩
      have ho5 := Lib.hid (ho4.out.below hc)
      have hb5 := hb4.trans (hc.mono hb4.size)
      clear hc hb4 ho4
      by_cases h1 : s = [46]
      · have f3 : (s == [46]) = true := by rw [h1]; rfl
        clear h1
        go_wp2_with fail
        refine (x8.out _ ho5.out).mono ?_
        rintro e w6 ⟨rfl, hc⟩
        have ho6 := Lib.hid (ho5.out.below hc)
        have hb6 := hb5.trans (hc.mono hb5.size)
        clear hc hb5 ho5
        cases oq with
        | none =>
          simp only [numV]
          go_wp2_with fail
          refine (x9.out _ ho6.out).mono ?_
          rintro e w7 ⟨rfl, hc⟩
          have ho7 := Lib.hid (ho6.out.below hc)
          have hb7 := hb6.trans (hc.mono hb6.size)
          clear hc hb6 ho6
          go_wp2
          go_ret
          exact ⟨rfl, hb7⟩
        | some q =>
          have hq := number4_le Hq.out
          have hqi : (q : Int) ≤ 4294967296 := by omega
          clear hq
          simp only [numV]
          go_wp2_with fail
          refine (x9.out _ ho6.out).mono ?_
          rintro e w7 ⟨rfl, hc⟩
          have ho7 := Lib.hid (ho6.out.below hc)
          have hb7 := hb6.trans (hc.mono hb6.size)
          clear hc hb6 ho6
          go_wp2
          go_ret
          exact ⟨rfl, hb7⟩
      · have f3 : (s == [46]) = false := by rw [beq_eq_false_iff_ne]; exact h1
        clear h1
        go_wp2_with fail
        refine (x2.out _ ho5.out).mono ?_
        rintro e w6 ⟨rfl, hc⟩
        have ho6 := Lib.hid (ho5.out.below hc)
        have hb6 := hb5.trans (hc.mono hb5.size)
        clear hc hb5 ho5
        go_wp2_with fail
        refine (x8.out _ ho6.out).mono ?_
        rintro e w7 ⟨rfl, hc⟩
        have ho7 := Lib.hid (ho6.out.below hc)
        have hb7 := hb6.trans (hc.mono hb6.size)
        clear hc hb6 ho6
        cases oq with
        | none =>
          simp only [numV]
          go_wp2_with fail
          refine (x9.out _ ho7.out).mono ?_
          rintro e w8 ⟨rfl, hc⟩
          have ho8 := Lib.hid (ho7.out.below hc)
          have hb8 := hb7.trans (hc.mono hb7.size)
          clear hc hb7 ho7
          go_wp2
          go_ret
          exact ⟨rfl, hb8⟩
        | some q =>
          have hq := number4_le Hq.out
          have hqi : (q : Int) ≤ 4294967296 := by omega
          clear hq
          simp only [numV]
          go_wp2_with fail
          refine (x9.out _ ho7.out).mono ?_
          rintro e w8 ⟨rfl, hc⟩
          have ho8 := Lib.hid (ho7.out.below hc)
          have hb8 := hb7.trans (hc.mono hb7.size)
          clear hc hb7 ho7
          go_wp2
          go_ret
          exact ⟨rfl, hb8⟩
    · have f2 : (r == ([] : List UInt8)) = false := by rw [beq_eq_false_iff_ne]; exact h0
      have hbo : b = (o.isSome || d) := by rw [← Hb.out, ← Ho.out, ← Hd.out]; unfold endsL; rw [show (r != []) = true from by rw [bne, f2]; rfl, Bool.true_and]
      clear h0
      go_wp2_with fail
      refine (x6.out _ ho4.out).mono ?_
      rintro e w5 ⟨rfl, hc⟩
      have ho5 := Lib.hid (ho4.out.below hc)
      have hb5 := hb4.trans (hc.mono hb4.size)
      clear hc hb4 ho4
      go_wp2_with fail
      refine (x7.out _ ho5.out).mono ?_
      rintro e w6 ⟨rfl, hc⟩
      have ho6 := Lib.hid (ho5.out.below hc)
      have hb6 := hb5.trans (hc.mono hb5.size)
      clear hc hb5 ho5
      have Hbo := Lib.hid hbo
      clear hbo
      have hn : ∃ (a : Int), numV o = .tuple #[.int .u64 a, .bool o.isSome] := by cases o <;> exact ⟨_, rfl⟩
      obtain ⟨na, hn⟩ := hn
      rw [hn]
      clear hn
      go_wp2_with fail
      refine (xt.out _).mono ?_
      rintro e w7 ⟨⟨t, rfl, htd⟩, hc⟩
      have ho7 := Lib.hid (ho6.out.below hc)
      have hb7 := hb6.trans (hc.mono hb6.size)
      clear hc hb6 ho6
      by_cases h1 : s = [46]
      · have f3 : (s == [46]) = true := by rw [h1]; rfl
        clear h1
        go_wp2_with fail
        refine (x8.out _ ho7.out).mono ?_
        rintro e w8 ⟨rfl, hc⟩
        have ho8 := Lib.hid (ho7.out.below hc)
        have hb8 := hb7.trans (hc.mono hb7.size)
        clear hc hb7 ho7
        cases oq with
        | none =>
          simp only [numV]
          go_wp2_with fail
          refine (x9.out _ ho8.out).mono ?_
          rintro e w9 ⟨rfl, hc⟩
          have ho9 := Lib.hid (ho8.out.below hc)
          have hb9 := hb8.trans (hc.mono hb8.size)
          clear hc hb8 ho8
          go_wp2
          go_ret
          exact ⟨rfl, hb9⟩
        | some q =>
          have hq := number4_le Hq.out
          have hqi : (q : Int) ≤ 4294967296 := by omega
          clear hq
          simp only [numV]
          go_wp2_with fail
          refine (x9.out _ ho8.out).mono ?_
          rintro e w9 ⟨rfl, hc⟩
          have ho9 := Lib.hid (ho8.out.below hc)
          have hb9 := hb8.trans (hc.mono hb8.size)
          clear hc hb8 ho8
          go_wp2
          go_ret
          exact ⟨rfl, hb9⟩
      · have f3 : (s == [46]) = false := by rw [beq_eq_false_iff_ne]; exact h1
        clear h1
        go_wp2_with fail
        refine (x2.out _ ho7.out).mono ?_
        rintro e w8 ⟨rfl, hc⟩
        have ho8 := Lib.hid (ho7.out.below hc)
        have hb8 := hb7.trans (hc.mono hb7.size)
        clear hc hb7 ho7
        have hfin : Hid (b = (o.isSome || d)) := Hbo.out
        cases hos : o.isSome
        · rw [hos, Bool.false_or] at hfin
          obtain rfl := hfin.out
          go_wp2_with fail
          refine (x8.out _ ho8.out).mono ?_
          rintro e w9 ⟨rfl, hc⟩
          have ho9 := Lib.hid (ho8.out.below hc)
          have hb9 := hb8.trans (hc.mono hb8.size)
          clear hc hb8 ho8
          cases oq with
          | none =>
            simp only [numV]
            go_wp2_with fail
            refine (x9.out _ ho9.out).mono ?_
            rintro e w10 ⟨rfl, hc⟩
            have ho10 := Lib.hid (ho9.out.below hc)
            have hb10 := hb9.trans (hc.mono hb9.size)
            clear hc hb9 ho9
            go_wp2
            go_ret
            exact ⟨rfl, hb10⟩
          | some q =>
            have hq := number4_le Hq.out
            have hqi : (q : Int) ≤ 4294967296 := by omega
            clear hq
            simp only [numV]
            go_wp2_with fail
            refine (x9.out _ ho9.out).mono ?_
            rintro e w10 ⟨rfl, hc⟩
            have ho10 := Lib.hid (ho9.out.below hc)
            have hb10 := hb9.trans (hc.mono hb9.size)
            clear hc hb9 ho9
            go_wp2
            go_ret
            exact ⟨rfl, hb10⟩
        · rw [hos, Bool.true_or] at hfin
          obtain rfl := hfin.out
          go_wp2_with fail
          refine (x8.out _ ho8.out).mono ?_
          rintro e w9 ⟨rfl, hc⟩
          have ho9 := Lib.hid (ho8.out.below hc)
          have hb9 := hb8.trans (hc.mono hb8.size)
          clear hc hb8 ho8
          cases oq with
          | none =>
            simp only [numV]
            go_wp2_with fail
            refine (x9.out _ ho9.out).mono ?_
            rintro e w10 ⟨rfl, hc⟩
            have ho10 := Lib.hid (ho9.out.below hc)
            have hb10 := hb9.trans (hc.mono hb9.size)
            clear hc hb9 ho9
            go_wp2
            go_ret
            exact ⟨rfl, hb10⟩
          | some q =>
            have hq := number4_le Hq.out
            have hqi : (q : Int) ≤ 4294967296 := by omega
            clear hq
            simp only [numV]
            go_wp2_with fail
            refine (x9.out _ ho9.out).mono ?_
            rintro e w10 ⟨rfl, hc⟩
            have ho10 := Lib.hid (ho9.out.below hc)
            have hb10 := hb9.trans (hc.mono hb9.size)
            clear hc hb9 ho9
            go_wp2
            go_ret
            exact ⟨rfl, hb10⟩
  | some v =>
    have hb1e := hend.out v hop
    have xe := Lib.hid (fun W h => ends_is s true hb1e (by omega) W h)
    simp only [parseV] at x0
    clear hop hend hb1e
    go_enter Tryd.func7, Tryd.ntmps7
    go_wp2_with fail
    refine (x0.out _ ho0.out).mono ?_
    rintro e w1 ⟨rfl, hc⟩
    have ho1 := Lib.hid (ho0.out.below hc)
    have hb1 := hb0.trans (hc.mono hb0.size)
    clear hc hb0 ho0
    go_wp2_with fail
    refine (xe.out _ ho1.out).mono ?_
    rintro e w2 ⟨rfl, hc⟩
    have ho2 := Lib.hid (ho1.out.below hc)
    have hb2 := hb1.trans (hc.mono hb1.size)
    clear hc hb1 ho1
    go_wp2_with fail
    refine (x1.out _).mono ?_
    rintro e w' ⟨rfl, hw⟩
    subst hw
    go_wp2_with fail
    refine (Hl.out _).mono ?_
    rintro e w' ⟨rfl, hw⟩
    subst hw
    go_wp2_with fail
    refine (x3.out _ ho2.out).mono ?_
    rintro e w3 ⟨rfl, hc⟩
    have ho3 := Lib.hid (ho2.out.below hc)
    have hb3 := hb2.trans (hc.mono hb2.size)
    clear hc hb2 ho2
    go_wp2_with fail
    refine (x4.out _ ho3.out).mono ?_
    rintro e w4 ⟨rfl, hc⟩
    have ho4 := Lib.hid (ho3.out.below hc)
    have hb4 := hb3.trans (hc.mono hb3.size)
    clear hc hb3 ho3
    go_wp2_with fail
    refine (x5.out _ ho4.out).mono ?_
    rintro e w5 ⟨rfl, hc⟩
    have ho5 := Lib.hid (ho4.out.below hc)
    have hb5 := hb4.trans (hc.mono hb4.size)
    clear hc hb4 ho4
    by_cases h0 : r = []
    · have f2 : (r == ([] : List UInt8)) = true := by rw [h0]; rfl
      have hbf : b = false := by rw [← Hb.out, h0]; rfl
      subst hbf
      obtain rfl : o = none := by rw [← Ho.out, h0]; rfl
      simp only [numV] at x7
      clear h0
      go_wp2_with fail
      refine (x7.out _ ho5.out).mono ?_
      rintro e w6 ⟨rfl, hc⟩
      have ho6 := Lib.hid (ho5.out.below hc)
      have hb6 := hb5.trans (hc.mono hb5.size)
      clear hc hb5 ho5
      by_cases h1 : s = [46]
      · have f3 : (s == [46]) = true := by rw [h1]; rfl
        clear h1
        go_wp2_with fail
        refine (x8.out _ ho6.out).mono ?_
        rintro e w7 ⟨rfl, hc⟩
        have ho7 := Lib.hid (ho6.out.below hc)
        have hb7 := hb6.trans (hc.mono hb6.size)
        clear hc hb6 ho6
        cases oq with
        | none =>
          simp only [numV]
          go_wp2_with fail
          refine (x9.out _ ho7.out).mono ?_
          rintro e w8 ⟨rfl, hc⟩
          have ho8 := Lib.hid (ho7.out.below hc)
          have hb8 := hb7.trans (hc.mono hb7.size)
          clear hc hb7 ho7
          go_wp2
          go_ret
          exact ⟨rfl, hb8⟩
        | some q =>
          have hq := number4_le Hq.out
          have hqi : (q : Int) ≤ 4294967296 := by omega
          clear hq
          simp only [numV]
          go_wp2_with fail
          refine (x9.out _ ho7.out).mono ?_
          rintro e w8 ⟨rfl, hc⟩
          have ho8 := Lib.hid (ho7.out.below hc)
          have hb8 := hb7.trans (hc.mono hb7.size)
          clear hc hb7 ho7
          go_wp2
          go_ret
          exact ⟨rfl, hb8⟩
      · have f3 : (s == [46]) = false := by rw [beq_eq_false_iff_ne]; exact h1
        clear h1
        go_wp2_with fail
        refine (x2.out _ ho6.out).mono ?_
        rintro e w7 ⟨rfl, hc⟩
        have ho7 := Lib.hid (ho6.out.below hc)
        have hb7 := hb6.trans (hc.mono hb6.size)
        clear hc hb6 ho6
        go_wp2_with fail
        refine (x8.out _ ho7.out).mono ?_
        rintro e w8 ⟨rfl, hc⟩
        have ho8 := Lib.hid (ho7.out.below hc)
        have hb8 := hb7.trans (hc.mono hb7.size)
        clear hc hb7 ho7
        cases oq with
        | none =>
          simp only [numV]
          go_wp2_with fail
          refine (x9.out _ ho8.out).mono ?_
          rintro e w9 ⟨rfl, hc⟩
          have ho9 := Lib.hid (ho8.out.below hc)
          have hb9 := hb8.trans (hc.mono hb8.size)
          clear hc hb8 ho8
          go_wp2
          go_ret
          exact ⟨rfl, hb9⟩
        | some q =>
          have hq := number4_le Hq.out
          have hqi : (q : Int) ≤ 4294967296 := by omega
          clear hq
          simp only [numV]
          go_wp2_with fail
          refine (x9.out _ ho8.out).mono ?_
          rintro e w9 ⟨rfl, hc⟩
          have ho9 := Lib.hid (ho8.out.below hc)
          have hb9 := hb8.trans (hc.mono hb8.size)
          clear hc hb8 ho8
          go_wp2
          go_ret
          exact ⟨rfl, hb9⟩
    · have f2 : (r == ([] : List UInt8)) = false := by rw [beq_eq_false_iff_ne]; exact h0
      have hbo : b = (o.isSome || d) := by rw [← Hb.out, ← Ho.out, ← Hd.out]; unfold endsL; rw [show (r != []) = true from by rw [bne, f2]; rfl, Bool.true_and]
      clear h0
      go_wp2_with fail
      refine (x6.out _ ho5.out).mono ?_
      rintro e w6 ⟨rfl, hc⟩
      have ho6 := Lib.hid (ho5.out.below hc)
      have hb6 := hb5.trans (hc.mono hb5.size)
      clear hc hb5 ho5
      go_wp2_with fail
      refine (x7.out _ ho6.out).mono ?_
      rintro e w7 ⟨rfl, hc⟩
      have ho7 := Lib.hid (ho6.out.below hc)
      have hb7 := hb6.trans (hc.mono hb6.size)
      clear hc hb6 ho6
      have Hbo := Lib.hid hbo
      clear hbo
      have hn : ∃ (a : Int), numV o = .tuple #[.int .u64 a, .bool o.isSome] := by cases o <;> exact ⟨_, rfl⟩
      obtain ⟨na, hn⟩ := hn
      rw [hn]
      clear hn
      go_wp2_with fail
      refine (xt.out _).mono ?_
      rintro e w8 ⟨⟨t, rfl, htd⟩, hc⟩
      have ho8 := Lib.hid (ho7.out.below hc)
      have hb8 := hb7.trans (hc.mono hb7.size)
      clear hc hb7 ho7
      by_cases h1 : s = [46]
      · have f3 : (s == [46]) = true := by rw [h1]; rfl
        clear h1
        go_wp2_with fail
        refine (x8.out _ ho8.out).mono ?_
        rintro e w9 ⟨rfl, hc⟩
        have ho9 := Lib.hid (ho8.out.below hc)
        have hb9 := hb8.trans (hc.mono hb8.size)
        clear hc hb8 ho8
        cases oq with
        | none =>
          simp only [numV]
          go_wp2_with fail
          refine (x9.out _ ho9.out).mono ?_
          rintro e w10 ⟨rfl, hc⟩
          have ho10 := Lib.hid (ho9.out.below hc)
          have hb10 := hb9.trans (hc.mono hb9.size)
          clear hc hb9 ho9
          go_wp2
          go_ret
          exact ⟨rfl, hb10⟩
        | some q =>
          have hq := number4_le Hq.out
          have hqi : (q : Int) ≤ 4294967296 := by omega
          clear hq
          simp only [numV]
          go_wp2_with fail
          refine (x9.out _ ho9.out).mono ?_
          rintro e w10 ⟨rfl, hc⟩
          have ho10 := Lib.hid (ho9.out.below hc)
          have hb10 := hb9.trans (hc.mono hb9.size)
          clear hc hb9 ho9
          go_wp2
          go_ret
          exact ⟨rfl, hb10⟩
      · have f3 : (s == [46]) = false := by rw [beq_eq_false_iff_ne]; exact h1
        clear h1
        go_wp2_with fail
        refine (x2.out _ ho8.out).mono ?_
        rintro e w9 ⟨rfl, hc⟩
        have ho9 := Lib.hid (ho8.out.below hc)
        have hb9 := hb8.trans (hc.mono hb8.size)
        clear hc hb8 ho8
        have hfin : Hid (b = (o.isSome || d)) := Hbo.out
        cases hos : o.isSome
        · rw [hos, Bool.false_or] at hfin
          obtain rfl := hfin.out
          go_wp2_with fail
          refine (x8.out _ ho9.out).mono ?_
          rintro e w10 ⟨rfl, hc⟩
          have ho10 := Lib.hid (ho9.out.below hc)
          have hb10 := hb9.trans (hc.mono hb9.size)
          clear hc hb9 ho9
          cases oq with
          | none =>
            simp only [numV]
            go_wp2_with fail
            refine (x9.out _ ho10.out).mono ?_
            rintro e w11 ⟨rfl, hc⟩
            have ho11 := Lib.hid (ho10.out.below hc)
            have hb11 := hb10.trans (hc.mono hb10.size)
            clear hc hb10 ho10
            go_wp2
            go_ret
            exact ⟨rfl, hb11⟩
          | some q =>
            have hq := number4_le Hq.out
            have hqi : (q : Int) ≤ 4294967296 := by omega
            clear hq
            simp only [numV]
            go_wp2_with fail
            refine (x9.out _ ho10.out).mono ?_
            rintro e w11 ⟨rfl, hc⟩
            have ho11 := Lib.hid (ho10.out.below hc)
            have hb11 := hb10.trans (hc.mono hb10.size)
            clear hc hb10 ho10
            go_wp2
            go_ret
            exact ⟨rfl, hb11⟩
        · rw [hos, Bool.true_or] at hfin
          obtain rfl := hfin.out
          go_wp2_with fail
          refine (x8.out _ ho9.out).mono ?_
          rintro e w10 ⟨rfl, hc⟩
          have ho10 := Lib.hid (ho9.out.below hc)
          have hb10 := hb9.trans (hc.mono hb9.size)
          clear hc hb9 ho9
          cases oq with
          | none =>
            simp only [numV]
            go_wp2_with fail
            refine (x9.out _ ho10.out).mono ?_
            rintro e w11 ⟨rfl, hc⟩
            have ho11 := Lib.hid (ho10.out.below hc)
            have hb11 := hb10.trans (hc.mono hb10.size)
            clear hc hb10 ho10
            go_wp2
            go_ret
            exact ⟨rfl, hb11⟩
          | some q =>
            have hq := number4_le Hq.out
            have hqi : (q : Int) ≤ 4294967296 := by omega
            clear hq
            simp only [numV]
            go_wp2_with fail
            refine (x9.out _ ho10.out).mono ?_
            rintro e w11 ⟨rfl, hc⟩
            have ho11 := Lib.hid (ho10.out.below hc)
            have hb11 := hb10.trans (hc.mono hb10.size)
            clear hc hb10 ho10
            go_wp2
            go_ret
            exact ⟨rfl, hb11⟩

#print axioms fourEnds_main
end Go.Proofs.YtmobeppmdakjmaaDoor
