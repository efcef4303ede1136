/- Walk: the reference's Parse (of the layer of IPv6 addresses). -/
import Derived.Test.YtmobeppmdakjmaaDoorUA
import Derived.Deep.CutBlock
import Derived.BigRegion
namespace Go.Proofs.YtmobeppmdakjmaaDoor
open Go.RowKit

abbrev Z8 : Array Value := #[.int .u16 0, .int .u16 0, .int .u16 0, .int .u16 0, .int .u16 0, .int .u16 0, .int .u16 0, .int .u16 0]
theorem Z8_one : Z8.all (fun v => v.oneCell') = true := by kernel_rfl
theorem u16V_all (x : List Nat) : (u16V x).toArray.all (fun v => v.oneCell') = true := Array.all_eq_true_iff_forall_mem.2 (fun v hv => u16V_one x v (by simpa using hv))
def encS : Option Nat → Int
  | none => -1
  | some i => (i : Int)
set_option maxHeartbeats 40000000 in
set_option maxRecDepth 100000 in
theorem refParse6_walk (s : List UInt8) (hl : s.length ≤ 100000) (w : World) :
    Calls Tryd.prog 31 #[.string ⟨s.toArray⟩] w fun e w' => e = .returned (parse6V (refParse6 s)) ∧ Below w.heap.size w w' := by
  have hsz := size_str s
  have Hw := Lib.hid (fun k W => worth6_any s k W)
  have Hi58 := Lib.hid (fun k W => is6_any s k 58 W)
  have Hi46 := Lib.hid (fun k W => is6_any s k 46 W)
  have Hf := Lib.hid (fun k h W => four6_any s (by omega) k h W)
  have HT0 := Lib.hid (three_start w)
  have e8 : (u16V zeros8).toArray = #[.int .u16 0, .int .u16 0, .int .u16 0, .int .u16 0, .int .u16 0, .int .u16 0, .int .u16 0, .int .u16 0] := rfl
  rw [e8] at HT0
  clear e8
  generalize hW : ((w.alloc (.cells #[.int .u16 0, .int .u16 0, .int .u16 0, .int .u16 0, .int .u16 0, .int .u16 0, .int .u16 0, .int .u16 0] 44)).alloc (.cells #[.int .u16 0, .int .u16 0, .int .u16 0, .int .u16 0, .int .u16 0, .int .u16 0, .int .u16 0, .int .u16 0] 44)).alloc (.cells #[.int .u16 0, .int .u16 0, .int .u16 0, .int .u16 0, .int .u16 0, .int .u16 0, .int .u16 0, .int .u16 0] 44) = W0 at *
  have HW := Lib.hid hW
  clear hW
  go_enter Tryd.func31, Tryd.ntmps31
  have HQ : Hid (∀ (tm : Array Value) (wx : World) (cs : Array Value), tm.getD 2 undef = .pointer (some ⟨w.heap.size, 0, none⟩) → wx.heap[w.heap.size]? = some (.cells cs 44 (0, 0)) → cs.size = 8 →
      ((.returned (.tuple #[.agg cs, tm.getD 3 undef]) : Ending) = .returned (parse6V (refParse6 s)) ∧ Below w.heap.size w wx) → bodyPost Tryd.prog Tryd.f31 (fun e w' => e = .returned (parse6V (refParse6 s)) ∧ Below w.heap.size w w') .ret { tmps := tm, defers := [] } wx) :=
    fun tm wx cs h1 h2 h3 h4 => bodyPost_ret (results_addr rfl tm wx w.heap.size cs h1 h2 h3) rfl h4
  generalize bodyPost Tryd.prog Tryd.f31 (fun e w' => e = .returned (parse6V (refParse6 s)) ∧ Below w.heap.size w w') = Q at *
  go_wp2_with fail
  rw [HW.out]
  refine (Hi58.out 0 _).mono ?_
  rintro e w2 ⟨rfl, hw2⟩
  subst w2
  go_upto_if 17 with fail
  go_cut [6, 7, 8] from 16 (fun p q r wx => ∃ (acc : List Nat) (sh : Option Nat) (t : Nat) (e : Int), p = .int .i64 (acc.length : Int) ∧ q = .int .i64 e ∧ r = .int .i64 (t : Int) ∧ wx = W0 ∧ t ≤ s.length ∧ (acc.length : Int) ≤ 8 ∧ -1 ≤ e ∧ e ≤ 8 ∧ Hid (Says s acc sh t) ∧ Hid (Three w (fill8 acc) W0) ∧ Hid (e = encS sh ∧ ∀ i, sh = some i → 1 ≤ i ∧ i ≤ acc.length))
  case first =>
    by_cases h0 : s[0]? = some 58
    · have d0 : decide (s[0]? = some (58 : UInt8)) = true := decide_eq_true h0
      rw [d0]
      clear d0
      by_cases h1 : s[1]? = some 58
      · have d1 : decide (s[1]? = some (58 : UInt8)) = true := decide_eq_true h1
        have hs := Lib.hid (says_colons h0 h1)
        have h2 : 2 ≤ s.length := (List.getElem?_eq_some_iff.1 h1).1
        clear h0 h1
        go_wp2_with fail
        refine (Hi58.out 1 _).mono ?_
        rintro e1 w2 ⟨rfl, hw2⟩
        subst w2
        rw [d1]
        go_wp2
        go_meet
        exact ⟨[0], some 1, 2, 1, rfl, rfl, rfl, rfl, h2, by decide, by decide, by decide, hs.out, HT0.out, rfl, fun i h => by injection h with h; subst h; exact ⟨by decide, by decide⟩⟩
      · have d1 : decide (s[1]? = some (58 : UInt8)) = false := decide_eq_false h1
        have Hr := Lib.hid (says_colon h0 h1)
        clear h0 h1
        go_wp2_with fail
        refine (Hi58.out 1 _).mono ?_
        rintro e1 w2 ⟨rfl, hw2⟩
        subst w2
        rw [d1]
        go_wp2_with (first
          | (refine wpList_load_row rfl 44 _ rfl (w.heap.size + 1) rfl 44 Z8 (0, 0) _ HT0.out.2.2.1 Tryd.underlying44 rfl Tryd.size44 ?_)
          | (refine wpList_store_row rfl 44 _ _ rfl w.heap.size Z8 rfl rfl 44 Z8 HT0.out.2.1 Tryd.size44 rfl Z8_one ?_))
        refine HQ.out _ _ Z8 rfl (setRow_heap _ _ _ Z8 44 (0, 0) HT0.out.2.1) rfl ?_
        rw [Hr.out]
        exact ⟨rfl, below_setRow HT0.out.1 (Nat.le_refl _) _⟩
    · have d0 : decide (s[0]? = some (58 : UInt8)) = false := decide_eq_false h0
      have hs := Lib.hid (says_start h0)
      rw [d0]
      clear h0 d0
      go_wp2
      go_meet
      exact ⟨[], none, 0, -1, rfl, rfl, rfl, rfl, Nat.zero_le _, by decide, by decide, by decide, hs.out, HT0.out, rfl, fun i h => by cases h⟩
  case rest =>
    obtain ⟨acc0, sh0, t0, e0, rfl, rfl, rfl, hwc, ht0, ha0, el0, eu0, hs0, hT0, he0⟩ := hcut
    subst wc
    clear HT0
    go_upto_block 0 with fail
    go_cut [6, 7, 8] from 9 (fun p q r wx => ∃ (acc : List Nat) (sh : Option Nat) (t : Nat) (e : Int), p = .int .i64 (acc.length : Int) ∧ q = .int .i64 e ∧ r = .int .i64 (t : Int) ∧ (acc.length : Int) ≤ 8 ∧ -1 ≤ e ∧ e ≤ 8 ∧ Hid (refParse6 s = finish6 (some (acc, sh))) ∧ Hid (Three w (fill8 acc) wx) ∧ Hid (e = encS sh ∧ ∀ i, sh = some i → 1 ≤ i ∧ i ≤ acc.length))
    case first =>
      go_wp2_with fail
      go_loopg [6, 7, 8] (s.length - t0) (fun (g : Nat) p q r wx => ∃ (acc : List Nat) (sh : Option Nat) (t : Nat) (e : Int), p = .int .i64 (acc.length : Int) ∧ q = .int .i64 e ∧ r = .int .i64 (t : Int) ∧ t + g = s.length ∧ (acc.length : Int) ≤ 8 ∧ -1 ≤ e ∧ e ≤ 8 ∧ Hid (Says s acc sh t) ∧ Hid (Three w (fill8 acc) wx) ∧ Hid (e = encS sh ∧ ∀ i, sh = some i → 1 ≤ i ∧ i ≤ acc.length))
      case atStart => exact ⟨acc0, sh0, t0, e0, rfl, rfl, rfl, by omega, ha0, el0, eu0, hs0.out, hT0.out, he0.out⟩
      case round =>
        clear hs0 hT0 he0 ha0 el0 eu0
        obtain ⟨acc, sh, t, e, rfl, rfl, rfl, htg, ha, el, eu, hs, hT, he⟩ := hrel
        by_cases hlt : t < s.length
        · have i1 : (t : Int) < (s.length : Int) := by omega
          by_cases h8 : acc.length = 8
          · have j8 : ((acc.length : Int) == 8) = true := by rw [beq_iff_eq]; omega
            have Hr := Lib.hid (says_full hs.out hlt h8)
            clear h8
            go_wp2_with (first
              | (refine wpList_load_row rfl 44 _ rfl (w.heap.size + 1) rfl 44 Z8 (0, 0) _ hT.out.2.2.1 Tryd.underlying44 rfl Tryd.size44 ?_)
              | (refine wpList_store_row rfl 44 _ _ rfl w.heap.size Z8 rfl rfl 44 Z8 hT.out.2.1 Tryd.size44 rfl Z8_one ?_))
            refine HQ.out _ _ Z8 rfl (setRow_heap _ _ _ Z8 44 (0, 0) hT.out.2.1) rfl ?_
            rw [Hr.out]
            exact ⟨rfl, below_setRow hT.out.1 (Nat.le_refl _) _⟩
          · have j8 : ((acc.length : Int) == 8) = false := by rw [beq_eq_false_iff_ne]; omega
            have ha7 : (acc.length : Int) ≤ 7 := by omega
            by_cases hc : s[t]? = some 58
            · have dc : decide (s[t]? = some (58 : UInt8)) = true := decide_eq_true hc
              cases hsh : sh with
              | some i =>
                have Hr := Lib.hid (says_gap2 (hsh ▸ hs.out) hc h8)
                have ge : (0 : Int) ≤ e := by have := he.out.1; rw [hsh] at this; simp [encS] at this; omega
                clear h8 hc hsh hs
                go_wp2_with fail
                refine (Hi58.out t _).mono ?_
                rintro e1 w2 ⟨rfl, hw2⟩
                subst w2
                rw [dc]
                go_wp2_with (first
                  | (refine wpList_load_row rfl 44 _ rfl (w.heap.size + 1) rfl 44 Z8 (0, 0) _ hT.out.2.2.1 Tryd.underlying44 rfl Tryd.size44 ?_)
                  | (refine wpList_store_row rfl 44 _ _ rfl w.heap.size Z8 rfl rfl 44 Z8 hT.out.2.1 Tryd.size44 rfl Z8_one ?_))
                refine HQ.out _ _ Z8 rfl (setRow_heap _ _ _ Z8 44 (0, 0) hT.out.2.1) rfl ?_
                rw [Hr.out]
                exact ⟨rfl, below_setRow hT.out.1 (Nat.le_refl _) _⟩
              | none =>
                have hs2 := Lib.hid (says_gap (hsh ▸ hs.out) hc h8)
                have ge : ¬ (0 : Int) ≤ e := by have := he.out.1; rw [hsh] at this; simp [encS] at this; omega
                have hT2 : Hid (Three w (fill8 (acc ++ [0])) wr) := by show Three _ _ _; rw [fill8_zero (by omega)]; exact hT.out
                have hl1 : ((acc ++ [0]).length : Int) = (acc.length : Int) + 1 := by simp
                clear h8 hc hsh hs
                go_wp2_with fail
                refine (Hi58.out t _).mono ?_
                rintro e1 w2 ⟨rfl, hw2⟩
                subst w2
                rw [dc]
                go_wp2
                go_roundg (gk - 1)
                case measure => omega
                case rel => exact ⟨acc ++ [0], some (acc.length + 1), t + 1, (acc.length : Int) + 1, by rw [hl1], rfl, by rfl, by omega, by omega, by omega, by omega, hs2.out, hT2.out, by simp [encS], fun i h => by injection h with h; subst h; simp⟩
            · have dc : decide (s[t]? = some (58 : UInt8)) = false := decide_eq_false hc
              go_wp2_with fail
              refine (Hi58.out t _).mono ?_
              rintro e1 w2 ⟨rfl, hw2⟩
              subst w2
              rw [dc]
              clear dc
              go_upto_block 2 with fail
              go_cut [8, 9, 10] from 22 to 113 (fun p q r wx => ∃ (u n v : Nat), p = .int .i64 (u : Int) ∧ q = .int .i64 (v : Int) ∧ r = .int .i64 (n : Int) ∧ wx = wr ∧ Hid ((u : Int) = (t : Int) + (n : Int)) ∧ (u : Int) ≤ (s.length : Int) ∧ (v : Int) ≤ 65535 ∧ (n : Int) ≤ 4 ∧ Hid (Dig s t u n v) ∧ Hid (n = 4 ∨ 16 ≤ wat s u))
              case first =>
                go_wp2_with fail
                go_loopg [8, 9, 10] 4 (fun (g : Nat) p q r wx => ∃ (u n v : Nat), p = .int .i64 (u : Int) ∧ q = .int .i64 (v : Int) ∧ r = .int .i64 (n : Int) ∧ wx = wr ∧ n + g = 4 ∧ Hid ((u : Int) = (t : Int) + (n : Int)) ∧ (u : Int) ≤ (s.length : Int) ∧ (v : Int) ≤ 65535 ∧ (n : Int) ≤ 4 ∧ Hid (Dig s t u n v))
                case atStart => exact ⟨t, 0, 0, rfl, rfl, rfl, rfl, by omega, (show (t : Int) = (t : Int) + ((0 : Nat) : Int) by omega), by omega, by decide, by decide, dig_start (by omega)⟩
                case round =>
                  obtain ⟨u, n, v, rfl, rfl, rfl, hwr2, hng, hut, hul, hv6, hn4, hD⟩ := hrel
                  rename_i wr2
                  subst hwr2
                  by_cases hlt4 : n < 4
                  · have i4 : (n : Int) < 4 := by omega
                    by_cases hw16 : wat s u < 16
                    · have k16 : (wat s u : Int) < 16 := by omega
                      obtain ⟨hD2, hu2⟩ := dig_step hD.out hlt4 hw16
                      have hv2 := dig_lt hD2
                      have HD2 := Lib.hid hD2
                      clear hlt4 hw16 hD hD2
                      go_wp2_with fail
                      refine (Hw.out u _).mono ?_
                      rintro e1 w2 ⟨rfl, hw2⟩
                      subst w2
                      go_wp2_with fail
                      refine (Hw.out u _).mono ?_
                      rintro e1 w2 ⟨rfl, hw2⟩
                      subst w2
                      go_wp2
                      go_roundg (gk - 1)
                      case measure => omega
                      case rel => exact ⟨u + 1, n + 1, 16 * v + wat s u, by rfl, by rfl, by rfl, rfl, by omega, (show ((u + 1 : Nat) : Int) = (t : Int) + ((n + 1 : Nat) : Int) by have := hut.out; omega), by omega, by omega, by omega, HD2.out⟩
                    · have k16 : ¬ (wat s u : Int) < 16 := by omega
                      have hstop : Hid (n = 4 ∨ 16 ≤ wat s u) := .inr (by omega)
                      clear hlt4 hw16
                      go_wp2_with fail
                      refine (Hw.out u _).mono ?_
                      rintro e1 w2 ⟨rfl, hw2⟩
                      subst w2
                      go_wp2
                      go_meet
                      exact ⟨u, n, v, rfl, rfl, rfl, rfl, hut.out, hul, hv6, hn4, hD.out, hstop.out⟩
                  · have i4 : ¬ (n : Int) < 4 := by omega
                    have hstop : Hid (n = 4 ∨ 16 ≤ wat s u) := .inl (by omega)
                    clear hlt4
                    go_wp2
                    go_meet
                    exact ⟨u, n, v, rfl, rfl, rfl, rfl, hut.out, hul, hv6, hn4, hD.out, hstop.out⟩
              case rest =>
                obtain ⟨u, n, v, rfl, rfl, rfl, hwc, hut, hul, hv6, hn4, hD, hstop⟩ := hcut
                subst wc
                have h16 : IntKind.u16.wrap (v : Int) = (v : Int) := wrap16 (by omega)
                by_cases hdot : s[u]? = some 46
                · have d46 : decide (s[u]? = some (46 : UInt8)) = true := decide_eq_true hdot
                  by_cases hn0 : n = 0
                  ·
                    have Hr := Lib.hid (says_dot_bad hs.out hlt h8 hc hD.out hstop.out hdot (.inl hn0))
                    have n0 : ((n : Int) == 0) = true := by rw [beq_iff_eq]; omega
                    clear hn0 hdot hc h8 hs
                    go_wp2_with fail
                    refine (Hi46.out u _).mono ?_
                    rintro e1 w2 ⟨rfl, hw2⟩
                    subst w2
                    rw [d46]
                    go_wp2_with (first
                      | (refine wpList_load_row rfl 44 _ rfl (w.heap.size + 1) rfl 44 Z8 (0, 0) _ hT.out.2.2.1 Tryd.underlying44 rfl Tryd.size44 ?_)
                      | (refine wpList_store_row rfl 44 _ _ rfl w.heap.size Z8 rfl rfl 44 Z8 hT.out.2.1 Tryd.size44 rfl Z8_one ?_))
                    refine HQ.out _ _ Z8 rfl (setRow_heap _ _ _ Z8 44 (0, 0) hT.out.2.1) rfl ?_
                    rw [Hr.out]
                    exact ⟨rfl, below_setRow hT.out.1 (Nat.le_refl _) _⟩
                  · by_cases h6 : 6 < acc.length
                    ·
                      have Hr := Lib.hid (says_dot_bad hs.out hlt h8 hc hD.out hstop.out hdot (.inr h6))
                      have n0 : ((n : Int) == 0) = false := by rw [beq_eq_false_iff_ne]; omega
                      have n6 : (6 : Int) < (acc.length : Int) := by omega
                      clear hn0 h6 hdot hc h8 hs
                      go_wp2_with fail
                      refine (Hi46.out u _).mono ?_
                      rintro e1 w2 ⟨rfl, hw2⟩
                      subst w2
                      rw [d46]
                      go_wp2_with (first
                        | (refine wpList_load_row rfl 44 _ rfl (w.heap.size + 1) rfl 44 Z8 (0, 0) _ hT.out.2.2.1 Tryd.underlying44 rfl Tryd.size44 ?_)
                        | (refine wpList_store_row rfl 44 _ _ rfl w.heap.size Z8 rfl rfl 44 Z8 hT.out.2.1 Tryd.size44 rfl Z8_one ?_))
                      refine HQ.out _ _ Z8 rfl (setRow_heap _ _ _ Z8 44 (0, 0) hT.out.2.1) rfl ?_
                      rw [Hr.out]
                      exact ⟨rfl, below_setRow hT.out.1 (Nat.le_refl _) _⟩
                    ·
                      have n0 : ((n : Int) == 0) = false := by rw [beq_eq_false_iff_ne]; omega
                      have n6 : ¬ (6 : Int) < (acc.length : Int) := by omega
                      have hun : (u : Int) - (n : Int) = (t : Int) := by have := hut.out; omega
                      cases hi6 : inner6 (s.drop t) with
                      | none =>
                        have Hr := Lib.hid (says_dot_none hs.out hlt h8 hc hD.out hstop.out hdot hi6)
                        clear hn0 h6 hdot hc h8 hs
                        go_wp2_with fail
                        refine (Hi46.out u _).mono ?_
                        rintro e1 w2 ⟨rfl, hw2⟩
                        subst w2
                        rw [d46]
                        go_wp2_with fail
                        refine (Hf.out t (by omega) _).mono ?_
                        rintro e1 w2 ⟨⟨hi, lo, ok, rfl, hm⟩, hw2⟩
                        subst w2
                        rw [hi6] at hm
                        obtain rfl : ok = false := hm
                        clear hi6
                        go_wp2_with (first
                          | (refine wpList_load_row rfl 44 _ rfl (w.heap.size + 1) rfl 44 Z8 (0, 0) _ hT.out.2.2.1 Tryd.underlying44 rfl Tryd.size44 ?_)
                          | (refine wpList_store_row rfl 44 _ _ rfl w.heap.size Z8 rfl rfl 44 Z8 hT.out.2.1 Tryd.size44 rfl Z8_one ?_))
                        refine HQ.out _ _ Z8 rfl (setRow_heap _ _ _ Z8 44 (0, 0) hT.out.2.1) rfl ?_
                        rw [Hr.out]
                        exact ⟨rfl, below_setRow hT.out.1 (Nat.le_refl _) _⟩
                      | some q =>
                        obtain ⟨hq2, hq6⟩ := inner6_word hi6
                        have hr := Lib.hid (says_dot hs.out hlt h8 hc hD.out hstop.out hdot (by omega) hi6)
                        have Hi6 := Lib.hid hi6
                        clear hn0 hdot hc h8 hs hi6
                        go_wp2_with fail
                        refine (Hi46.out u _).mono ?_
                        rintro e1 w2 ⟨rfl, hw2⟩
                        subst w2
                        rw [d46]
                        go_wp2_with fail
                        refine (Hf.out t (by omega) _).mono ?_
                        rintro e1 w2 ⟨⟨hi, lo, ok, rfl, hm⟩, hw2⟩
                        subst w2
                        rw [Hi6.out] at hm
                        obtain ⟨rfl, a, b, rfl, rfl, rfl⟩ := hm
                        have ha16 : IntKind.u16.wrap (a : Int) = (a : Int) := wrap16 (hq6 a (by simp))
                        have hb16 : IntKind.u16.wrap (b : Int) = (b : Int) := wrap16 (hq6 b (by simp))
                        have l8 : (acc.length : Int) < 8 := by omega
                        have l9 : (acc.length : Int) + 1 < 8 := by omega
                        have hT2 := Lib.hid (hT.out.put acc.length a)
                        have hT3 := Lib.hid (hT2.out.put (acc.length + 1) b)
                        have hfz := hT.out.2.2.2.frozen
                        obtain ⟨c1, hc1⟩ := hT.out.2.2.2.some8 (fill8_len (by omega)) (k := acc.length) (by omega)
                        obtain ⟨c2, hc2⟩ := hT.out.2.2.2.some8 (fill8_len (by omega)) (k := acc.length + 1) (by omega)
                        have hl2 : Hid (((acc ++ [a, b]).length : Int) = (acc.length : Int) + 2) := by show _ = _; simp
                        have hT4 : Hid (Three w (fill8 (acc ++ [a, b])) ((wr.setCell ⟨w.heap.size + 1 + 1, acc.length, none⟩ (.int .u16 (a : Int))).setCell ⟨w.heap.size + 1 + 1, acc.length + 1, none⟩ (.int .u16 (b : Int)))) := by
                          have := hT3.out
                          rw [fill8_put (by omega)] at this
                          have e1 : acc.length + 1 = (acc ++ [a]).length := by simp
                          rw [e1, fill8_put (by rw [← e1]; omega), ← e1, List.append_assoc] at this
                          exact this
                        have he2 : Hid (e = encS sh ∧ ∀ i, sh = some i → 1 ≤ i ∧ i ≤ (acc ++ [a, b]).length) := ⟨he.out.1, fun i h => by
                          have := he.out.2 i h
                          rw [List.length_append]
                          omega⟩
                        clear hq6 hq2 h6 hT2 hT3
                        go_wp2
                        go_meet
                        exact ⟨acc ++ [a, b], sh, s.length, e, by rw [hl2.out], rfl, rfl, by have := hl2.out; omega, el, eu, hr.out, hT4.out, he2.out⟩
                · have d46 : decide (s[u]? = some (46 : UInt8)) = false := decide_eq_false hdot
                  by_cases hcol : s[u]? = some 58
                  ·
                    have d58 : decide (s[u]? = some (58 : UInt8)) = true := decide_eq_true hcol
                    rcases says_next hs.out hlt h8 hc hD.out hstop.out hcol with ⟨hlast, hr⟩ | ⟨hnl, hs1⟩
                    ·
                      have Hr := Lib.hid hr
                      have jl : ((u : Int) + 1 == (s.length : Int)) = true := by rw [beq_iff_eq]; omega
                      clear hr hlast hdot hcol hc h8 hs
                      go_wp2_with fail
                      refine (Hi46.out u _).mono ?_
                      rintro e1 w2 ⟨rfl, hw2⟩
                      subst w2
                      rw [d46]
                      go_wp2_with fail
                      refine (Hi58.out u _).mono ?_
                      rintro e1 w2 ⟨rfl, hw2⟩
                      subst w2
                      rw [d58]
                      go_wp2_with (first
                        | (refine wpList_load_row rfl 44 _ rfl (w.heap.size + 1) rfl 44 Z8 (0, 0) _ hT.out.2.2.1 Tryd.underlying44 rfl Tryd.size44 ?_)
                        | (refine wpList_store_row rfl 44 _ _ rfl w.heap.size Z8 rfl rfl 44 Z8 hT.out.2.1 Tryd.size44 rfl Z8_one ?_))
                      refine HQ.out _ _ Z8 rfl (setRow_heap _ _ _ Z8 44 (0, 0) hT.out.2.1) rfl ?_
                      rw [Hr.out]
                      exact ⟨rfl, below_setRow hT.out.1 (Nat.le_refl _) _⟩
                    ·
                      have hs2 := Lib.hid hs1
                      have jl : ((u : Int) + 1 == (s.length : Int)) = false := by rw [beq_eq_false_iff_ne]; omega
                      clear hs1
                      have l8 : (acc.length : Int) < 8 := by omega
                      have hfz := hT.out.2.2.2.frozen
                      obtain ⟨c1, hc1⟩ := hT.out.2.2.2.some8 (fill8_len (by omega)) (k := acc.length) (by omega)
                      have hT2 : Hid (Three w (fill8 (acc ++ [v])) (wr.setCell ⟨w.heap.size + 1 + 1, acc.length, none⟩ (.int .u16 (v : Int)))) := by
                        have := hT.out.put acc.length v
                        rw [fill8_put (by omega)] at this
                        exact this
                      have hl2 : Hid (((acc ++ [v]).length : Int) = (acc.length : Int) + 1) := by show _ = _; simp
                      have he2 : Hid (e = encS sh ∧ ∀ i, sh = some i → 1 ≤ i ∧ i ≤ (acc ++ [v]).length) := ⟨he.out.1, fun i h => by
                        have := he.out.2 i h
                        rw [List.length_append]
                        omega⟩
                      clear hdot hcol hc h8 hs
                      go_wp2_with fail
                      refine (Hi46.out u _).mono ?_
                      rintro e1 w2 ⟨rfl, hw2⟩
                      subst w2
                      rw [d46]
                      go_wp2_with fail
                      refine (Hi58.out u _).mono ?_
                      rintro e1 w2 ⟨rfl, hw2⟩
                      subst w2
                      rw [d58]
                      go_wp2
                      go_roundg (s.length - (u + 1))
                      case measure => have := hut.out; omega
                      case rel => exact ⟨acc ++ [v], sh, (u + 1), e, by rw [hl2.out], rfl, by rfl, by omega, by have := hl2.out; omega, el, eu, hs2.out, hT2.out, he2.out⟩
                  ·
                    have d58 : decide (s[u]? = some (58 : UInt8)) = false := decide_eq_false hcol
                    by_cases hul2 : u < s.length
                    ·
                      have Hr := Lib.hid (says_other hs.out hlt h8 hc hD.out hstop.out hul2 hdot hcol)
                      have jl : (u : Int) < (s.length : Int) := by omega
                      clear hul2 hdot hcol hc h8 hs
                      go_wp2_with fail
                      refine (Hi46.out u _).mono ?_
                      rintro e1 w2 ⟨rfl, hw2⟩
                      subst w2
                      rw [d46]
                      go_wp2_with fail
                      refine (Hi58.out u _).mono ?_
                      rintro e1 w2 ⟨rfl, hw2⟩
                      subst w2
                      rw [d58]
                      go_wp2_with (first
                        | (refine wpList_load_row rfl 44 _ rfl (w.heap.size + 1) rfl 44 Z8 (0, 0) _ hT.out.2.2.1 Tryd.underlying44 rfl Tryd.size44 ?_)
                        | (refine wpList_store_row rfl 44 _ _ rfl w.heap.size Z8 rfl rfl 44 Z8 hT.out.2.1 Tryd.size44 rfl Z8_one ?_))
                      refine HQ.out _ _ Z8 rfl (setRow_heap _ _ _ Z8 44 (0, 0) hT.out.2.1) rfl ?_
                      rw [Hr.out]
                      exact ⟨rfl, below_setRow hT.out.1 (Nat.le_refl _) _⟩
                    ·
                      have hs2 := Lib.hid (says_last hs.out hlt h8 hc hD.out hstop.out (by omega))
                      have jl : ¬ (u : Int) < (s.length : Int) := by omega
                      clear hul2
                      have l8 : (acc.length : Int) < 8 := by omega
                      have hfz := hT.out.2.2.2.frozen
                      obtain ⟨c1, hc1⟩ := hT.out.2.2.2.some8 (fill8_len (by omega)) (k := acc.length) (by omega)
                      have hT2 : Hid (Three w (fill8 (acc ++ [v])) (wr.setCell ⟨w.heap.size + 1 + 1, acc.length, none⟩ (.int .u16 (v : Int)))) := by
                        have := hT.out.put acc.length v
                        rw [fill8_put (by omega)] at this
                        exact this
                      have hl2 : Hid (((acc ++ [v]).length : Int) = (acc.length : Int) + 1) := by show _ = _; simp
                      have he2 : Hid (e = encS sh ∧ ∀ i, sh = some i → 1 ≤ i ∧ i ≤ (acc ++ [v]).length) := ⟨he.out.1, fun i h => by
                        have := he.out.2 i h
                        rw [List.length_append]
                        omega⟩
                      clear hdot hcol hc h8 hs
                      go_wp2_with fail
                      refine (Hi46.out u _).mono ?_
                      rintro e1 w2 ⟨rfl, hw2⟩
                      subst w2
                      rw [d46]
                      go_wp2_with fail
                      refine (Hi58.out u _).mono ?_
                      rintro e1 w2 ⟨rfl, hw2⟩
                      subst w2
                      rw [d58]
                      go_wp2
                      go_roundg (s.length - u)
                      case measure => have := hut.out; omega
                      case rel => exact ⟨acc ++ [v], sh, u, e, by rw [hl2.out], rfl, by rfl, by omega, by have := hl2.out; omega, el, eu, hs2.out, hT2.out, he2.out⟩
        · have i1 : ¬ (t : Int) < (s.length : Int) := by omega
          have hr := Lib.hid (says_end hs.out (by omega))
          clear hs
          go_wp2
          go_meet
          exact ⟨acc, sh, t, e, rfl, rfl, rfl, ha, el, eu, hr.out, hT.out, he.out⟩
    case rest =>
      clear hs0 hT0 he0 ha0 el0 eu0 ht0
      obtain ⟨acc, sh, t, e, rfl, rfl, rfl, ha, el, eu, hr, hT, he⟩ := hcut
      cases hsh : sh with
      | none =>
        have ge : ¬ (0 : Int) ≤ e := by have := he.out.1; rw [hsh] at this; simp [encS] at this; omega
        rw [hsh] at hr
        clear he hsh
        by_cases h8 : acc.length = 8
        · have j8 : ((acc.length : Int) == 8) = true := by rw [beq_iff_eq]; omega
          have j8n : ((acc.length : Int) != 8) = false := by unfold bne; rw [j8]; rfl
          have hx8 := fill8_len (show acc.length ≤ 8 by omega)
          have Hv : Hid (parse6V (refParse6 s) = .tuple #[.agg (u16V (fill8 acc)).toArray, .int .i64 0]) := by
            show _ = _
            rw [hr.out, finish_all h8]
            rfl
          clear h8 hr
          have hsz8 : (u16V (fill8 acc)).toArray.size = 8 := by rw [List.size_toArray, u16V_length]; exact hx8
          have hi44 : (Tryd.prog.info? 44).map (·.size) = some (u16V (fill8 acc)).toArray.size := by rw [hsz8]; exact Tryd.size44
          have hold : Z8.size = (u16V (fill8 acc)).toArray.size := by rw [hsz8]; rfl
          have hone : (u16V (fill8 acc)).toArray.all (fun v => v.oneCell') = true := u16V_all (fill8 acc)
          have H8 := Lib.hid hsz8
          have HI := Lib.hid hi44
          have HO := Lib.hid hold
          have H1 := Lib.hid hone
          clear hsz8 hi44 hold hone hx8
          go_wp2_with (first
            | (refine wpList_load_row rfl 44 _ rfl (w.heap.size + 1 + 1) rfl 44 (u16V (fill8 acc)).toArray (0, 0) _ hT.out.2.2.2 Tryd.underlying44 rfl HI.out ?_)
            | (refine wpList_store_row rfl 44 _ _ rfl w.heap.size (u16V (fill8 acc)).toArray rfl rfl 44 Z8 hT.out.2.1 HI.out HO.out H1.out ?_))
          refine HQ.out _ _ (u16V (fill8 acc)).toArray rfl (setRow_heap _ _ _ _ 44 (0, 0) hT.out.2.1) H8.out ?_
          exact ⟨congrArg Ending.returned Hv.out.symm, below_setRow hT.out.1 (Nat.le_refl _) _⟩
        · have j8 : ((acc.length : Int) == 8) = false := by rw [beq_eq_false_iff_ne]; omega
          have j8n : ((acc.length : Int) != 8) = true := by unfold bne; rw [j8]; rfl
          have Hr := Lib.hid (hr.out.trans (finish_short h8))
          clear hr h8
          go_wp2_with (first
            | (refine wpList_load_row rfl 44 _ rfl (w.heap.size + 1) rfl 44 Z8 (0, 0) _ hT.out.2.2.1 Tryd.underlying44 rfl Tryd.size44 ?_)
            | (refine wpList_store_row rfl 44 _ _ rfl w.heap.size Z8 rfl rfl 44 Z8 hT.out.2.1 Tryd.size44 rfl Z8_one ?_))
          refine HQ.out _ _ Z8 rfl (setRow_heap _ _ _ Z8 44 (0, 0) hT.out.2.1) rfl ?_
          rw [Hr.out]
          exact ⟨rfl, below_setRow hT.out.1 (Nat.le_refl _) _⟩
      | some i =>
        obtain ⟨hi1, hi2⟩ := he.out.2 i hsh
        obtain rfl : e = (i : Int) := by rw [he.out.1, hsh]; rfl
        have ge : (0 : Int) ≤ (i : Int) := by omega
        rw [hsh, finish_gap] at hr
        have hT1 : Hid (Three w (mid8 acc acc.length) wc) := by show Three _ _ _; rw [mid8_all]; exact hT.out
        clear he hsh hT
        go_upto_block 4 with fail
        go_cut [6, 14] from 15 (fun p q wx => (∃ a b : Int, p = .int .i64 a ∧ q = .int .i64 b) ∧ Hid (Three w (mid8 acc i) wx))
        case first =>
          go_wp2_with fail
          go_loopg [6, 14] (acc.length - i) (fun (g : Nat) p q wx => ∃ pc : Nat, p = .int .i64 (pc : Int) ∧ q = .int .i64 (g : Int) ∧ i + g ≤ acc.length ∧ Hid (pc + 1 = 8 - acc.length + (i + g)) ∧ Hid (Three w (mid8 acc (i + g)) wx))
          case atStart => exact ⟨7, rfl, congrArg (Value.int .i64) (by omega), by omega, (show 7 + 1 = 8 - acc.length + (i + (acc.length - i)) by omega), by show Three _ _ _; rw [show i + (acc.length - i) = acc.length by omega]; exact hT1.out⟩
          case round =>
            obtain ⟨pc, rfl, rfl, hig, hpc, hT2⟩ := hrel
            clear hT1
            by_cases hg : gk = 0
            · have g0 : ¬ (0 : Int) < (gk : Int) := by omega
              have hT4 : Hid (Three w (mid8 acc i) wr) := by
                have := hT2.out
                rw [hg, Nat.add_zero] at this
                exact this
              clear hg hT2
              by_cases hp0 : pc = 0
              · have p0 : ((pc : Int) == 0) = true := by rw [beq_iff_eq]; omega
                have p1 : ((pc : Int) != 0) = false := by unfold bne; rw [p0]; rfl
                clear hp0
                go_wp2
                go_meet
                exact ⟨⟨_, _, rfl, rfl⟩, hT4.out⟩
              · have p0 : ((pc : Int) == 0) = false := by rw [beq_eq_false_iff_ne]; omega
                have p1 : ((pc : Int) != 0) = true := by unfold bne; rw [p0]; rfl
                clear hp0
                go_wp2
                go_meet
                exact ⟨⟨_, _, rfl, rfl⟩, hT4.out⟩
            · have g0 : (0 : Int) < (gk : Int) := by omega
              have hpc2 := hpc.out
              obtain ⟨k, hk⟩ : ∃ k, i + gk = k + 1 := ⟨i + gk - 1, by omega⟩
              have p0 : ((pc : Int) == 0) = false := by rw [beq_eq_false_iff_ne]; omega
              have p1 : ((pc : Int) != 0) = true := by unfold bne; rw [p0]; rfl
              have hkI : (i : Int) + (gk : Int) - 1 = (k : Int) := by omega
              have l1 : (pc : Int) < 8 := by omega
              have l2 : (k : Int) < 8 := by omega
              have l3 : (1 : Int) ≤ (pc : Int) := by omega
              obtain ⟨a, b, ha', hb', hset⟩ := mid8_swap (acc := acc) (by omega) (j := i + gk) (p := pc) (by omega) (by omega) (by omega)
              rw [show i + gk - 1 = k by omega] at hb' hset
              have c1 : wr.cell? ⟨w.heap.size + 1 + 1, pc, none⟩ = some (.int .u16 (a : Int)) := hT2.out.2.2.2.cell ha'
              have c2 : wr.cell? ⟨w.heap.size + 1 + 1, k, none⟩ = some (.int .u16 (b : Int)) := hT2.out.2.2.2.cell hb'
              obtain ⟨c3v, c3⟩ := cell?_setCell_some (w := wr) (p := ⟨w.heap.size + 1 + 1, pc, none⟩) (x := .int .u16 (b : Int)) (q := ⟨w.heap.size + 1 + 1, k, none⟩) (v := .int .u16 (b : Int)) (by go_simp)
              have hT5 : Hid (Three w (mid8 acc k) ((wr.setCell ⟨w.heap.size + 1 + 1, pc, none⟩ (.int .u16 (b : Int))).setCell ⟨w.heap.size + 1 + 1, k, none⟩ (.int .u16 (a : Int)))) := by
                have := (hT2.out.put pc b).put k a
                rw [hset] at this
                exact this
              have hfz := hT2.out.2.2.2.frozen
              have Hk := Lib.hid hk
              clear hg hT2 ha' hb' hset hpc2 hk
              go_wp2
              go_region
              go_wp2
              go_roundg (gk - 1)
              case measure => omega
              case rel =>
                have hk2 := Hk.out
                have hpc2 := hpc.out
                exact ⟨pc - 1, congrArg (Value.int .i64) (by omega), congrArg (Value.int .i64) (by omega), by omega, (show pc - 1 + 1 = 8 - acc.length + (i + (gk - 1)) by omega), by show Three _ _ _; rw [show i + (gk - 1) = k by omega]; exact hT5.out.drew⟩
        case rest =>
          obtain ⟨⟨a, b, rfl, rfl⟩, hT3⟩ := hcut
          have hx8 := mid8_len (show acc.length ≤ 8 by omega) i
          have Hv : Hid (parse6V (refParse6 s) = .tuple #[.agg (u16V (mid8 acc i)).toArray, .int .i64 0]) := by
            show _ = _
            rw [hr.out]
            rfl
          clear hr
          have hsz8 : (u16V (mid8 acc i)).toArray.size = 8 := by rw [List.size_toArray, u16V_length]; exact hx8
          have hi44 : (Tryd.prog.info? 44).map (·.size) = some (u16V (mid8 acc i)).toArray.size := by rw [hsz8]; exact Tryd.size44
          have hold : Z8.size = (u16V (mid8 acc i)).toArray.size := by rw [hsz8]; rfl
          have hone : (u16V (mid8 acc i)).toArray.all (fun v => v.oneCell') = true := u16V_all (mid8 acc i)
          have H8 := Lib.hid hsz8
          have HI := Lib.hid hi44
          have HO := Lib.hid hold
          have H1 := Lib.hid hone
          clear hsz8 hi44 hold hone hx8
          go_wp2_with (first
            | (refine wpList_load_row rfl 44 _ rfl (w.heap.size + 1 + 1) rfl 44 (u16V (mid8 acc i)).toArray (0, 0) _ hT3.out.2.2.2 Tryd.underlying44 rfl HI.out ?_)
            | (refine wpList_store_row rfl 44 _ _ rfl w.heap.size (u16V (mid8 acc i)).toArray rfl rfl 44 Z8 hT3.out.2.1 HI.out HO.out H1.out ?_))
          refine HQ.out _ _ (u16V (mid8 acc i)).toArray rfl (setRow_heap _ _ _ _ 44 (0, 0) hT3.out.2.1) H8.out ?_
          exact ⟨congrArg Ending.returned Hv.out.symm, below_setRow hT3.out.1 (Nat.le_refl _) _⟩
/-- The reference's Parse at any text: it says the same. -/
theorem refParse6_any (s : List UInt8) (hl : s.length ≤ 100000) (w : World) :
    Calls Tryd.prog 31 #[.string ⟨s.toArray⟩] w fun e w' => e = .returned (parse6V (parse6 s)) ∧ Below w.heap.size w w' := by
  rw [← refParse6_is]
  exact refParse6_walk s hl w
#print axioms refParse6_any
end Go.Proofs.YtmobeppmdakjmaaDoor
