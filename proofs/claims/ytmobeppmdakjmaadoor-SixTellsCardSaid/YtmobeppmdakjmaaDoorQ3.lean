/- Words on addresses of eight pieces: when two are equal. Walk: six.Show: an address as it is shown. -/
import Derived.Test.YtmobeppmdakjmaaDoorQ2
import Derived.ChangeKeysEq
import Derived.Laws.StructEq
import Derived.IntWalk
namespace Go.Proofs.YtmobeppmdakjmaaDoor
open Go.RowKit

set_option maxHeartbeats 2000000 in
set_option maxRecDepth 100000 in
theorem equal8 (a b c d e f g i a' b' c' d' e' f' g' i' : Int) (w : World) :
    (Op.equalIn 10000 44 (.agg #[.int .u16 a, .int .u16 b, .int .u16 c, .int .u16 d, .int .u16 e, .int .u16 f, .int .u16 g, .int .u16 i]) (.agg #[.int .u16 a', .int .u16 b', .int .u16 c', .int .u16 d', .int .u16 e', .int .u16 f', .int .u16 g', .int .u16 i'])).run Tryd.prog w
      = .ok (a == a' && (b == b' && (c == c' && (d == d' && (e == e' && (f == f' && (g == g' && i == i'))))))) w := by
  have hinfo : ∃ q, Tryd.prog.info? 43 = some q := by
    have : (Tryd.prog.info? 43).isSome = true := by kernel_rfl
    exact Option.isSome_iff_exists.1 this
  obtain ⟨q, hq⟩ := hinfo
  have hc : Tryd.prog.cellsOf 43 = 1 := by kernel_rfl
  rw [show (10000 : Nat) = 9999 + 1 from rfl, run_equalIn_array w 9999 _ _ Tryd.underlying44 hq, hc]
  have hk : Tryd.prog.plainKey 43 = true := by kernel_rfl
  have hp : ∀ (xs : Array Value) (off : Nat) (v : Value) (W : World), xs[off]? = some v → (part 43 xs off).run Tryd.prog W = .ok v W := fun xs off v W h => run_part_plain W hk h
  have he : ∀ (m n : Int) (W : World), (Op.equalIn 9999 43 (.int .u16 m) (.int .u16 n)).run Tryd.prog W = .ok (m == n) W := fun m n W => run_equalIn_int W 9998 43 .u16 .u16 m n Tryd.underlying43
  have hr : List.range 8 = [0, 1, 2, 3, 4, 5, 6, 7] := rfl
  rw [hr]
  have step : ∀ (xs ys : Array Value) (j : Nat) (m n : Int) (is : List Nat) (W : World) (r : Bool), xs[j]? = some (.int .u16 m) → ys[j]? = some (.int .u16 n) → (Op.eqItems 9999 43 1 xs ys is).run Tryd.prog W = .ok r W →
      (Op.eqItems 9999 43 1 xs ys (j :: is)).run Tryd.prog W = .ok (m == n && r) W := by
    intro xs ys j m n is W r h1 h2 h3
    simp only [Op.eqItems, Sem.run_bind, Nat.mul_one, hp xs j _ _ h1, hp ys j _ _ h2, he, Result.andThen_ok]
    cases hmn : (m == n)
    · simp
    · simpa using h3
  refine step _ _ 0 _ _ _ w _ rfl rfl (step _ _ 1 _ _ _ w _ rfl rfl (step _ _ 2 _ _ _ w _ rfl rfl (step _ _ 3 _ _ _ w _ rfl rfl (step _ _ 4 _ _ _ w _ rfl rfl (step _ _ 5 _ _ _ w _ rfl rfl (step _ _ 6 _ _ _ w _ rfl rfl ?_))))))
  have := step #[.int .u16 a, .int .u16 b, .int .u16 c, .int .u16 d, .int .u16 e, .int .u16 f, .int .u16 g, .int .u16 i] #[.int .u16 a', .int .u16 b', .int .u16 c', .int .u16 d', .int .u16 e', .int .u16 f', .int .u16 g', .int .u16 i'] 7 _ _ [] w true rfl rfl (by simp [Op.eqItems])
  rw [Bool.and_true] at this
  exact this
/-- Two addresses are equal just if all their pieces are. -/
theorem equal8_list (x y : List Nat) (hx : x.length = 8) (hy : y.length = 8) (w : World) : (Op.equalIn 10000 44 (.agg (u16V x).toArray) (.agg (u16V y).toArray)).run Tryd.prog w = .ok (decide (x = y)) w := by
  obtain ⟨a, b, c, d, e, f, g, i, rfl⟩ := eight hx
  obtain ⟨a', b', c', d', e', f', g', i', rfl⟩ := eight hy
  refine (equal8 _ _ _ _ _ _ _ _ _ _ _ _ _ _ _ _ w).trans ?_
  congr 1
  rw [Bool.eq_iff_iff]
  simp
  omega
#print axioms equal8
end Go.Proofs.YtmobeppmdakjmaaDoor
namespace Go.Proofs.YtmobeppmdakjmaaDoor
open Go.RowKit

theorem runFrom_bound : ∀ (l : List Nat) (i : Nat) (am : Nat × Nat), am.1 + am.2 ≤ i + l.length → (runFrom i am l).1 + (runFrom i am l).2 ≤ i + l.length
  | [], i, am, h => by simpa [runFrom] using h
  | n :: t, i, am, h => by
    rw [runFrom]
    have hl := noughts_le (n :: t)
    have h2 : (if am.2 < noughts (n :: t) ∧ 1 < noughts (n :: t) then (i, noughts (n :: t)) else am).1 + (if am.2 < noughts (n :: t) ∧ 1 < noughts (n :: t) then (i, noughts (n :: t)) else am).2 ≤ (i + 1) + t.length := by
      simp only [List.length_cons] at h hl
      split
      · simp only; omega
      · omega
    have := runFrom_bound t (i + 1) _ h2
    simp only [List.length_cons]
    omega
theorem run6_bound {x : List Nat} (h : x.length = 8) : (run6 x).1 + (run6 x).2 ≤ 8 := by
  have := runFrom_bound x 0 (0, 0) (by omega)
  unfold run6
  omega
theorem cat6 (a b : List UInt8) : (⟨a.toArray⟩ : ByteArray) ++ ⟨b.toArray⟩ = ⟨(a ++ b).toArray⟩ := by
  apply ByteArray.ext
  simp
theorem joined_part (x : List Nat) (h8 : x.length = 8) (hx : ∀ n ∈ x, n < 65536) (N off n c : Nat) (h1 : off + n ≤ 8) (_h2 : n ≤ c) (w : World) (B : Nat) (hB : B ≤ w.heap.size) (hrd : Rd w B (some ⟨N, 0, none⟩) (u16V x)) (ho : Ok6 w) :
    Calls Tryd.prog 66 #[.slice (some ⟨N, off, none⟩) n c] w fun e w' => e = .returned (.string ⟨(joinH ((x.drop off).take n)).toArray⟩) ∧ Below w.heap.size w w' := by
  have hl : ((x.drop off).take n).length = n := by rw [List.length_take, List.length_drop]; omega
  have hr : Rd w B (some ⟨N, off, none⟩) (u16V ((x.drop off).take n)) := by
    intro k u hu
    rw [u16V, List.getElem?_map, Option.map_eq_some_iff] at hu
    obtain ⟨m, hm, rfl⟩ := hu
    rw [List.getElem?_take] at hm
    split at hm
    · rw [List.getElem?_drop] at hm
      obtain ⟨b, o, e, hb, hc⟩ := hrd (off + k) _ (u16V_get hm)
      injection e with e
      injection e with e1 e2 _
      subst e1 e2
      exact ⟨N, off, rfl, hb, by rw [Nat.zero_add] at hc; exact hc⟩
    · cases hm
  have := joined_any ((x.drop off).take n) (fun m hm => hx m (List.mem_of_mem_drop (List.mem_of_mem_take hm))) (by omega) (some ⟨N, off, none⟩) c w B hB hr ho
  rwa [hl] at this
set_option maxHeartbeats 4000000 in
set_option maxRecDepth 100000 in
theorem show6_any (x : List Nat) (h8 : x.length = 8) (hx : ∀ n ∈ x, n < 65536) (w : World) (ho : Ok6 w) :
    Calls Tryd.prog 34 #[addrV x] w fun e w' => e = .returned (.string ⟨(show6 x).toArray⟩) ∧ Below w.heap.size w w' := by
  have Hr := Lib.hid (fun W => run_any x h8 hx W)
  have hrb := run6_bound h8
  obtain ⟨am, ham⟩ : ∃ am, run6 x = am := ⟨_, rfl⟩
  obtain ⟨p, q⟩ := am
  rw [ham] at Hr hrb
  have Ham := Lib.hid ham
  have Hrd := Lib.hid (rd_new w (u16V x) 44)
  have hb0 : Below w.heap.size w (w.alloc (.cells (u16V x).toArray 44)) := (Below.refl _ w).alloc (Nat.le_refl _) _
  have Hb0 := Lib.hid hb0
  obtain ⟨a, b, c, d, e, f, g, i, hxe⟩ := eight h8
  have Hxe := Lib.hid hxe
  have hcells : (u16V x).toArray = #[.int .u16 (a : Int), .int .u16 (b : Int), .int .u16 (c : Int), .int .u16 (d : Int), .int .u16 (e : Int), .int .u16 (f : Int), .int .u16 (g : Int), .int .u16 (i : Int)] := by rw [hxe]; rfl
  rw [addrV, hcells] at Hr
  rw [addrV, hcells]
  rw [hcells] at Hrd Hb0
  have Ho := Lib.hid (ho.below hb0)
  rw [hcells] at Ho
  have Hx := Lib.hid hx
  clear hxe hcells hb0 ham ho hx
  go_enter Tryd.func34, Tryd.ntmps34
  generalize hW : w.alloc (.cells #[.int .u16 (a : Int), .int .u16 (b : Int), .int .u16 (c : Int), .int .u16 (d : Int), .int .u16 (e : Int), .int .u16 (f : Int), .int .u16 (g : Int), .int .u16 (i : Int)] 44) = W at *
  have HW := Lib.hid hW
  clear hW
  go_wp2_with fail
  rw [HW.out]
  refine (Hr.out _).mono ?_
  rintro e' w1 ⟨rfl, hc⟩
  have hrd1 := Lib.hid (show Rd w1 (w.heap.size + 1) (some ⟨w.heap.size, 0, none⟩) (u16V x) from Hrd.out.keep (fun p hp => hc.cell (by rw [← HW.out]; simpa using hp)))
  have ho1 := Lib.hid (Ho.out.below hc)
  have hb1 := Hb0.out.trans (hc.mono Hb0.out.size)
  have hl : w.heap.size < w1.heap.size := by
    have := hc.size
    have h2 : W.heap.size = w.heap.size + 1 := by rw [← HW.out]; simp
    omega
  have hat : ∀ (j n : Nat), x[j]? = some n → w1.cell? ⟨w.heap.size, j, none⟩ = some (.int .u16 (n : Int)) := fun j n h => by
    have := hrd1.out.cell (u16V_get h)
    rwa [Nat.zero_add] at this
  have c0 := hat 0 a (by rw [Hxe.out]; rfl)
  have c1 := hat 1 b (by rw [Hxe.out]; rfl)
  have c2 := hat 2 c (by rw [Hxe.out]; rfl)
  have c3 := hat 3 d (by rw [Hxe.out]; rfl)
  have c4 := hat 4 e (by rw [Hxe.out]; rfl)
  have c5 := hat 5 f (by rw [Hxe.out]; rfl)
  have c6 := hat 6 g (by rw [Hxe.out]; rfl)
  have c7 := hat 7 i (by rw [Hxe.out]; rfl)
  have heq : ∀ V, (Op.equalIn 10000 44 (.agg #[.int .u16 (a : Int), .int .u16 (b : Int), .int .u16 (c : Int), .int .u16 (d : Int), .int .u16 (e : Int), .int .u16 (f : Int), .int .u16 (g : Int), .int .u16 (i : Int)]) (.agg #[.int .u16 0, .int .u16 0, .int .u16 0, .int .u16 0, .int .u16 0, .int .u16 0, .int .u16 0, .int .u16 0])).run Tryd.prog V = .ok (decide (x = [0, 0, 0, 0, 0, 0, 0, 0])) V := by
    intro V
    have := equal8_list x [0, 0, 0, 0, 0, 0, 0, 0] h8 rfl V
    rw [Hxe.out] at this
    rw [Hxe.out]
    exact this
  clear hat hc Hrd Hb0 Ho Hr
  by_cases hz : x = [0, 0, 0, 0, 0, 0, 0, 0]
  · rw [decide_eq_true hz] at heq
    have hs : Hid (show6 x = [58, 58]) := by show _ = _; unfold show6; rw [if_pos hz]
    clear hz
    go_wp2
    go_ret
    rw [hs.out]
    exact ⟨rfl, hb1⟩
  · rw [decide_eq_false hz] at heq
    have Hz := Lib.hid hz
    clear hz
    by_cases hq0 : q = 0
    · have hs : Hid (show6 x = joinH x) := by
        show _ = _
        unfold show6
        rw [if_neg Hz.out, Ham.out, if_pos hq0]
      subst hq0
      have HJ := Lib.hid (joined_any x Hx.out (by omega) (some ⟨w.heap.size, 0, none⟩) 8 w1 (w.heap.size + 1) hl hrd1.out ho1.out)
      rw [h8] at HJ
      go_wp2_with fail
      refine HJ.out.mono ?_
      rintro e' w2 ⟨rfl, hc⟩
      go_wp2
      go_ret
      rw [hs.out]
      exact ⟨rfl, hb1.trans (hc.mono hb1.size)⟩
    · have hs : Hid (show6 x = joinH (x.take p) ++ [58, 58] ++ joinH (x.drop (p + q))) := by
        show _ = _
        unfold show6
        rw [if_neg Hz.out, Ham.out, if_neg hq0]
      have f0 : ((q : Int) == 0) = false := by rw [beq_eq_false_iff_ne]; omega
      have f1 : (p : Int) ≤ 8 := by omega
      have f2 : IntKind.i64.wrap ((p : Int) + (q : Int)) = ((p + q : Nat) : Int) := by rw [IntWalk.i64_in _ (by omega)]; omega
      have f3 : ((p + q : Nat) : Int) ≤ 8 := by omega
      have HP := Lib.hid (fun V (hv : Below w1.heap.size w1 V) off n c h1 h2 => joined_part x h8 Hx.out w.heap.size off n c h1 h2 V (w.heap.size + 1) (Nat.le_trans hl hv.size) (hrd1.out.keep (fun p hp => hv.cell (by omega))) (ho1.out.below hv))
      obtain ⟨t1, ht1⟩ : ∃ t, joinH ((x.drop 0).take p) = t := ⟨_, rfl⟩
      have hx1 := Lib.hid (fun V hv => HP.out V hv 0 p 8 (by omega) (by omega))
      rw [ht1] at hx1
      have hs1 := size_str t1
      have hl1 : t1.length ≤ 1000 := by rw [← ht1]; exact joinH_len _ (fun m hm => Hx.out m (List.mem_of_mem_drop (List.mem_of_mem_take hm))) (by rw [List.length_take, List.length_drop]; omega)
      obtain ⟨t2, ht2⟩ : ∃ t, joinH (x.drop (p + q)) = t := ⟨_, rfl⟩
      have hs2 := size_str t2
      have hl2 : t2.length ≤ 1000 := by rw [← ht2]; exact joinH_len _ (fun m hm => Hx.out m (List.mem_of_mem_drop hm)) (by rw [List.length_drop]; omega)
      have hs3 := size_str (t1 ++ [58, 58])
      have hcat1 : (⟨t1.toArray⟩ : ByteArray) ++ ⟨#[58, 58]⟩ = ⟨(t1 ++ [58, 58]).toArray⟩ := cat6 t1 [58, 58]
      have hcat2 : (⟨(t1 ++ [58, 58]).toArray⟩ : ByteArray) ++ ⟨t2.toArray⟩ = ⟨(t1 ++ [58, 58] ++ t2).toArray⟩ := cat6 _ _
      rw [List.drop_zero] at ht1
      rw [ht1, ht2] at hs
      have Ht2 := Lib.hid ht2
      clear ht1 ht2
      by_cases hpq : p + q = 8
      · have f4 : ((p : Int) + (q : Int)) = 8 := by omega
        have f5 : IntKind.i64.wrap 8 = 8 := by decide
        clear f2 f3
        have hx2 := Lib.hid (fun V hv => HP.out V hv 0 0 0 (by omega) (by omega))
        rw [show joinH ((x.drop 0).take 0) = t2 from by rw [← Ht2.out, List.drop_of_length_le (show x.length ≤ p + q by omega)]; rfl] at hx2
        go_wp2
        clear c0 c1 c2 c3 c4 c5 c6 c7 heq
        go_region_with (go_at_call 66; first | (refine (hx2.out w2 (((Below.refl _ _).drew).trans hc2)).mono ?_; rintro e2 w3 ⟨rfl, hc3⟩) | (refine (hx1.out w1.drew ((Below.refl _ _).drew)).mono ?_; rintro e1 w2 ⟨rfl, hc2⟩))
        all_goals
          have hb3 := (((hb1.drew).trans (hc2.mono hb1.size)).trans (hc3.mono (Nat.le_trans hb1.size hc2.size)))
          go_wp2
          go_ret
          rw [hs.out, List.append_assoc]
          exact ⟨rfl, hb3⟩
      · have hx2 := Lib.hid (fun V hv => HP.out V hv (p + q) (8 - (p + q)) (8 - (p + q)) (by omega) (by omega))
        rw [show (x.drop (p + q)).take (8 - (p + q)) = x.drop (p + q) from List.take_of_length_le (by rw [List.length_drop]; omega), Ht2.out] at hx2
        have f6 : ¬ (8 : Nat) = p + q := by omega
        have f7 : (0 : Int) ≤ (p : Int) + (q : Int) := by omega
        have f8 : (p : Int) + (q : Int) ≤ 8 := by omega
        have f9 : ((p : Int) + (q : Int)).toNat = p + q := by omega
        go_wp2
        clear c0 c1 c2 c3 c4 c5 c6 c7 heq
        go_region_with (go_at_call 66; first | (refine (hx2.out w2 (((Below.refl _ _).drew).trans hc2)).mono ?_; rintro e2 w3 ⟨rfl, hc3⟩) | (refine (hx1.out w1.drew ((Below.refl _ _).drew)).mono ?_; rintro e1 w2 ⟨rfl, hc2⟩))
        all_goals
          have hb3 := (((hb1.drew).trans (hc2.mono hb1.size)).trans (hc3.mono (Nat.le_trans hb1.size hc2.size)))
          go_wp2
          go_ret
          rw [hs.out, List.append_assoc]
          exact ⟨rfl, hb3⟩
#print axioms show6_any
end Go.Proofs.YtmobeppmdakjmaaDoor
