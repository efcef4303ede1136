/- Law: SixBack answers true at every two addresses. (Printed by sixback.py.) -/
import Derived.Test.YtmobeppmdakjmaaDoorQD
import Derived.Test.YtmobeppmdakjmaaDoorR2
import Derived.Deep.RegionHeld3
namespace Go.Proofs.YtmobeppmdakjmaaDoor
open Go.RowKit

theorem show6_low (x : List Nat) : ∀ b ∈ show6 x, b.toNat < 128 := by
  have hd : ∀ (n : Nat), ∀ b ∈ hexOf n, b.toNat < 128 := by
    intro n b hb
    have h := digs_digits 14 (by omega) n
    unfold digitsB at h
    rw [List.all_eq_true] at h
    have := h b hb
    simp only [decide_eq_true_eq] at this
    unfold worth at this
    split at this
    · omega
    · split at this
      · omega
      · split at this
        · omega
        · omega
  have hj : ∀ (l : List Nat), ∀ b ∈ joinH l, b.toNat < 128 := by
    intro l
    induction l with
    | nil => intro b hb; cases hb
    | cons n t ih =>
      intro b hb
      cases t with
      | nil =>
        have e : joinH [n] = hexOf n := by unfold joinH; rw [List.map_cons, List.map_nil, Lib.join_one]
        rw [e] at hb
        exact hd n b hb
      | cons m t =>
        have e : joinH (n :: m :: t) = hexOf n ++ 58 :: joinH (m :: t) := by unfold joinH; rw [List.map_cons, List.map_cons, join_cons2]
        rw [e] at hb
        rcases List.mem_append.1 hb with hb | hb
        · exact hd n b hb
        · rcases List.mem_cons.1 hb with rfl | hb
          · decide
          · exact ih b hb
  intro b hb
  unfold show6 at hb
  split at hb
  · simp only [List.mem_cons, List.not_mem_nil, or_false, or_self] at hb
    rw [hb]; decide
  · split at hb
    · exact hj _ b hb
    · rcases List.mem_append.1 hb with hb | hb
      · rcases List.mem_append.1 hb with hb | hb
        · exact hj _ b hb
        · simp only [List.mem_cons, List.not_mem_nil, or_false, or_self] at hb
          rw [hb]; decide
      · exact hj _ b hb
theorem upper_any (s : List UInt8) (hl : s.length ≤ 100000) (ha : ∀ b ∈ s, b.toNat < 128) (w : World) :
    Calls Tryd.prog 45 #[.string ⟨s.toArray⟩] w fun e w' => e = .returned (.string ⟨(up s).toArray⟩) ∧ Below w.heap.size w w' :=
  Tryd.strings_ToUpper_ascii ⟨s.toArray⟩ w (by rw [size_str]; omega) (fun j b h => ha b (List.mem_of_getElem? h))
theorem sixteen {N : Nat} {V : World} {a b c d e f g i a' b' c' d' e' f' g' i' : Int} (h : V.heap[N]? = some (.cells #[.int .u16 a, .int .u16 b, .int .u16 c, .int .u16 d, .int .u16 e, .int .u16 f, .int .u16 g, .int .u16 i] 44 (0, 0)))
    (k : V.heap[N + 1]? = some (.cells #[.int .u16 a', .int .u16 b', .int .u16 c', .int .u16 d', .int .u16 e', .int .u16 f', .int .u16 g', .int .u16 i'] 44 (0, 0))) : V.cell? ⟨N, 0, none⟩ = some (.int .u16 a) ∧ V.cell? ⟨N, 1, none⟩ = some (.int .u16 b) ∧ V.cell? ⟨N, 2, none⟩ = some (.int .u16 c) ∧ V.cell? ⟨N, 3, none⟩ = some (.int .u16 d) ∧ V.cell? ⟨N, 4, none⟩ = some (.int .u16 e) ∧ V.cell? ⟨N, 5, none⟩ = some (.int .u16 f) ∧ V.cell? ⟨N, 6, none⟩ = some (.int .u16 g) ∧ V.cell? ⟨N, 7, none⟩ = some (.int .u16 i) ∧ V.cell? ⟨N + 1, 0, none⟩ = some (.int .u16 a') ∧ V.cell? ⟨N + 1, 1, none⟩ = some (.int .u16 b') ∧ V.cell? ⟨N + 1, 2, none⟩ = some (.int .u16 c') ∧ V.cell? ⟨N + 1, 3, none⟩ = some (.int .u16 d') ∧ V.cell? ⟨N + 1, 4, none⟩ = some (.int .u16 e') ∧ V.cell? ⟨N + 1, 5, none⟩ = some (.int .u16 f') ∧ V.cell? ⟨N + 1, 6, none⟩ = some (.int .u16 g') ∧ V.cell? ⟨N + 1, 7, none⟩ = some (.int .u16 i') := by
  obtain ⟨c0, c1, c2, c3, c4, c5, c6, c7⟩ := cells8 h
  obtain ⟨d0, d1, d2, d3, d4, d5, d6, d7⟩ := cells8 k
  exact ⟨c0, c1, c2, c3, c4, c5, c6, c7, d0, d1, d2, d3, d4, d5, d6, d7⟩
set_option maxHeartbeats 16000000 in
set_option maxRecDepth 100000 in
theorem sixBack_true (x y : List Nat) (h8 : x.length = 8) (hx : ∀ n ∈ x, n < 65536) (g8 : y.length = 8) (hy : ∀ n ∈ y, n < 65536) (w : World) (ho : Ok6 w) :
    Calls Tryd.prog 11 #[addrV x, addrV y] w fun e w' => e = .returned (.bool true) ∧ Below w.heap.size w w' := by
  have hlen := show6_len h8 hx
  have x1 := Lib.hid (fun W h => show6_any x h8 hx W h)
  have x2 := Lib.hid (fun W h => says6_true (show6 x) x (parse6_show6 h8 hx) (by omega) W h)
  have x3 := Lib.hid (fun W => upper_any (show6 x) (by omega) (show6_low x) W)
  have x4 := Lib.hid (fun W h => says6_true (up (show6 x)) x (parse6_upper h8 hx) (by unfold up; rw [List.length_map]; omega) W h)
  have x5 := Lib.hid (fun W h => show6_any y g8 hy W h)
  have x9 := Lib.hid (fun W h => awake6_true W h)
  have hxy : ∃ q : Bool, (show6 y == show6 x) = q ∧ decide (x = y) = q := by
    by_cases h : x = y
    · exact ⟨true, by rw [h]; simp, by rw [h]; simp⟩
    · exact ⟨false, by rw [beq_eq_false_iff_ne]; exact fun e => h (show6_inj h8 hx g8 hy e), decide_eq_false h⟩
  obtain ⟨bq, q1, q2⟩ := hxy
  have heq : ∀ V, (Op.equalIn 10000 44 (.agg (u16V x).toArray) (.agg (u16V y).toArray)).run Tryd.prog V = .ok bq V := fun V => by rw [← q2]; exact equal8_list x y h8 g8 V
  have hl2 : (2 : Int) ≤ ((show6 x).length : Int) := by omega
  have hl39 : ((show6 x).length : Int) ≤ 39 := by omega
  have hsz := size_str (show6 x)
  generalize show6 x = s at *
  generalize show6 y = s' at *
  generalize up s = u at *
  clear hlen q2
  have hb0 : Below w.heap.size w ((w.alloc (.cells (u16V x).toArray 44)).alloc (.cells (u16V y).toArray 44)) := ((Below.refl _ w).alloc (Nat.le_refl _) _).alloc (by simp) _
  have ho0 := Lib.hid (ho.below hb0)
  have HX0 : Hid (((w.alloc (.cells (u16V x).toArray 44)).alloc (.cells (u16V y).toArray 44)).heap[w.heap.size]? = some (.cells (u16V x).toArray 44 (0, 0))) := (Below.heap_alloc _ _ _ (by simp)).trans (World.alloc_heap_new w _)
  have HY0 : Hid (((w.alloc (.cells (u16V x).toArray 44)).alloc (.cells (u16V y).toArray 44)).heap[w.heap.size + 1]? = some (.cells (u16V y).toArray 44 (0, 0))) := by
    have := World.alloc_heap_new (w.alloc (.cells (u16V x).toArray 44)) (.cells (u16V y).toArray 44)
    rw [World.size_alloc] at this
    exact this
  obtain ⟨a, b, c, d, e, f, g, i, hxe⟩ := eight h8
  obtain ⟨a', b', c', d', e', f', g', i', hye⟩ := eight g8
  have hcx : (u16V x).toArray = #[.int .u16 (a : Int), .int .u16 (b : Int), .int .u16 (c : Int), .int .u16 (d : Int), .int .u16 (e : Int), .int .u16 (f : Int), .int .u16 (g : Int), .int .u16 (i : Int)] := by rw [hxe]; rfl
  have hcy : (u16V y).toArray = #[.int .u16 (a' : Int), .int .u16 (b' : Int), .int .u16 (c' : Int), .int .u16 (d' : Int), .int .u16 (e' : Int), .int .u16 (f' : Int), .int .u16 (g' : Int), .int .u16 (i' : Int)] := by rw [hye]; rfl
  unfold addrV at *
  rw [hcx, hcy] at heq hb0 ho0 HX0 HY0 ⊢
  rw [hcx] at x1 x2 x4
  rw [hcy] at x5
  clear hxe hye hcx hcy ho h8 hx g8 hy
  go_enter Tryd.func11, Tryd.ntmps11
  generalize hW : (w.alloc (.cells #[.int .u16 (a : Int), .int .u16 (b : Int), .int .u16 (c : Int), .int .u16 (d : Int), .int .u16 (e : Int), .int .u16 (f : Int), .int .u16 (g : Int), .int .u16 (i : Int)] 44)).alloc (.cells #[.int .u16 (a' : Int), .int .u16 (b' : Int), .int .u16 (c' : Int), .int .u16 (d' : Int), .int .u16 (e' : Int), .int .u16 (f' : Int), .int .u16 (g' : Int), .int .u16 (i' : Int)] 44) = W at *
  have HW := Lib.hid hW
  clear hW
  go_wp2_with fail
  rw [HW.out]
  refine (x1.out W ho0.out).mono ?_
  rintro e1 w1 ⟨rfl, hc⟩
  have HX1 : Hid (w1.heap[w.heap.size]? = some (.cells #[.int .u16 (a : Int), .int .u16 (b : Int), .int .u16 (c : Int), .int .u16 (d : Int), .int .u16 (e : Int), .int .u16 (f : Int), .int .u16 (g : Int), .int .u16 (i : Int)] 44 (0, 0))) := (hc.block _ (Array.getElem?_eq_some_iff.1 HX0.out).1).trans HX0.out
  have HY1 : Hid (w1.heap[w.heap.size + 1]? = some (.cells #[.int .u16 (a' : Int), .int .u16 (b' : Int), .int .u16 (c' : Int), .int .u16 (d' : Int), .int .u16 (e' : Int), .int .u16 (f' : Int), .int .u16 (g' : Int), .int .u16 (i' : Int)] 44 (0, 0))) := (hc.block _ (Array.getElem?_eq_some_iff.1 HY0.out).1).trans HY0.out
  have ho1 := Lib.hid (ho0.out.below hc)
  have hb1 := hb0.trans (hc.mono hb0.size)
  clear hc hb0 ho0 HX0 HY0
  go_wp2_with fail
  go_region_held3 (fun w' => w'.cell? ⟨w.heap.size, 0, none⟩ = some (.int .u16 (a : Int)) ∧ w'.cell? ⟨w.heap.size, 1, none⟩ = some (.int .u16 (b : Int)) ∧ w'.cell? ⟨w.heap.size, 2, none⟩ = some (.int .u16 (c : Int)) ∧ w'.cell? ⟨w.heap.size, 3, none⟩ = some (.int .u16 (d : Int)) ∧ w'.cell? ⟨w.heap.size, 4, none⟩ = some (.int .u16 (e : Int)) ∧ w'.cell? ⟨w.heap.size, 5, none⟩ = some (.int .u16 (f : Int)) ∧ w'.cell? ⟨w.heap.size, 6, none⟩ = some (.int .u16 (g : Int)) ∧ w'.cell? ⟨w.heap.size, 7, none⟩ = some (.int .u16 (i : Int)) ∧ w'.cell? ⟨w.heap.size + 1, 0, none⟩ = some (.int .u16 (a' : Int)) ∧ w'.cell? ⟨w.heap.size + 1, 1, none⟩ = some (.int .u16 (b' : Int)) ∧ w'.cell? ⟨w.heap.size + 1, 2, none⟩ = some (.int .u16 (c' : Int)) ∧ w'.cell? ⟨w.heap.size + 1, 3, none⟩ = some (.int .u16 (d' : Int)) ∧ w'.cell? ⟨w.heap.size + 1, 4, none⟩ = some (.int .u16 (e' : Int)) ∧ w'.cell? ⟨w.heap.size + 1, 5, none⟩ = some (.int .u16 (f' : Int)) ∧ w'.cell? ⟨w.heap.size + 1, 6, none⟩ = some (.int .u16 (g' : Int)) ∧ w'.cell? ⟨w.heap.size + 1, 7, none⟩ = some (.int .u16 (i' : Int)))
    (first | exact sixteen HX6.out HY6.out | exact sixteen HX5.out HY5.out | exact sixteen HX4.out HY4.out | exact sixteen HX3.out HY3.out | exact sixteen HX2.out HY2.out | exact sixteen HX1.out HY1.out)
    (first
      | (go_at_call 29; refine (x9.out w5 ho5.out).mono ?_; rintro e6 w6 ⟨rfl, hc⟩; have HX6 : Hid (w6.heap[w.heap.size]? = some (.cells #[.int .u16 (a : Int), .int .u16 (b : Int), .int .u16 (c : Int), .int .u16 (d : Int), .int .u16 (e : Int), .int .u16 (f : Int), .int .u16 (g : Int), .int .u16 (i : Int)] 44 (0, 0))) := (hc.block _ (Array.getElem?_eq_some_iff.1 HX5.out).1).trans HX5.out; have HY6 : Hid (w6.heap[w.heap.size + 1]? = some (.cells #[.int .u16 (a' : Int), .int .u16 (b' : Int), .int .u16 (c' : Int), .int .u16 (d' : Int), .int .u16 (e' : Int), .int .u16 (f' : Int), .int .u16 (g' : Int), .int .u16 (i' : Int)] 44 (0, 0))) := (hc.block _ (Array.getElem?_eq_some_iff.1 HY5.out).1).trans HY5.out; have ho6 := Lib.hid (ho5.out.below hc); have hb6 := hb5.trans (hc.mono hb5.size); clear hc)
      | (go_at_call 34; refine (x5.out w4 ho4.out).mono ?_; rintro e5 w5 ⟨rfl, hc⟩; have HX5 : Hid (w5.heap[w.heap.size]? = some (.cells #[.int .u16 (a : Int), .int .u16 (b : Int), .int .u16 (c : Int), .int .u16 (d : Int), .int .u16 (e : Int), .int .u16 (f : Int), .int .u16 (g : Int), .int .u16 (i : Int)] 44 (0, 0))) := (hc.block _ (Array.getElem?_eq_some_iff.1 HX4.out).1).trans HX4.out; have HY5 : Hid (w5.heap[w.heap.size + 1]? = some (.cells #[.int .u16 (a' : Int), .int .u16 (b' : Int), .int .u16 (c' : Int), .int .u16 (d' : Int), .int .u16 (e' : Int), .int .u16 (f' : Int), .int .u16 (g' : Int), .int .u16 (i' : Int)] 44 (0, 0))) := (hc.block _ (Array.getElem?_eq_some_iff.1 HY4.out).1).trans HY4.out; have ho5 := Lib.hid (ho4.out.below hc); have hb5 := hb4.trans (hc.mono hb4.size); clear hc)
      | (go_at_call 45; refine (x3.out w2).mono ?_; rintro e3 w3 ⟨rfl, hc⟩; have HX3 : Hid (w3.heap[w.heap.size]? = some (.cells #[.int .u16 (a : Int), .int .u16 (b : Int), .int .u16 (c : Int), .int .u16 (d : Int), .int .u16 (e : Int), .int .u16 (f : Int), .int .u16 (g : Int), .int .u16 (i : Int)] 44 (0, 0))) := (hc.block _ (Array.getElem?_eq_some_iff.1 HX2.out).1).trans HX2.out; have HY3 : Hid (w3.heap[w.heap.size + 1]? = some (.cells #[.int .u16 (a' : Int), .int .u16 (b' : Int), .int .u16 (c' : Int), .int .u16 (d' : Int), .int .u16 (e' : Int), .int .u16 (f' : Int), .int .u16 (g' : Int), .int .u16 (i' : Int)] 44 (0, 0))) := (hc.block _ (Array.getElem?_eq_some_iff.1 HY2.out).1).trans HY2.out; have ho3 := Lib.hid (ho2.out.below hc); have hb3 := hb2.trans (hc.mono hb2.size); clear hc)
      | (go_at_call 40; first
        | (refine (x4.out w3 ho3.out).mono ?_; rintro e4 w4 ⟨rfl, hc⟩; have HX4 : Hid (w4.heap[w.heap.size]? = some (.cells #[.int .u16 (a : Int), .int .u16 (b : Int), .int .u16 (c : Int), .int .u16 (d : Int), .int .u16 (e : Int), .int .u16 (f : Int), .int .u16 (g : Int), .int .u16 (i : Int)] 44 (0, 0))) := (hc.block _ (Array.getElem?_eq_some_iff.1 HX3.out).1).trans HX3.out; have HY4 : Hid (w4.heap[w.heap.size + 1]? = some (.cells #[.int .u16 (a' : Int), .int .u16 (b' : Int), .int .u16 (c' : Int), .int .u16 (d' : Int), .int .u16 (e' : Int), .int .u16 (f' : Int), .int .u16 (g' : Int), .int .u16 (i' : Int)] 44 (0, 0))) := (hc.block _ (Array.getElem?_eq_some_iff.1 HY3.out).1).trans HY3.out; have ho4 := Lib.hid (ho3.out.below hc); have hb4 := hb3.trans (hc.mono hb3.size); clear hc)
        | (refine (x2.out w1.drew (ho1.out.below ((Below.refl _ _).drew))).mono ?_; rintro e2 w2 ⟨rfl, hc⟩; have HX2 : Hid (w2.heap[w.heap.size]? = some (.cells #[.int .u16 (a : Int), .int .u16 (b : Int), .int .u16 (c : Int), .int .u16 (d : Int), .int .u16 (e : Int), .int .u16 (f : Int), .int .u16 (g : Int), .int .u16 (i : Int)] 44 (0, 0))) := (hc.block _ (Array.getElem?_eq_some_iff.1 HX1.out).1).trans HX1.out; have HY2 : Hid (w2.heap[w.heap.size + 1]? = some (.cells #[.int .u16 (a' : Int), .int .u16 (b' : Int), .int .u16 (c' : Int), .int .u16 (d' : Int), .int .u16 (e' : Int), .int .u16 (f' : Int), .int .u16 (g' : Int), .int .u16 (i' : Int)] 44 (0, 0))) := (hc.block _ (Array.getElem?_eq_some_iff.1 HY1.out).1).trans HY1.out; have ho2 := Lib.hid ((ho1.out.below ((Below.refl _ _).drew)).below hc); have hb2 := hb1.drew.trans (hc.mono hb1.size); clear hc)))
  all_goals
    go_wp2
    go_ret
    exact ⟨rfl, hb6⟩
#print axioms sixBack_true
end Go.Proofs.YtmobeppmdakjmaaDoor
