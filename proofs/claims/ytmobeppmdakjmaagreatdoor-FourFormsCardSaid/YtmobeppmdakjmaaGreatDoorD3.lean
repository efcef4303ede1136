/- Walk: four.Parse where there are four parts at most. -/
import Derived.Test.YtmobeppmdakjmaaGreatDoorD2
namespace Go.Proofs.YtmobeppmdakjmaaGreatDoor
open Go.RowKit Go.Shelf
attribute [local go_sem] Oper.semAt_some

theorem came_ext {L : Nat} (f : Nat → Part L) (len : Nat) : ∀ m, m ≤ len → ∃ r, came f len 0 = came f len m ++ r
  | 0, _ => ⟨[], by simp⟩
  | m + 1, h => by
    obtain ⟨r, hr⟩ := came_ext f len m (by omega)
    exact ⟨f m :: r, by rw [hr, came_step f (by omega)]; simp⟩
theorem foldW_none (last : Nat) (r : List (Part last)) {l : List (Part last)} (h : foldW last l = none) : foldW last (l ++ r) = none := by
  have : ∀ r : List (Part last), r.foldl (fun o x => o.bind (stepW last · x)) none = none := by
    intro r
    induction r with
    | nil => rfl
    | cons a t ih => simpa using ih
  unfold foldW at *
  rw [List.foldl_append, h, this]

theorem wrap_add2 (out n k : Nat) (c : Int) (h : c = ((2 ^ (8 * (3 - k)) : Nat) : Int)) : IntKind.u64.wrap ((out : Int) + IntKind.u64.wrap ((n : Int) * c)) = (((out + n * 2 ^ (8 * (3 - k))) % 18446744073709551616 : Nat) : Int) := by
  have h1 : ∀ x : Int, IntKind.u64.wrap x = x % 18446744073709551616 := fun x => by rfl
  rw [h1, h1, h, ← Int.natCast_mul]
  generalize n * 2 ^ (8 * (3 - k)) = m
  omega
theorem kp_step {W W2 : World} {b M : Nat} (hb2 : Below W.heap.size W W2) (hb : b < M) (hc : M + 1 + 1 < W.heap.size) (v : Value) : Kp2 b (M + 1 + 1) W (W2.setCell ⟨M, 0, none⟩ v) :=
  ⟨(Below.heap_setCell _ _ _ _ (fun e => by simp only at e; omega)).trans (hb2.block b (by omega)), (Below.heap_setCell _ _ _ _ (fun e => by simp only at e; omega)).trans (hb2.block _ hc)⟩
theorem foldW_step {last out : Nat} {l : List (Part last)} {x : Part last} (h : foldW last l = some out) : foldW last (l ++ [x]) = stepO last out x.1.1 (number4 x.1.2) := by
  rw [foldW_snoc, h, Option.bind_some, stepW]
/-- The world where the loop begins: 'out', 'last' and the iterator's row are laid. -/
def three (w : World) (last : Nat) (v : Value) : World := ((w.alloc (.cells #[.int .u64 0] 26)).alloc (.cells #[.int .i64 (last : Int)] 3)).alloc (.cells #[v] 24)
theorem three_size (w : World) (last : Nat) (v : Value) : (three w last v).heap.size = w.heap.size + 3 := by simp [three]
theorem three_below (w : World) (last : Nat) (v : Value) : Below w.heap.size w (three w last v) := (((Below.refl _ w).alloc (Nat.le_refl _) _).alloc (by simp) _).alloc (by simp; omega) _
theorem three_a (w : World) (last : Nat) (v : Value) : Boxed (three w last v) w.heap.size 26 (.int .u64 0) := ((Boxed.new w 26 _).alloc _).alloc _
theorem three_b (w : World) (last : Nat) (v : Value) : Boxed (three w last v) (w.heap.size + 1) 3 (.int .i64 (last : Int)) := by
  have := Boxed.new (w.alloc (.cells #[.int .u64 0] 26)) 3 (.int .i64 (last : Int))
  rw [World.size_alloc] at this
  exact this.alloc _
theorem three_c (w : World) (last : Nat) (v : Value) : Boxed (three w last v) (w.heap.size + 1 + 1) 24 v := by
  have := Boxed.new ((w.alloc (.cells #[.int .u64 0] 26)).alloc (.cells #[.int .i64 (last : Int)] 3)) 24 v
  rwa [World.size_alloc, World.size_alloc] at this
theorem own_boxed {W W' : World} {row : Option Nat} {B : Nat} {t : TypeId} {v : Value} (h : Boxed W B t v) (hg : W.grownBy W' row) (hr : ∀ r, row = some r → ∃ o : Obj, W.heap[r]? = some o ∧ o.isCells = false) : Boxed W' B t v :=
  h.kept hg (fun e' => by
    obtain ⟨o, ho, hc⟩ := hr _ e'.symm
    rw [show W.heap[B]? = _ from h] at ho
    cases ho
    cases hc)
set_option maxHeartbeats 1000000 in
set_option maxRecDepth 100000 in
theorem parse_short (s : List UInt8) (hl : s.length ≤ 1000000) (last : Nat) (h3 : last ≤ 3) (hlast : (parts4 s).length = last + 1) (f : Nat → Part last) (hf : ∀ j, j < last + 1 → (f j).1.1 = j ∧ (parts4 s)[j]? = some (f j).1.2) (w : World) (ho : Ok w) :
    Calls Tryz.prog 15 #[.string ⟨s.toArray⟩] w fun e w' => e = .returned (parseV ((foldW last (came f (last + 1) 0)).map (· % 4294967296))) ∧ Below w.heap.size w w' := by
  have Hp := Lib.hid (fun W h => parts_any s hl W h)
  have Ho := Lib.hid ho
  clear ho
  have hl3 : last ≤ 3 := h3
  have q1 : IntKind.i64.wrap 3 = 3 := by decide
  have q2 : IntKind.i64.wrap 2 = 2 := by decide
  have q3 : IntKind.i64.wrap 1 = 1 := by decide
  have q4 : IntKind.i64.wrap 24 = 24 := by decide
  have q5 : IntKind.i64.wrap 16 = 16 := by decide
  have q6 : IntKind.i64.wrap 8 = 8 := by decide
  have hmix : Tryz.prog.follows .mixedOrders = true := by kernel_rfl
  have f1 : ¬ (4 : Int) < ((last + 1 : Nat) : Int) := by omega
  have f2 : ((last + 1 : Nat) : Int) - 1 = (last : Int) := by omega
  refine (callsIn_wide (n := 5)).1 ?_
  refine callsIn_of_wp_marks Tryz.func15 rfl trivial ?_ rfl
  simp only [Tryz.ntmps15, List.size_toArray, List.length_cons, List.length_nil, Nat.reduceAdd, Nat.reduceSub, Array.replicate_succ, Array.replicate_zero, List.push_toArray, List.append_toArray, List.nil_append, List.cons_append]
  gi_wp2_with (refine ⟨trivial, ?_⟩; gi_at_call 16; refine (callsIn_wide.2 (Hp.out _ (Ho.out.below (two_below w)))).mono ?_)
  rintro e w1 ⟨A, c, rfl, hrd, hc, hb1⟩
  rw [two_size] at hb1
  rw [hlast] at hc ⊢
  obtain ⟨b, off, rfl, hbl, _⟩ := hrd 0 _ (strV_get (hf 0 (by omega)).2)
  have Hcells : Hid (∀ j, j < last + 1 → (f j).1.1 = j ∧ w1.cell? ⟨b, off + j, none⟩ = some (.string ⟨(f j).1.2.toArray⟩)) := by
    intro j hj
    obtain ⟨b', off', e, _, hcell⟩ := hrd j _ (strV_get (hf j hj).2)
    injection e with e
    injection e with e1 e2
    subst e1; subst e2
    exact ⟨(hf j hj).1, hcell⟩
  clear hrd hf
  have b1 := boxed_below (two_fst w) hb1 (by omega)
  have b2 := boxed_below (two_snd w) hb1 (by omega)
  have hB : Below w.heap.size w w1 := (two_below w).trans (hb1.mono (by omega))
  have hs1 : w.heap.size + 2 ≤ w1.heap.size := by have := hb1.size; rw [two_size] at this; exact this
  gi_wp2_with (refine ⟨trivial, ?_⟩; gi_at_call 30; refine (backwards_in Fence.wide 4 trivial trivial rfl (by omega) _ _ _ _).mono ?_; rintro e w' ⟨rfl, rfl⟩)
  change Code.wpIn Fence.wide 5 Tryz.prog _ _ _ (three w1 last (.slice (some ⟨b, off, none⟩) (last + 1) c))
  have t1 := three_a w1 last (.slice (some ⟨b, off, none⟩) (last + 1) c)
  have t2 := three_b w1 last (.slice (some ⟨b, off, none⟩) (last + 1) c)
  have t3 := three_c w1 last (.slice (some ⟨b, off, none⟩) (last + 1) c)
  have hB5 := three_below w1 last (.slice (some ⟨b, off, none⟩) (last + 1) c)
  have hs5 := three_size w1 last (.slice (some ⟨b, off, none⟩) (last + 1) c)
  have b1' := boxed_below b1 hB5 (by omega)
  have b2' := boxed_below b2 hB5 (by omega)
  generalize three w1 last (.slice (some ⟨b, off, none⟩) (last + 1) c) = W5 at *
  have hB2 : Below w.heap.size w W5 := hB.trans (hB5.mono (by omega))
  refine wpIn_rangeFunc_ownG (a₁ := ?a₁) rfl (by omega) (gf := 72) (lb := #[.pointer (some ⟨w1.heap.size + 1 + 1, 0, none⟩)]) rfl trivial (enters_of Tryz.func72 (by kernel_rfl) rfl)
    (back_stops Fence.wide 4 trivial rfl (by omega) (w1.heap.size + 1 + 1) b off (last + 1) c f (by omega) W5 (by omega) (by omega) t3.cell (fun j hj => ⟨(Hcells.out j hj).1, (hB5.cell (by exact hbl)).trans (Hcells.out j hj).2⟩))
    Kp2.trans (Kp2.book (by omega) (by omega)) (Below.refl _ _) (fun _ => rfl)
    (fun pre W => ((∃ out, foldW last pre = some out ∧ Boxed W w1.heap.size 26 (.int .u64 out)) ∧ Boxed W (w1.heap.size + 1) 3 (.int .i64 (last : Int)) ∧ Boxed W (w1.heap.size + 1 + 1) 24 (.slice (some ⟨b, off, none⟩) (last + 1) c) ∧ Boxed W w.heap.size 22 (.int .u32 0) ∧ Boxed W (w.heap.size + 1) 45 (.int .i64 0)) ∧ Below w.heap.size w W)
    (fun c pre W => (c = .ret ∧ foldW last pre = none ∧ Boxed W w.heap.size 22 (.int .u32 0) ∧ Boxed W (w.heap.size + 1) 45 (.int .i64 30)) ∧ Below w.heap.size w W)
    (OwnFrom.and (Own.from (fun s A B row hs hg hr => ⟨⟨hs.1.choose, hs.1.choose_spec.1, own_boxed hs.1.choose_spec.2 hg hr⟩, own_boxed hs.2.1 hg hr, own_boxed hs.2.2.1 hg hr, own_boxed hs.2.2.2.1 hg hr, own_boxed hs.2.2.2.2 hg hr⟩) _) (ownFrom_below (Nat.le_refl _) (by omega)))
    (fun c => OwnFrom.and (Own.from (fun s A B row hs hg hr => ⟨hs.1, hs.2.1, own_boxed hs.2.2.1 hg hr, own_boxed hs.2.2.2 hg hr⟩) _) (ownFrom_below (Nat.le_refl _) (by omega)))
    ⟨⟨⟨0, rfl, t1⟩, t2, t3, b1', b2'⟩, hB2⟩ ?assign ?body ?done ?stop
  case assign =>
    intro l x W K hK
    simp only [encPart]
    gi_wp2
    exact hK
  case done =>
    rintro D ys W hD rfl ⟨⟨⟨out, ho, bo⟩, _, _, b2, b3⟩, hB⟩ hK
    have h1 := bo.cell
    have h2 := b2.cell
    have h3 := b2.frozen
    have h4 := b3.cell
    have h5 := b3.frozen
    gi_wp2
    have g1 := (b2.set (.int .u32 ((out : Int) % 4294967296))).other (B' := w.heap.size + 1) (by omega) (.int .i64 0)
    have g2 := (b3.other (B' := w.heap.size) (by omega) (.int .u32 ((out : Int) % 4294967296))).set (.int .i64 0)
    have hK' := (KeepsOthers.setCell _ ⟨w.heap.size + 1, 0, none⟩ (.int .i64 0)).same D _ ((KeepsOthers.setCell W ⟨w.heap.size, 0, none⟩ (.int .u32 ((out : Int) % 4294967296))).same D _ hK rfl) rfl
    have hB' : Below w.heap.size w _ := (hB.setCell (p := ⟨w.heap.size, 0, none⟩) (Nat.le_refl _) (.int .u32 ((out : Int) % 4294967296))).setCell (p := ⟨w.heap.size + 1, 0, none⟩) (by simp) (.int .i64 0)
    refine ⟨by simp, .inl ⟨_, _, rfl, run_takeDeferred hK', ?_⟩⟩
    have g3 := (own_boxed g1 (grownBy_putObj' _ D (.deferred none)) (fun r e => by cases e; exact ⟨_, hK', rfl⟩)).cell
    have g4 := (own_boxed g2 (grownBy_putObj' _ D (.deferred none)) (fun r e => by cases e; exact ⟨_, hK', rfl⟩)).cell
    refine ⟨.tuple #[.int .u32 ((out : Int) % 4294967296), .int .i64 0], ?_, by rw [ho]; simp [parseV], hB'.trans (belowK_b (w := w) (Nat.le_refl _) _ D _ _ (by have := hB2.size; omega) hK' rfl rfl)⟩
    simp [results, Tryz.f15, go_sem, g3, g4]
  case stop =>
    rintro D c pre W hD ⟨k, hk, rfl⟩ ⟨⟨rfl, hn, b2, b3⟩, hB⟩ hK
    gi_wp2
    refine ⟨by simp, .inl ⟨_, _, rfl, run_takeDeferred hK, ?_⟩⟩
    have g3 := (own_boxed b2 (grownBy_putObj' _ D (.deferred none)) (fun r e => by cases e; exact ⟨_, hK, rfl⟩)).cell
    have g4 := (own_boxed b3 (grownBy_putObj' _ D (.deferred none)) (fun r e => by cases e; exact ⟨_, hK, rfl⟩)).cell
    obtain ⟨r, hr⟩ := came_ext f (last + 1) k hk
    refine ⟨.tuple #[.int .u32 0, .int .i64 30], ?_, by rw [hr, foldW_none last r hn]; rfl, hB.trans (belowK_b (w := w) (Nat.le_refl _) _ D _ _ (by have := hB2.size; omega) hK rfl rfl)⟩
    simp [results, Tryz.f15, go_sem, g3, g4]
  case body =>
    rintro l pre ⟨⟨at_, p⟩, hat, hp⟩ W ⟨⟨⟨out, ho, bo⟩, bl, br, b2, b3⟩, hB⟩ hlt
    have hat4 : at_ ≤ last := hat
    have hp6 : p.length ≤ 1000000 := hp
    have hoW := Lib.hid (Ho.out.below hB)
    obtain ⟨o, hno⟩ : ∃ o, number4 p = o := ⟨_, rfl⟩
    have Hn := Lib.hid (number_is p o hno hp6 W hoW.out)
    have Hs : Hid (foldW last (pre ++ [⟨(at_, p), hat, hp⟩]) = stepO last out at_ o) := by
      have := foldW_step (x := ⟨(at_, p), hat, hp⟩) ho
      dsimp only at this
      rw [hno] at this
      exact this
    dsimp only
    generalize (⟨(at_, p), hat, hp⟩ : Part last) = x at *
    clear hno ho
    gi_wp2_with (refine ⟨trivial, ?_⟩; gi_at_call 17; refine (CallsIn.inRound l (callsIn_wide.2 Hn.out)).mono ?_)
    rintro e W2 rfl hb2
    have bo' := boxed_below bo hb2 bo.lt
    have bl' := boxed_below bl hb2 bl.lt
    have br' := boxed_below br hb2 br.lt
    have b2' := boxed_below b2 hb2 b2.lt
    have b3' := boxed_below b3 hb2 b3.lt
    have hBW := hB.trans (hb2.mono hB.size)
    have hkp := fun v => kp_step hb2 hbl br.lt v
    have hbs := hb2.size
    have hmb := bo.lt
    have hkf := keepsFrom_below (N := W5.heap.size) hb2 (Nat.le_refl _)
    have k1 := bo'.cell
    have k2 := bo'.frozen
    have k3 := bl'.cell
    have k4 := b2'.cell
    have k5 := b2'.frozen
    have k6 := b3'.cell
    have k7 := b3'.frozen
    cases o with
    | none =>
      simp only [numV]
      gi_wp2
      have hout : Hid (foldW last (pre ++ [x]) = none) := Hs.out
      exact ⟨(hkf.trans ((KeepsOthers.setCell _ _ _).from _)).trans ((KeepsOthers.setCell _ _ _).from _), ⟨rfl, hout.out, (b2'.set _).other (by omega) _, (b3'.other (by omega) _).set _⟩, (hBW.setCell (p := ⟨w.heap.size, 0, none⟩) (Nat.le_refl _) _).setCell (p := ⟨w.heap.size + 1, 0, none⟩) (by simp) _⟩
    | some n =>
      simp only [numV]
      have hgo : Hid (∀ v : Nat, foldW last (pre ++ [x]) = some v → ownPostG W5.heap.size (Kp2 b (w1.heap.size + 1 + 1)) (fun pre W => ((∃ out : Nat, foldW last pre = some out ∧ Boxed W w1.heap.size 26 (.int .u64 out)) ∧ Boxed W (w1.heap.size + 1) 3 (.int .i64 (last : Int)) ∧ Boxed W (w1.heap.size + 1 + 1) 24 (.slice (some ⟨b, off, none⟩) (last + 1) c) ∧ Boxed W w.heap.size 22 (.int .u32 0) ∧ Boxed W (w.heap.size + 1) 45 (.int .i64 0)) ∧ Below w.heap.size w W)
          (fun c pre W => (c = .ret ∧ foldW last pre = none ∧ Boxed W w.heap.size 22 (.int .u32 0) ∧ Boxed W (w.heap.size + 1) 45 (.int .i64 30)) ∧ Below w.heap.size w W) (pre ++ [x]) W .normal { tmps := #[], defers := [] } (W2.setCell ⟨w1.heap.size, 0, none⟩ (.int .u64 (v : Int)))) := by
        intro v hv
        exact ⟨hkf.trans ((KeepsOthers.setCell _ _ _).from _), hkp _, ⟨⟨v, hv, bo'.set _⟩, bl'.other (by omega) _, br'.other (by omega) _, b2'.other (by omega) _, b3'.other (by omega) _⟩, hBW.setCell (p := ⟨w1.heap.size, 0, none⟩) (by simp; omega) _⟩
      have hgo2 : Hid (∀ v : Nat, foldW last (pre ++ [x]) = some v → ownPostG W5.heap.size (Kp2 b (w1.heap.size + 1 + 1)) (fun pre W => ((∃ out : Nat, foldW last pre = some out ∧ Boxed W w1.heap.size 26 (.int .u64 out)) ∧ Boxed W (w1.heap.size + 1) 3 (.int .i64 (last : Int)) ∧ Boxed W (w1.heap.size + 1 + 1) 24 (.slice (some ⟨b, off, none⟩) (last + 1) c) ∧ Boxed W w.heap.size 22 (.int .u32 0) ∧ Boxed W (w.heap.size + 1) 45 (.int .i64 0)) ∧ Below w.heap.size w W)
          (fun c pre W => (c = .ret ∧ foldW last pre = none ∧ Boxed W w.heap.size 22 (.int .u32 0) ∧ Boxed W (w.heap.size + 1) 45 (.int .i64 30)) ∧ Below w.heap.size w W) (pre ++ [x]) W .normal { tmps := #[], defers := [] } (W2.setCell ⟨w1.heap.size, 0, none⟩ (.int .u64 (v : Int))).drew) := by
        intro v hv
        exact ⟨(hkf.trans ((KeepsOthers.setCell _ _ _).from _)).trans ((KeepsOthers.drew _).from _), hkp _, ⟨⟨v, hv, bo'.set _⟩, bl'.other (by omega) _, br'.other (by omega) _, b2'.other (by omega) _, b3'.other (by omega) _⟩, hBW.setCell (p := ⟨w1.heap.size, 0, none⟩) (by simp; omega) _ |>.drew⟩
      have hno : Hid (foldW last (pre ++ [x]) = none → ownPostG W5.heap.size (Kp2 b (w1.heap.size + 1 + 1)) (fun pre W => ((∃ out : Nat, foldW last pre = some out ∧ Boxed W w1.heap.size 26 (.int .u64 out)) ∧ Boxed W (w1.heap.size + 1) 3 (.int .i64 (last : Int)) ∧ Boxed W (w1.heap.size + 1 + 1) 24 (.slice (some ⟨b, off, none⟩) (last + 1) c) ∧ Boxed W w.heap.size 22 (.int .u32 0) ∧ Boxed W (w.heap.size + 1) 45 (.int .i64 0)) ∧ Below w.heap.size w W)
          (fun c pre W => (c = .ret ∧ foldW last pre = none ∧ Boxed W w.heap.size 22 (.int .u32 0) ∧ Boxed W (w.heap.size + 1) 45 (.int .i64 30)) ∧ Below w.heap.size w W) (pre ++ [x]) W .ret { tmps := #[], defers := [] } ((W2.setCell ⟨w.heap.size, 0, none⟩ (.int .u32 0)).setCell ⟨w.heap.size + 1, 0, none⟩ (.int .i64 30))) := by
        intro hv
        exact ⟨(hkf.trans ((KeepsOthers.setCell _ _ _).from _)).trans ((KeepsOthers.setCell _ _ _).from _), ⟨rfl, hv, (b2'.set _).other (by omega) _, (b3'.other (by omega) _).set _⟩, (hBW.setCell (p := ⟨w.heap.size, 0, none⟩) (Nat.le_refl _) _).setCell (p := ⟨w.heap.size + 1, 0, none⟩) (by simp) _⟩
      clear hkp hkf hBW hbs hmb hb2 hs5
      by_cases he : at_ = last
      · subst he
        have q : at_ = 0 ∨ at_ = 1 ∨ at_ = 2 ∨ at_ = 3 := by omega
        by_cases hn : n < 2 ^ (8 * (4 - at_))
        · have hf := Lib.hid (hgo.out n (by rw [Hs.out]; exact stepO_last _ _ _ hn))
          rcases q with rfl | rfl | rfl | rfl
          · have hn' : ¬ (4294967296 : Int) ≤ (n : Int) := by omega
            clear hn
            gi_wp2
            exact hf.out
          · have hn' : ¬ (16777216 : Int) ≤ (n : Int) := by omega
            clear hn
            gi_wp2
            exact hf.out
          · have hn' : ¬ (65536 : Int) ≤ (n : Int) := by omega
            clear hn
            gi_wp2
            exact hf.out
          · have hn' : ¬ (256 : Int) ≤ (n : Int) := by omega
            clear hn
            gi_wp2
            exact hf.out
        · have hf := Lib.hid (hno.out (by rw [Hs.out]; exact stepO_over _ _ _ hn))
          rcases q with rfl | rfl | rfl | rfl
          · have hn' : (4294967296 : Int) ≤ (n : Int) := by omega
            clear hn
            gi_wp2
            exact hf.out
          · have hn' : (16777216 : Int) ≤ (n : Int) := by omega
            clear hn
            gi_wp2
            exact hf.out
          · have hn' : (65536 : Int) ≤ (n : Int) := by omega
            clear hn
            gi_wp2
            exact hf.out
          · have hn' : (256 : Int) ≤ (n : Int) := by omega
            clear hn
            gi_wp2
            exact hf.out
      · have f6 : ¬ (at_ : Int) = (last : Int) := by omega
        have hlt : at_ < last := by omega
        have f7 : (at_ : Int) < (last : Int) := by omega
        by_cases hn : 255 < n
        · have hf := Lib.hid (hno.out (by rw [Hs.out]; exact stepO_big _ _ _ _ hlt hn))
          have f8 : (255 : Int) < (n : Int) := by omega
          clear hn hlt he
          gi_wp2
          exact hf.out
        · have hf := Lib.hid (hgo2.out _ (by rw [Hs.out]; exact stepO_add _ _ _ _ he (fun _ => by omega)))
          have f8 : ¬ (255 : Int) < (n : Int) := by omega
          clear hn hlt he
          have q : at_ = 0 ∨ at_ = 1 ∨ at_ = 2 := by omega
          rcases q with rfl | rfl | rfl
          · have hv := Lib.hid (wrap_add2 out n 0 16777216 rfl)
            gi_wp2
            gi_region_with_o (fail)
            all_goals (rw [hv.out]; exact hf.out)
          · have hv := Lib.hid (wrap_add2 out n 1 65536 rfl)
            gi_wp2
            gi_region_with_o (fail)
            all_goals (rw [hv.out]; exact hf.out)
          · have hv := Lib.hid (wrap_add2 out n 2 256 rfl)
            gi_wp2
            gi_region_with_o (fail)
            all_goals (rw [hv.out]; exact hf.out)
#print axioms parse_short
end Go.Proofs.YtmobeppmdakjmaaGreatDoor
