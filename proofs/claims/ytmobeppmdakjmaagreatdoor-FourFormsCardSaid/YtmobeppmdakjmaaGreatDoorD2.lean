/- Walk: four.Parse. -/
import Derived.Test.YtmobeppmdakjmaaGreatDoorD1
import Derived.RangeFuncBox
namespace Go.Proofs.YtmobeppmdakjmaaGreatDoor
open Go.RowKit Go.Shelf
attribute [local go_sem] Oper.semAt_some

/-- What a round of Parse does with a part's number: at u64's width. -/
def stepO (last out k : Nat) : Option Nat → Option Nat
  | none => none
  | some n =>
    if k = last then (if n < 2 ^ (8 * (4 - last)) then some n else none)
    else if k < last ∧ 255 < n then none
    else some ((out + n * 2 ^ (8 * (3 - k))) % 18446744073709551616)
def stepW (last : Nat) (out : Nat) (x : Part last) : Option Nat := stepO last out x.1.1 (number4 x.1.2)
theorem stepO_none (last out k : Nat) : stepO last out k none = none := rfl
theorem stepO_last (last out n : Nat) (h : n < 2 ^ (8 * (4 - last))) : stepO last out last (some n) = some n := by simp [stepO, h]
theorem stepO_over (last out n : Nat) (h : ¬ n < 2 ^ (8 * (4 - last))) : stepO last out last (some n) = none := by simp only [stepO, if_true, if_neg h]
theorem stepO_big (last out k n : Nat) (h : k < last) (hn : 255 < n) : stepO last out k (some n) = none := by
  rw [stepO, if_neg (by omega), if_pos ⟨h, hn⟩]
theorem stepO_add (last out k n : Nat) (h : k ≠ last) (hn : k < last → n ≤ 255) : stepO last out k (some n) = some ((out + n * 2 ^ (8 * (3 - k))) % 18446744073709551616) := by
  rw [stepO, if_neg h, if_neg (fun hh => by have := hn hh.1; omega)]
def foldW (last : Nat) (l : List (Part last)) : Option Nat := l.foldl (fun o x => o.bind (stepW last · x)) (some 0)
theorem foldW_snoc (last : Nat) (l : List (Part last)) (x : Part last) : foldW last (l ++ [x]) = (foldW last l).bind (stepW last · x) := by simp [foldW]
def parseV : Option Nat → Value
  | some n => .tuple #[.int .u32 n, .int .i64 0]
  | none => .tuple #[.int .u32 0, .int .i64 30]

theorem boxed_below {N : Nat} {A B : World} {k : Nat} {t : TypeId} {v : Value} (h : Boxed A k t v) (hb : Below N A B) (hk : k < N) : Boxed B k t v := (hb.block k hk).trans h
theorem keepsFrom_below {N M : Nat} {A B : World} (hb : Below M A B) (hM : A.heap.size ≤ M) : KeepsFrom N A B := ⟨hb.size, fun k _ _ h _ => (hb.block k (Nat.lt_of_lt_of_le (Array.getElem?_eq_some_iff.1 h).1 hM)).trans h⟩
/-- The world where the two results' boxes have been laid. -/
def two (w : World) : World := (w.alloc (.cells #[.int .u32 0] 22)).alloc (.cells #[.int .i64 0] 45)
theorem two_size (w : World) : (two w).heap.size = w.heap.size + 2 := by simp [two]
theorem two_below (w : World) : Below w.heap.size w (two w) := ((Below.refl _ w).alloc (Nat.le_refl _) _).alloc (by simp) _
theorem two_fst (w : World) : Boxed (two w) w.heap.size 22 (.int .u32 0) := (Boxed.new w 22 _).alloc _
theorem two_snd (w : World) : Boxed (two w) (w.heap.size + 1) 45 (.int .i64 0) := by
  have := Boxed.new (w.alloc (.cells #[.int .u32 0] 22)) 45 (.int .i64 0)
  rwa [World.size_alloc] at this

set_option maxHeartbeats 2000000 in
set_option maxRecDepth 100000 in
theorem parse_long (s : List UInt8) (hl : s.length ≤ 1000000) (h4 : 4 < (parts4 s).length) (w : World) (ho : Ok w) :
    Calls Tryz.prog 15 #[.string ⟨s.toArray⟩] w fun e w' => e = .returned (parseV none) ∧ Below w.heap.size w w' := by
  have Hp := Lib.hid (fun W h => parts_any s hl W h)
  have Ho := Lib.hid ho
  clear ho
  have f1 : (4 : Int) < ((parts4 s).length : Int) := by omega
  refine (callsIn_wide (n := 5)).1 ?_
  refine callsIn_of_wp_marks Tryz.func15 rfl trivial ?_ rfl
  simp only [Tryz.ntmps15, List.size_toArray, List.length_cons, List.length_nil, Nat.reduceAdd, Nat.reduceSub, Array.replicate_succ, Array.replicate_zero, List.push_toArray, List.append_toArray, List.nil_append, List.cons_append]
  gi_wp2_with (refine ⟨trivial, ?_⟩; gi_at_call 16; refine (callsIn_wide.2 (Hp.out _ (Ho.out.below (two_below w)))).mono ?_)
  rintro e w1 ⟨A, c, rfl, hrd, hc, hb1⟩
  rw [two_size] at hb1
  have b1 := boxed_below (two_fst w) hb1 (by omega)
  have b2 := boxed_below (two_snd w) hb1 (by omega)
  have hB : Below w.heap.size w w1 := (two_below w).trans (hb1.mono (by omega))
  have h1 := b1.cell
  have h2 := b1.frozen
  have h3 := b2.cell
  have h4 := b2.frozen
  gi_wp2
  have e1 := (b1.set (.int .u32 0)).other (B' := w.heap.size + 1) (by omega) (.int .i64 30)
  have e2 := (b2.other (B' := w.heap.size) (by omega) (.int .u32 0)).set (.int .i64 30)
  have h5 := e1.cell
  have h6 := e2.cell
  refine ⟨.tuple #[.int .u32 0, .int .i64 30], ?_, rfl, (hB.setCell (by simp) _).setCell (by simp) _⟩
  simp [results, Tryz.f15, go_sem, h5, h6]
#print axioms parse_long
end Go.Proofs.YtmobeppmdakjmaaGreatDoor
