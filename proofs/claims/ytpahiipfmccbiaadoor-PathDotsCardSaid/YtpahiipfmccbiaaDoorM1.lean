/- Words on memory, more: what is kept but for some blocks (Kp); a strings.Builder whose row is followed (Bld). -/
import Derived.Test.YtpahiipfmccbiaaDoorM0
import Derived.Test.YtpahiipfmccbiaaDoorChecked
import Derived.Test.YtpahiipfmccbiaaDoorS0
import Derived.WalkKit
import Derived.WalkSpells
import Derived.WalkLawsBesides
namespace Go.Proofs.YtpahiipfmccbiaaDoor
open Go.RowKit

/-- Of the blocks that lay, only those in S may have turned. -/
structure Kp (S : Nat → Prop) (w w' : World) : Prop where
  os : w'.os = w.os
  tape : w'.tape = w.tape
  output : w'.output = w.output
  size : w.heap.size ≤ w'.heap.size
  block : ∀ k, k < w.heap.size → ¬ S k → w'.heap[k]? = w.heap[k]?

section
variable {S : Nat → Prop} {w w' a b c : World}
theorem Kp.refl (S : Nat → Prop) (w : World) : Kp S w w := ⟨rfl, rfl, rfl, Nat.le_refl _, fun _ _ _ => rfl⟩
theorem Kp.trans (h : Kp S a b) (k : Kp S b c) : Kp S a c :=
  ⟨k.os.trans h.os, k.tape.trans h.tape, k.output.trans h.output, Nat.le_trans h.size k.size, fun i hi hs => (k.block i (Nat.lt_of_lt_of_le hi h.size) hs).trans (h.block i hi hs)⟩
theorem Kp.mono {S' : Nat → Prop} (h : Kp S a b) (hS : ∀ k, k < a.heap.size → S k → S' k) : Kp S' a b :=
  ⟨h.os, h.tape, h.output, h.size, fun i hi hs => h.block i hi (fun x => hs (hS i hi x))⟩
theorem Kp.drew (h : Kp S a w) : Kp S a w.drew := ⟨h.os, h.tape, h.output, h.size, h.block⟩
theorem Kp.drewN (h : Kp S a w) (n : Nat) : Kp S a (w.drewN n) := ⟨h.os, h.tape, h.output, h.size, h.block⟩
theorem Kp.alloc (h : Kp S a w) (o : Obj) : Kp S a (w.alloc o) :=
  h.trans ⟨rfl, rfl, rfl, by simp, fun k hk _ => Below.heap_alloc _ _ _ hk⟩
theorem Kp.setCell (h : Kp S a w) {p : Addr} (hp : p.block < a.heap.size → S p.block) (u : Value) : Kp S a (w.setCell p u) :=
  ⟨h.os, h.tape, h.output, by simpa [World.setCell] using h.size, fun k hk hs => by
    rw [Below.heap_setCell _ _ _ _ (fun e => by subst e; exact hs (hp hk))]; exact h.block k hk hs⟩
theorem Kp.then (h : Kp S a w) {S' : Nat → Prop} (k : Kp S' w w') (hS : ∀ i, i < a.heap.size → S' i → S i) : Kp S a w' :=
  ⟨k.os.trans h.os, k.tape.trans h.tape, k.output.trans h.output, Nat.le_trans h.size k.size, fun i hi hs =>
    (k.block i (Nat.lt_of_lt_of_le hi h.size) (fun x => hs (hS i hi x))).trans (h.block i hi hs)⟩
theorem Kp.of_grown {row : Option Nat} (h : w.grownBy w' row) : Kp (fun k => row = some k) w w' :=
  ⟨h.os, h.tape, h.output, h.size, fun k hk hs => h.block k hk (fun e => hs e.symm)⟩
theorem Kp.of_below {B : Nat} (h : Below B w w') : Kp (fun k => B ≤ k) w w' := ⟨h.os, h.tape, h.output, h.size, fun k _ hs => h.block k (by omega)⟩
theorem Kp.below {B : Nat} (h : Kp S w w') (hB : B ≤ w.heap.size) (hS : ∀ k, k < B → ¬ S k) : Below B w w' := ⟨h.os, h.tape, h.output, h.size, fun k hk => h.block k (by omega) (hS k hk)⟩
theorem Kp.cell (h : Kp S w w') {p : Addr} {v : Value} (hs : ¬ S p.block) (hc : w.cell? p = some v) : w'.cell? p = some v :=
  (World.cell?_of_block (h.block p.block (World.block_lt_of_cell? w p hc) hs)).trans hc
theorem Kp.grown {row : Option Nat} (h : Kp S w w') (hS : ∀ k, k < w.heap.size → S k → row = some k) : w.grownBy w' row :=
  ⟨h.os, h.tape, h.output, h.size, fun k hk hs => h.block k hk (fun x => hs (hS k hk x).symm)⟩
theorem Kp.own {base n : Nat} {e : TypeId} {size : Nat} {v : Value} {xs : List Value} (h : Kp S w w') (hown : w.ownsRow base e size v n xs) (hs : ∀ k, v.ownBlock = some k → ¬ S k) : w'.ownsRow base e size v n xs := by
  refine ⟨hown.1, ?_⟩
  rcases hown.2 with hn | ⟨g, cap, cur, rfl, hb, hg, rest⟩
  · exact .inl hn
  · exact .inr ⟨g, cap, cur, rfl, hb, (h.block g (Array.getElem?_eq_some_iff.1 hg).1 (hs g rfl)).trans hg, rest⟩
theorem Kp.rd {B : Nat} {A : Option Addr} {xs : List Value} (h : Kp S w w') (hr : Rd w B A xs) (hB : B ≤ w.heap.size) (hs : ∀ b off, A = some ⟨b, off, none⟩ → b < B → ¬ S b) : Rd w' B A xs := fun k u hu => by
  obtain ⟨b, off, e, hb, hc⟩ := hr k u hu
  exact ⟨b, off, e, hb, (World.cell?_of_block (h.block b (by omega) (hs b off e hb))).trans hc⟩
end

theorem own_slice {w : World} {base n : Nat} {e : TypeId} {v : Value} {xs : List Value} (h : w.ownsRow base e 1 v n xs) : ∃ A c, v = .slice A n c := by
  rcases h.2 with ⟨rfl, rfl⟩ | ⟨g, cap, cur, rfl, _⟩
  · exact ⟨none, 0, rfl⟩
  · exact ⟨_, _, rfl⟩

/-- A strings.Builder in block b: its buffer is v, a row of the call's own that holds bs. -/
structure Bld (w : World) (base b : Nat) (v : Value) (bs : List Value) : Prop where
  hB : base ≤ b
  blk : ∃ p, (p = .pointer none ∨ p = .pointer (some ⟨b, 0, none⟩)) ∧ w.heap[b]? = some (.cells #[p, v] 49 (0, 0))
  own : w.ownsRow base 5 1 v bs.length bs
  ne : v.ownBlock ≠ some b

theorem Bld.lt {w : World} {base b : Nat} {v : Value} {bs : List Value} (h : Bld w base b v bs) : b < w.heap.size := by
  obtain ⟨p, _, hb⟩ := h.blk
  exact (Array.getElem?_eq_some_iff.1 hb).1
theorem Bld.is {w : World} {base b : Nat} {v : Value} {bs : List Value} (h : Bld w base b v bs) : Lib.IsBuilder 49 5 base b bs w := by
  obtain ⟨hB, ⟨p, hp, hb⟩, hown, hne⟩ := h
  rcases hp with rfl | rfl
  · exact .inl ⟨hB, v, hb, hown, hne⟩
  · exact .inr ⟨hB, v, hb, hown, hne⟩
theorem Bld.kept {S : Nat → Prop} {w w' : World} {base b : Nat} {v : Value} {bs : List Value} (h : Bld w base b v bs) (k : Kp S w w') (hb : ¬ S b) (hv : ∀ g, v.ownBlock = some g → ¬ S g) : Bld w' base b v bs := by
  have hlt := h.lt
  obtain ⟨hB, ⟨p, hp, hbk⟩, hown, hne⟩ := h
  exact ⟨hB, ⟨p, hp, (k.block b hlt hb).trans hbk⟩, k.own hown hv, hne⟩
/-- A builder that has just been laid. -/
theorem Bld.new (w : World) (base : Nat) (h : base ≤ w.heap.size) : Bld (w.alloc (.cells #[.pointer none, .slice none 0 0] 49)) base w.heap.size (.slice none 0 0) [] :=
  ⟨h, ⟨_, .inl rfl, heap_alloc_new w _⟩, World.ownsRow_nil _ _ _ _, by simp [Value.ownBlock]⟩

/-- What a call that appends leaves: the row xs, in v's block or a new one; else all as it was. -/
def Grew (base : Nat) (e : TypeId) (v : Value) (xs : List Value) (w : World) (en : Ending) (w' : World) : Prop :=
  ∃ v', en = .returned v' ∧ w'.ownsRow base e 1 v' xs.length xs ∧ Kp (fun k => v.ownBlock = some k) w w' ∧ (v'.ownBlock = v.ownBlock ∨ ∃ g, v'.ownBlock = some g ∧ w.heap.size ≤ g)
theorem Grew.of {base : Nat} {e : TypeId} {v v' : Value} {xs ys news : List Value} {n : Nat} {w W w' : World} (hk : Kp (fun k => v.ownBlock = some k) w W)
    (hown : w'.ownsRow base e 1 v' n (xs ++ news)) (hg : W.grownBy w' v.ownBlock) (hat : v'.ownBlock = v.ownBlock ∨ v'.ownBlock = some W.heap.size) (hy : ys = xs ++ news) :
    Grew base e v ys w (.returned v') w' := by
  subst hy
  have hn : n = (xs ++ news).length := by have := hown.1; omega
  subst hn
  refine ⟨v', rfl, hown, hk.then (Kp.of_grown hg) (fun _ _ h => h), ?_⟩
  rcases hat with h | h
  · exact .inl h
  · exact .inr ⟨_, h, hk.size⟩
theorem Grew.same {base : Nat} {e : TypeId} {v : Value} {xs : List Value} {w w' : World} (hk : Kp (fun k => v.ownBlock = some k) w w') (hown : w'.ownsRow base e 1 v xs.length xs) :
    Grew base e v xs w (.returned v) w' := ⟨v, rfl, hown, hk, .inl rfl⟩

theorem Tryd.info5 : (Tryd.prog.info? 5).map (fun i => (i.zero, i.size, i.bytes)) = some (some (.int .u8 0), 1, 1) := by kernel_rfl

/-- copyCheck: behind it the builder's first cell holds its own address. -/
theorem copyCheck_any (base b : Nat) (v : Value) (bs : List Value) (w : World) (h : Bld w base b v bs) :
    Calls Tryd.prog 53 #[.pointer (some ⟨b, 0, none⟩)] w fun e w' => e = .returned (.tuple #[]) ∧
      w'.heap[b]? = some (.cells #[.pointer (some ⟨b, 0, none⟩), v] 49 (0, 0)) ∧ Kp (fun k => k = b) w w' := by
  have hlt := h.lt
  obtain ⟨hB, ⟨p, hp, hb⟩, hown, hne⟩ := h
  rcases hp with rfl | rfl
  · refine (Tryd.copyCheck_fresh b w (by rw [Lib.cell_of_heap hb]; rfl) (by simp [World.shape?, hb]) (Lib.frozen_of_heap hb 0)).mono ?_
    rintro e w' ⟨rfl, rfl⟩
    exact ⟨rfl, by simp [World.setCell, Array.getElem?_modify, hb], (Kp.refl (fun k => k = b) w).setCell (p := ⟨b, 0, none⟩) (fun _ => rfl) _⟩
  · refine (Tryd.copyCheck_used b w (by rw [Lib.cell_of_heap hb]; rfl)).mono ?_
    rintro e w' ⟨rfl, rfl⟩
    exact ⟨rfl, hb, Kp.refl _ _⟩

set_option maxHeartbeats 1000000 in
/-- (*strings.Builder).WriteByte, with the blocks that turn named. -/
theorem writeByte_any (base b : Nat) (v : Value) (bs : List Value) (c : Int) (w : World) (h : Bld w base b v bs) (hlen : bs.length + 1 ≤ 140737488355328) (hBw : base ≤ w.heap.size) :
    Calls Tryd.prog 31 #[.pointer (some ⟨b, 0, none⟩), .int .u8 c] w fun e w' => e = .returned .nilIface ∧
      ∃ v', Bld w' base b v' (bs ++ [.int .u8 c]) ∧ (v'.ownBlock = v.ownBlock ∨ ∃ g, v'.ownBlock = some g ∧ w.heap.size ≤ g) ∧ Kp (fun k => k = b ∨ v.ownBlock = some k) w w' := by
  obtain ⟨i0, hi, hz0, hz1, hz2⟩ := info_parts Tryd.info5
  have hlt := h.lt
  go_enter Tryd.func31, Tryd.ntmps31
  go_wp2_with (go_at_call 53; refine (copyCheck_any base b v bs _ h).mono ?_)
  rintro e w1 ⟨rfl, hbk, hk1⟩
  have hown := hk1.own h.own (fun k hk e => h.ne (by rw [hk, e]))
  have hsz := hk1.size
  have c0 : w1.cell? ⟨b, 0, none⟩ = some (.pointer (some ⟨b, 0, none⟩)) := by rw [Lib.cell_of_heap hbk]; rfl
  have c1 : w1.cell? ⟨b, 1, none⟩ = some v := by rw [Lib.cell_of_heap hbk]; rfl
  go_wp2_with (at_builtin; refine wpList_append_own_at _ rfl _ _ 40 rfl base 5 i0 (.int .u8 0) 1 1 Tryd.underlying40 hi hz0 hz1 hz2 rfl (by decide) _ _ _ rfl (hown.alloc _) ⟨w1.heap.size, 0, none⟩ 1 1 [.int .u8 c] rfl rfl ?c1 ?c2 ?c3 ?c4 ?c5 ?_)
  case c1 => exact cell_one_new _ _ _
  case c2 => intro u hu; simp at hu; subst hu; rfl
  case c3 => unfold maxLen; omega
  case c4 => omega
  case c5 => simp; omega
  intro v' w2 hown' hgrow _ hat
  have hk2 : Kp (fun k => k = b ∨ v.ownBlock = some k) w w2 :=
    (((hk1.mono fun k _ e => .inl e).alloc _).then (Kp.of_grown hgrow) fun i _ e => .inr e)
  have hb2 : w2.heap[b]? = some (.cells #[.pointer (some ⟨b, 0, none⟩), v] 49 (0, 0)) := by
    rw [hgrow.block b (by simp; omega) (fun e => h.ne e.symm), Lib.alloc_old w1 _ b (by omega)]
    exact hbk
  have d0 : w2.cell? ⟨b, 0, none⟩ = some (.pointer (some ⟨b, 0, none⟩)) := by rw [Lib.cell_of_heap hb2]; rfl
  have d1 : w2.cell? ⟨b, 1, none⟩ = some v := by rw [Lib.cell_of_heap hb2]; rfl
  have f1 : w2.frozen? ⟨b, 1, none⟩ = false := Lib.frozen_of_heap hb2 1
  have hat2 : v'.ownBlock = v.ownBlock ∨ ∃ g, v'.ownBlock = some g ∧ w.heap.size ≤ g := by
    rcases hat with e | e
    · exact .inl e
    · exact .inr ⟨_, e, by omega⟩
  have hne2 : v'.ownBlock ≠ some b := by
    rcases hat2 with e | ⟨g, e, hg⟩
    · rw [e]; exact h.ne
    · rw [e]; intro x; injection x with x; omega
  obtain ⟨A', c', rfl⟩ := own_slice hown'
  have Hat := Lib.hid hat2
  have Hk := Lib.hid hk2
  have Hne := Lib.hid hne2
  have Hh := Lib.hid h
  clear hat hat2 hk2 hne2 hk1 h c0 c1 hown hgrow hbk
  go_wp2
  go_ret
  refine ⟨rfl, _, ⟨Hh.out.hB, ⟨_, .inr rfl, by simp [World.setCell, Array.getElem?_modify, hb2]⟩, ?_, Hne.out⟩, Hat.out, Hk.out.setCell (p := ⟨b, 1, none⟩) (fun _ => .inl rfl) _⟩
  rw [List.length_append]
  exact (Kp.own ((Kp.refl (fun k => k = b) w2).setCell (p := ⟨b, 1, none⟩) (fun _ => rfl) _) hown' (fun k hk e => Hne.out (by rw [hk, e])))
end Go.Proofs.YtpahiipfmccbiaaDoor
