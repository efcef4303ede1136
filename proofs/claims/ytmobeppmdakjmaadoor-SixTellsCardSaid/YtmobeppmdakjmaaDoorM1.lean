/- Words on memory, more: what is kept but for some blocks (Kp); what a call that appends leaves (Grew); rows of texts that a call makes. -/
import Derived.Test.YtmobeppmdakjmaaDoorM0
import Derived.WalkKit
import Derived.WalkSpells
import Derived.WalkLawsBesides
namespace Go.Proofs.YtmobeppmdakjmaaDoor
open Go.RowKit

/-- Of the blocks that lay, only those in S may have turned. -/
structure Kp (S : Nat → Prop) (w w' : World) : Prop where
  os : w'.os = w.os
  tape : w'.tape = w.tape
  output : w'.output = w.output
  size : w.heap.size ≤ w'.heap.size
  block : ∀ k, k < w.heap.size → ¬ S k → w'.heap[k]? = w.heap[k]?

section
variable {S : Nat → Prop} {w w' a b c : World}
theorem Kp.refl (S : Nat → Prop) (w : World) : Kp S w w := ⟨rfl, rfl, rfl, Nat.le_refl _, fun _ _ _ => rfl⟩
theorem Kp.trans (h : Kp S a b) (k : Kp S b c) : Kp S a c :=
  ⟨k.os.trans h.os, k.tape.trans h.tape, k.output.trans h.output, Nat.le_trans h.size k.size, fun i hi hs => (k.block i (Nat.lt_of_lt_of_le hi h.size) hs).trans (h.block i hi hs)⟩
theorem Kp.mono {S' : Nat → Prop} (h : Kp S a b) (hS : ∀ k, k < a.heap.size → S k → S' k) : Kp S' a b :=
  ⟨h.os, h.tape, h.output, h.size, fun i hi hs => h.block i hi (fun x => hs (hS i hi x))⟩
theorem Kp.drew (h : Kp S a w) : Kp S a w.drew := ⟨h.os, h.tape, h.output, h.size, h.block⟩
theorem Kp.drewN (h : Kp S a w) (n : Nat) : Kp S a (w.drewN n) := ⟨h.os, h.tape, h.output, h.size, h.block⟩
theorem Kp.alloc (h : Kp S a w) (o : Obj) : Kp S a (w.alloc o) :=
  h.trans ⟨rfl, rfl, rfl, by simp, fun k hk _ => Below.heap_alloc _ _ _ hk⟩
theorem Kp.setCell (h : Kp S a w) {p : Addr} (hp : p.block < a.heap.size → S p.block) (u : Value) : Kp S a (w.setCell p u) :=
  ⟨h.os, h.tape, h.output, by simpa [World.setCell] using h.size, fun k hk hs => by
    rw [Below.heap_setCell _ _ _ _ (fun e => by subst e; exact hs (hp hk))]; exact h.block k hk hs⟩
theorem Kp.then (h : Kp S a w) {S' : Nat → Prop} (k : Kp S' w w') (hS : ∀ i, i < a.heap.size → S' i → S i) : Kp S a w' :=
  ⟨k.os.trans h.os, k.tape.trans h.tape, k.output.trans h.output, Nat.le_trans h.size k.size, fun i hi hs =>
    (k.block i (Nat.lt_of_lt_of_le hi h.size) (fun x => hs (hS i hi x))).trans (h.block i hi hs)⟩
theorem Kp.of_grown {row : Option Nat} (h : w.grownBy w' row) : Kp (fun k => row = some k) w w' :=
  ⟨h.os, h.tape, h.output, h.size, fun k hk hs => h.block k hk (fun e => hs e.symm)⟩
theorem Kp.of_below {B : Nat} (h : Below B w w') : Kp (fun k => B ≤ k) w w' := ⟨h.os, h.tape, h.output, h.size, fun k _ hs => h.block k (by omega)⟩
theorem Kp.below {B : Nat} (h : Kp S w w') (hB : B ≤ w.heap.size) (hS : ∀ k, k < B → ¬ S k) : Below B w w' := ⟨h.os, h.tape, h.output, h.size, fun k hk => h.block k (by omega) (hS k hk)⟩
theorem Kp.cell (h : Kp S w w') {p : Addr} {v : Value} (hs : ¬ S p.block) (hc : w.cell? p = some v) : w'.cell? p = some v :=
  (World.cell?_of_block (h.block p.block (World.block_lt_of_cell? w p hc) hs)).trans hc
theorem Kp.grown {row : Option Nat} (h : Kp S w w') (hS : ∀ k, k < w.heap.size → S k → row = some k) : w.grownBy w' row :=
  ⟨h.os, h.tape, h.output, h.size, fun k hk hs => h.block k hk (fun x => hs (hS k hk x).symm)⟩
theorem Kp.own {base n : Nat} {e : TypeId} {size : Nat} {v : Value} {xs : List Value} (h : Kp S w w') (hown : w.ownsRow base e size v n xs) (hs : ∀ k, v.ownBlock = some k → ¬ S k) : w'.ownsRow base e size v n xs := by
  refine ⟨hown.1, ?_⟩
  rcases hown.2 with hn | ⟨g, cap, cur, rfl, hb, hg, rest⟩
  · exact .inl hn
  · exact .inr ⟨g, cap, cur, rfl, hb, (h.block g (Array.getElem?_eq_some_iff.1 hg).1 (hs g rfl)).trans hg, rest⟩
theorem Kp.rd {B : Nat} {A : Option Addr} {xs : List Value} (h : Kp S w w') (hr : Rd w B A xs) (hB : B ≤ w.heap.size) (hs : ∀ b off, A = some ⟨b, off, none⟩ → b < B → ¬ S b) : Rd w' B A xs := fun k u hu => by
  obtain ⟨b, off, e, hb, hc⟩ := hr k u hu
  exact ⟨b, off, e, hb, (World.cell?_of_block (h.block b (by omega) (hs b off e hb))).trans hc⟩
end

theorem own_slice {w : World} {base n : Nat} {e : TypeId} {v : Value} {xs : List Value} (h : w.ownsRow base e 1 v n xs) : ∃ A c, v = .slice A n c := by
  rcases h.2 with ⟨rfl, rfl⟩ | ⟨g, cap, cur, rfl, _⟩
  · exact ⟨none, 0, rfl⟩
  · exact ⟨_, _, rfl⟩

/-- What a call that appends leaves: the row xs, in v's block or a new one; else all as it was. -/
def Grew (base : Nat) (e : TypeId) (v : Value) (xs : List Value) (w : World) (en : Ending) (w' : World) : Prop :=
  ∃ v', en = .returned v' ∧ w'.ownsRow base e 1 v' xs.length xs ∧ Kp (fun k => v.ownBlock = some k) w w' ∧ (v'.ownBlock = v.ownBlock ∨ ∃ g, v'.ownBlock = some g ∧ w.heap.size ≤ g)
theorem Grew.of {base : Nat} {e : TypeId} {v v' : Value} {xs ys news : List Value} {n : Nat} {w W w' : World} (hk : Kp (fun k => v.ownBlock = some k) w W)
    (hown : w'.ownsRow base e 1 v' n (xs ++ news)) (hg : W.grownBy w' v.ownBlock) (hat : v'.ownBlock = v.ownBlock ∨ v'.ownBlock = some W.heap.size) (hy : ys = xs ++ news) :
    Grew base e v ys w (.returned v') w' := by
  subst hy
  have hn : n = (xs ++ news).length := by have := hown.1; omega
  subst hn
  refine ⟨v', rfl, hown, hk.then (Kp.of_grown hg) (fun _ _ h => h), ?_⟩
  rcases hat with h | h
  · exact .inl h
  · exact .inr ⟨_, h, hk.size⟩
theorem Grew.same {base : Nat} {e : TypeId} {v : Value} {xs : List Value} {w w' : World} (hk : Kp (fun k => v.ownBlock = some k) w w') (hown : w'.ownsRow base e 1 v xs.length xs) :
    Grew base e v xs w (.returned v) w' := ⟨v, rfl, hown, hk, .inl rfl⟩

theorem own_slice_le {w : World} {base n : Nat} {e : TypeId} {v : Value} {xs : List Value} (h : w.ownsRow base e 1 v n xs) : ∃ A c, v = .slice A n c ∧ n ≤ c := by
  rcases h.2 with ⟨rfl, rfl⟩ | ⟨g, cap, cur, rfl, _, _, hc, _⟩
  · exact ⟨none, 0, rfl, Nat.le_refl _⟩
  · exact ⟨_, _, rfl, hc⟩
theorem strV_append (a b : List (List UInt8)) : strV (a ++ b) = strV a ++ strV b := by simp [strV]
theorem Mx.drew {g : Nat} {w : World} (h : Mx g w) : Mx g w.drew := h
theorem Mx.alloc {g : Nat} {w : World} (h : Mx g w) (o : Obj) : Mx g (w.alloc o) := h.below ((Below.refl _ _).alloc (Nat.le_refl _) _)

theorem own_below {w w' : World} {B base n : Nat} {e : TypeId} {size : Nat} {v : Value} {xs : List Value} (h : w.ownsRow base e size v n xs) (hb : Below B w w') (hB : w.heap.size ≤ B) : w'.ownsRow base e size v n xs :=
  (Kp.of_below hb).own h (fun k hk hs => by have := (h.lt k hk).2; omega)
theorem kp_below {w w' : World} {v : Value} (hb : Below w.heap.size w w') : Kp (fun k => v.ownBlock = some k) w w' := (Kp.of_below hb).mono (fun k hk h => by omega)
/-- What a call leaves that makes a row of texts. -/
def Made (xs : List (List UInt8)) (w : World) (en : Ending) (w' : World) : Prop :=
  ∃ v', en = .returned v' ∧ w'.ownsRow w.heap.size 9 1 v' xs.length (strV xs) ∧ Below w.heap.size w w'
theorem own_base {w : World} {base base' n : Nat} {e : TypeId} {size : Nat} {v : Value} {xs : List Value} (h : w.ownsRow base e size v n xs) (hb : base' ≤ base) : w.ownsRow base' e size v n xs := by
  refine ⟨h.1, ?_⟩
  rcases h.2 with hn | ⟨g, cap, cur, hv, hg, r⟩
  · exact .inl hn
  · exact .inr ⟨g, cap, cur, hv, by omega, r⟩
theorem Made.later {xs : List (List UInt8)} {w w1 : World} (hb : Below w.heap.size w w1) {en : Ending} {w' : World} (h : Made xs w1 en w') : Made xs w en w' := by
  obtain ⟨v', e, ho, hb'⟩ := h
  exact ⟨v', e, own_base ho hb.size, hb.trans (hb'.mono hb.size)⟩

theorem below_drewN {B : Nat} {w w' : World} (h : Below B w w') (n : Nat) : Below B w (w'.drewN n) := h.trans ⟨rfl, rfl, rfl, Nat.le_refl _, fun _ _ => rfl⟩

theorem calls_later {P : Program} {n : Nat} {args : Array Value} {w w1 : World} {x : Ending} (h : Calls P n args w1 fun e w' => e = x ∧ Below w1.heap.size w1 w') (hb : Below w.heap.size w w1) :
    Calls P n args w1 fun e w' => e = x ∧ Below w.heap.size w w' := h.mono fun _ _ ⟨h1, h2⟩ => ⟨h1, hb.trans (h2.mono hb.size)⟩
theorem size_str (l : List UInt8) : (⟨l.toArray⟩ : ByteArray).size = l.length := by simp [ByteArray.size]
theorem size_arr (l : List UInt8) : (⟨l.toArray⟩ : ByteArray).size = l.length := size_str l
theorem drop_bytes (s : ByteArray) (k : Nat) (h : k < s.size) : s.data.toList.drop k = s[k] :: s.data.toList.drop (k + 1) := by
  rw [List.drop_eq_getElem_cons (by simpa using h)]; rfl
theorem byte_eq {c d : UInt8} (h : c = d) : ((c.toNat : Int) == (d.toNat : Int)) = true := by rw [h]; simp
theorem byte_ne {c d : UInt8} (h : c ≠ d) : ((c.toNat : Int) == (d.toNat : Int)) = false := by
  rw [beq_eq_false_iff_ne]
  intro e
  exact h (UInt8.toNat_inj.1 (by omega))

theorem len_ne {n k : Nat} (h : n ≠ k) : ((n : Int) == (k : Int)) = false := by simp; omega
end Go.Proofs.YtmobeppmdakjmaaDoor
