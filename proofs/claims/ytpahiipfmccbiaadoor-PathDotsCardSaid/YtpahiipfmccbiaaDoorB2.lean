/- Walk: a path through a text (path.Walk), by the iterator over parts. -/
import Derived.Test.YtpahiipfmccbiaaDoorB1
import Derived.Test.YtpahiipfmccbiaaDoorM3
import Derived.Test.YtpahiipfmccbiaaDoorP3
namespace Go.Proofs.YtpahiipfmccbiaaDoor
open Go.RowKit Go.Shelf

set_option maxHeartbeats 400000 in
theorem parts_any (v : Value) (f : Value) (w : World) (A : Option Addr) (n c : Nat) (hv : v = .slice A n c) (fn : Fn) (b1 b2 : Array Value) (hf : f = .func fn b1 b2) :
    Calls Tryd.prog 37 #[v, f] w fun e w' => e = .returned (.func (.func 57) #[] #[.pointer (some ⟨w.heap.size, 0, none⟩), .pointer (some ⟨w.heap.size + 1, 0, none⟩)]) ∧
      w' = (w.alloc (.cells #[v] 22)).alloc (.cells #[f] 61) := by
  subst hv hf
  have hmf : ∀ (fn : Fn) (first cap : Array Value) (w : World), (Instr.makeFunc fn first cap).run Tryd.prog w = .ok (.func fn first cap) w := fun _ _ _ _ => rfl
  go_enter Tryd.func37, Tryd.ntmps37
  go_wp2
  go_ret
  exact ⟨rfl, rfl⟩

attribute [local go_sem] Oper.semAt_some

/-- The blocks of a walk: the name, the path so far, is it special, the text, the predicate, the deferred calls, the loop's record. -/
structure WB where
  (nb ob sb tb ib D l : Nat)
structure WB.Ok (k : WB) : Prop where
  o1 : k.nb < k.ob
  o2 : k.ob < k.sb
  o3 : k.sb < k.tb
  o4 : k.tb < k.ib
  o5 : k.ib < k.D
  o6 : k.D < k.l
/-- Is a block one of these? -/
def WB.has (k : WB) (g : Nat) : Prop := g = k.nb ∨ g = k.ob ∨ g = k.sb ∨ g = k.tb ∨ g = k.ib ∨ g = k.D ∨ g = k.l

/-- What lies in them between two rounds: tv: the text that is left; ls: the path so far; o: the loop's record. -/
structure Fx (k : WB) (w : World) (name : List UInt8) (sp : Bool) (o : Obj) (ls : List (List UInt8)) (tv : Value) (W : World) : Prop where
  below : Below k.nb w W
  bn : W.heap[k.nb]? = some (.cells #[.string ⟨name.toArray⟩] 9 (0, 0))
  bs : W.heap[k.sb]? = some (.cells #[.bool sp] 4 (0, 0))
  bt : W.heap[k.tb]? = some (.cells #[tv] 22 (0, 0))
  bi : W.heap[k.ib]? = some (.cells #[.func (.func 38) #[] #[.pointer (some ⟨k.sb, 0, none⟩)]] 61 (0, 0))
  bD : W.heap[k.D]? = some (.deferred (some []))
  bl : W.heap[k.l]? = some o
  bo : ∃ v, W.heap[k.ob]? = some (.cells #[v] 24 (0, 0)) ∧ W.ownsRow k.nb 9 1 v ls.length (strV ls) ∧ ∀ g, v.ownBlock = some g → ¬ k.has g

/-- Another world, in which none of these blocks has turned. -/
theorem Fx.kept {k : WB} {w : World} {name : List UInt8} {sp : Bool} {o : Obj} {ls : List (List UInt8)} {tv : Value} {W W' : World} {S : Nat → Prop} (h : Fx k w name sp o ls tv W) (hk : Kp S W W')
    (hS : ∀ g, S g → k.nb ≤ g ∧ ¬ k.has g) (hv : ∀ v g, W.heap[k.ob]? = some (.cells #[v] 24 (0, 0)) → v.ownBlock = some g → ¬ S g) : Fx k w name sp o ls tv W' := by
  have lt : ∀ {b : Nat} {x : Obj}, W.heap[b]? = some x → b < W.heap.size := fun hb => (Array.getElem?_eq_some_iff.1 hb).1
  have kp : ∀ {b : Nat} {x : Obj}, k.has b → W.heap[b]? = some x → W'.heap[b]? = some x := fun hb hx => (hk.block _ (lt hx) (fun hs => (hS _ hs).2 hb)).trans hx
  obtain ⟨v, bo, ho, hne⟩ := h.bo
  exact ⟨h.below.trans (hk.below (Nat.le_of_lt (lt h.bn)) (fun j hj hs => by have := (hS j hs).1; omega)), kp (.inl rfl) h.bn, kp (.inr (.inr (.inl rfl))) h.bs, kp (.inr (.inr (.inr (.inl rfl)))) h.bt, kp (.inr (.inr (.inr (.inr (.inl rfl))))) h.bi,
    kp (.inr (.inr (.inr (.inr (.inr (.inl rfl)))))) h.bD, kp (.inr (.inr (.inr (.inr (.inr (.inr rfl)))))) h.bl, v, kp (.inr (.inl rfl)) bo, hk.own ho (fun g hg => hv v g bo hg), hne⟩
/-- A store of a value into one of the boxes, seen block by block. -/
theorem heap_set1 (W : World) (b : Nat) (x u : Value) (t : TypeId) (h : W.heap[b]? = some (.cells #[x] t (0, 0))) : (W.setCell ⟨b, 0, none⟩ u).heap[b]? = some (.cells #[u] t (0, 0)) := by
  simp [World.setCell, Array.getElem?_modify, h]
theorem own_set {W : World} {base n : Nat} {e : TypeId} {size : Nat} {v : Value} {xs : List Value} (h : W.ownsRow base e size v n xs) {p : Addr} (hp : v.ownBlock ≠ some p.block) (u : Value) : (W.setCell p u).ownsRow base e size v n xs :=
  Kp.own ((Kp.refl (fun g => g = p.block) W).setCell (p := p) (fun _ => rfl) u) h (fun g hg e => hp (by rw [hg, e]))
theorem own_put {W : World} {base n : Nat} {e : TypeId} {size : Nat} {v : Value} {xs : List Value} (h : W.ownsRow base e size v n xs) {l : Nat} {o : Obj} (hp : v.ownBlock ≠ some l) : (W.putObj l o).ownsRow base e size v n xs := by
  refine ⟨h.1, ?_⟩
  rcases h.2 with hn | ⟨g, cap, cur, rfl, hb, hg, rest⟩
  · exact .inl hn
  · exact .inr ⟨g, cap, cur, rfl, hb, (World.putObj_heap_other (fun e => hp (by rw [e]; rfl))).trans hg, rest⟩
theorem Fx.put {k : WB} (ok : k.Ok) {w : World} {name : List UInt8} {sp : Bool} {o : Obj} {ls : List (List UInt8)} {tv : Value} {W : World} (h : Fx k w name sp o ls tv W) (o' : Obj) : Fx k w name sp o' ls tv (W.putObj k.l o') := by
  obtain ⟨o1, o2, o3, o4, o5, o6⟩ := ok
  have lt : k.l < W.heap.size := (Array.getElem?_eq_some_iff.1 h.bl).1
  have kp : ∀ {b : Nat} {x : Obj}, b ≠ k.l → W.heap[b]? = some x → (W.putObj k.l o').heap[b]? = some x := fun hb hx => (World.putObj_heap_other hb).trans hx
  obtain ⟨v, bo, ho, hne⟩ := h.bo
  refine ⟨?_, kp (by omega) h.bn, kp (by omega) h.bs, kp (by omega) h.bt, kp (by omega) h.bi, kp (by omega) h.bD, World.putObj_heap_same lt, v, kp (by omega) bo, own_put ho (fun e => hne _ e (.inr (.inr (.inr (.inr (.inr (.inr rfl))))))), hne⟩
  exact h.below.trans ⟨rfl, rfl, rfl, by simp, fun j hj => World.putObj_heap_other (by omega)⟩
/-- A store into the text's box. -/
theorem Fx.setText {k : WB} (ok : k.Ok) {w : World} {name : List UInt8} {sp : Bool} {o : Obj} {ls : List (List UInt8)} {tv : Value} {W : World} (h : Fx k w name sp o ls tv W) (tv' : Value) : Fx k w name sp o ls tv' (W.setCell ⟨k.tb, 0, none⟩ tv') := by
  obtain ⟨o1, o2, o3, o4, o5, o6⟩ := ok
  have kp : ∀ {b : Nat} {x : Obj}, b ≠ k.tb → W.heap[b]? = some x → (W.setCell ⟨k.tb, 0, none⟩ tv').heap[b]? = some x := fun hb hx => (Below.heap_setCell _ _ _ _ hb).trans hx
  obtain ⟨v, bo, ho, hne⟩ := h.bo
  refine ⟨h.below.setCell (p := ⟨k.tb, 0, none⟩) (by show k.nb ≤ k.tb; omega) _, kp (by omega) h.bn, kp (by omega) h.bs, heap_set1 _ _ _ _ _ h.bt, kp (by omega) h.bi, kp (by omega) h.bD, kp (by omega) h.bl, v, kp (by omega) bo, own_set ho (fun e => hne _ e (.inr (.inr (.inr (.inl rfl))))) _, hne⟩
/-- A store of a path into its box. -/
theorem Fx.setPath {k : WB} (ok : k.Ok) {w : World} {name : List UInt8} {sp : Bool} {o : Obj} {ls ls' : List (List UInt8)} {tv : Value} {W : World} (h : Fx k w name sp o ls tv W) (v' : Value) (ho' : W.ownsRow k.nb 9 1 v' ls'.length (strV ls')) (hne' : ∀ g, v'.ownBlock = some g → ¬ k.has g) :
    Fx k w name sp o ls' tv (W.setCell ⟨k.ob, 0, none⟩ v') := by
  obtain ⟨o1, o2, o3, o4, o5, o6⟩ := ok
  have kp : ∀ {b : Nat} {x : Obj}, b ≠ k.ob → W.heap[b]? = some x → (W.setCell ⟨k.ob, 0, none⟩ v').heap[b]? = some x := fun hb hx => (Below.heap_setCell _ _ _ _ hb).trans hx
  obtain ⟨v, bo, ho, hne⟩ := h.bo
  refine ⟨h.below.setCell (p := ⟨k.ob, 0, none⟩) (by show k.nb ≤ k.ob; omega) _, kp (by omega) h.bn, kp (by omega) h.bs, kp (by omega) h.bt, kp (by omega) h.bi, kp (by omega) h.bD, kp (by omega) h.bl, v', heap_set1 _ _ _ _ _ bo, own_set ho' (fun e => hne' _ e (.inr (.inl rfl))) _, hne'⟩

/-- Behind a call that may have turned the old path's own block: the new path goes into its box. -/
theorem Fx.went {k : WB} (ok : k.Ok) {w : World} {name : List UInt8} {sp : Bool} {o : Obj} {ls ls' : List (List UInt8)} {tv : Value} {W W' : World} {S : Nat → Prop} (h : Fx k w name sp o ls tv W) (hk : Kp S W W')
    (hS : ∀ g, S g → k.nb ≤ g ∧ ¬ k.has g) (v' : Value) (ho' : W'.ownsRow k.nb 9 1 v' ls'.length (strV ls')) (hne' : ∀ g, v'.ownBlock = some g → ¬ k.has g) : Fx k w name sp o ls' tv (W'.setCell ⟨k.ob, 0, none⟩ v') := by
  obtain ⟨o1, o2, o3, o4, o5, o6⟩ := ok
  have lt : ∀ {b : Nat} {x : Obj}, W.heap[b]? = some x → b < W.heap.size := fun hb => (Array.getElem?_eq_some_iff.1 hb).1
  have kp0 : ∀ {b : Nat} {x : Obj}, k.has b → W.heap[b]? = some x → W'.heap[b]? = some x := fun hb hx => (hk.block _ (lt hx) (fun hs => (hS _ hs).2 hb)).trans hx
  have kp : ∀ {b : Nat} {x : Obj}, b ≠ k.ob → k.has b → W.heap[b]? = some x → (W'.setCell ⟨k.ob, 0, none⟩ v').heap[b]? = some x := fun hb hh hx => (Below.heap_setCell _ _ _ _ hb).trans (kp0 hh hx)
  obtain ⟨v, bo, _, _⟩ := h.bo
  have hbel : Below k.nb w W' := h.below.trans (hk.below (Nat.le_of_lt (lt h.bn)) (fun j hj hs => by have := (hS j hs).1; omega))
  exact ⟨hbel.setCell (p := ⟨k.ob, 0, none⟩) (by show k.nb ≤ k.ob; omega) _, kp (by omega) (.inl rfl) h.bn, kp (by omega) (.inr (.inr (.inl rfl))) h.bs, kp (by omega) (.inr (.inr (.inr (.inl rfl)))) h.bt, kp (by omega) (.inr (.inr (.inr (.inr (.inl rfl))))) h.bi,
    kp (by omega) (.inr (.inr (.inr (.inr (.inr (.inl rfl)))))) h.bD, kp (by omega) (.inr (.inr (.inr (.inr (.inr (.inr rfl)))))) h.bl, v', heap_set1 _ _ _ _ _ (kp0 (.inr (.inl rfl)) bo), own_set ho' (fun e => hne' _ e (.inr (.inl rfl))) _, hne'⟩
/-- A round's state: the part (its slice, its code points, is it the last), the path so far, the text that is left and its slice. -/
structure PS where
  A : Option Addr
  c : Nat
  rs : List Int
  last : Bool
  ls : List (List UInt8)
  rem : List Int
  AT : Option Addr
  cT : Nat
structure PG (k : WB) (w : World) (s : PS) : Prop where
  rA : Rd w k.nb s.A (runV s.rs)
  lrs : s.rs.length ≤ 524288
  lls : s.ls.length ≤ 1048576
  sm : ∀ x ∈ s.ls, x.length ≤ 70368744177664
def PS.arg (s : PS) : Value := .agg #[.slice s.A s.rs.length s.c, .bool s.last]
def PS.tv (s : PS) : Value := .slice s.AT s.rem.length s.cT
def IP (k : WB) (w : World) (name : List UInt8) (sp : Bool) (o : Obj) (s : PS) (W : World) : Prop := Fx k w name sp o s.ls s.tv W ∧ PG k w s
def IP1 (k : WB) (w : World) (name : List UInt8) (sp : Bool) (f : Value → Value → Array Value) (o : Obj) (s : PS) (a₁ : Act) (W : World) : Prop :=
  IP k w name sp o s W ∧ ∃ pb, a₁ = { tmps := f (.pointer (some ⟨pb, 0, none⟩)) s.arg, defers := [] } ∧ W.heap[pb]? = some (.cells #[.slice s.A s.rs.length s.c, .bool s.last] 63 (0, 0)) ∧ ¬ k.has pb ∧ k.nb ≤ pb ∧
    ∀ v g, W.heap[k.ob]? = some (.cells #[v] 24 (0, 0)) → v.ownBlock = some g → g ≠ pb
def JP (k : WB) (w : World) (name : List UInt8) (sp : Bool) (o : Obj) (s : PS) (W : World) : Prop := Fx k w name sp o (putP name s.ls s.rs s.last) s.tv W

theorem IP1.put {k : WB} (ok : k.Ok) {w : World} {name : List UInt8} {sp : Bool} {f : Value → Value → Array Value} {o : Obj} (o' : Obj) {s : PS} {a₁ : Act} {W : World} (h : IP1 k w name sp f o s a₁ W) : IP1 k w name sp f o' s a₁ (W.putObj k.l o') := by
  obtain ⟨⟨hf, hg⟩, pb, ha, hb, hn, hl, hv⟩ := h
  have hob : k.ob ≠ k.l := by have := ok.o2; have := ok.o3; have := ok.o4; have := ok.o5; have := ok.o6; omega
  exact ⟨⟨hf.put ok o', hg⟩, pb, ha, (World.putObj_heap_other (fun e => hn (.inr (.inr (.inr (.inr (.inr (.inr e)))))))).trans hb, hn, hl, fun v g h1 h2 => hv v g ((World.putObj_heap_other hob).symm.trans h1) h2⟩

set_option maxHeartbeats 2000000 in
set_option maxRecDepth 100000 in
theorem walk_any (name : List UInt8) (A : Option Addr) (c : Nat) (ls : List (List UInt8)) (T : Option Addr) (d : Nat) (ts : List Int) (w : World) (B : Nat) (hA : Rd w B A (strV ls)) (hT : Rd w B T (runV ts)) (hB : B ≤ w.heap.size)
    (hl : ls.length ≤ 524288) (ht : ts.length ≤ 524288) (hd : ts.length ≤ d) (hn : name.length ≤ 1048576) (hs : ∀ s ∈ ls, s.length ≤ 1099511627776) (hm : Mx 0 w) :
    Calls Tryd.prog 12 #[.string ⟨name.toArray⟩, .slice A ls.length c, .slice T ts.length d] w (Made (walk name ls ts) w) := by
  have hmf : ∀ (fn : Fn) (first cap : Array Value) (w : World), (Instr.makeFunc fn first cap).run Tryd.prog w = .ok (.func fn first cap) w := fun _ _ _ _ => rfl
  have c0 : (w.alloc (.cells #[.string ⟨name.toArray⟩] 9)).cell? ⟨w.heap.size, 0, none⟩ = some (.string ⟨name.toArray⟩) := by rw [World.cell?_alloc_at _ _ _ _ rfl]; rfl
  refine (callsIn_wide (n := 3)).1 ?_
  refine callsIn_of_wp_marks Tryd.func12 rfl trivial ?_ rfl
  simp only [Tryd.ntmps12, List.size_toArray, List.length_cons, List.length_nil, Nat.reduceAdd, Nat.reduceSub, Array.replicate_succ, Array.replicate_zero, List.push_toArray, List.append_toArray, List.nil_append, List.cons_append]
  gi_wp2_with fail
  refine ⟨trivial, ?_⟩
  refine (callsIn_wide.2 (clone_any A c ls _ B (hA.alloc hB _) (by omega))).mono ?_
  rintro e w1 ⟨v0, rfl, hown1, hb1⟩
  rw [World.size_alloc] at hown1 hb1
  obtain ⟨A0, k0, rfl, hk0⟩ := own_slice_le hown1
  have hs1 := hb1.size
  simp only [World.size_alloc] at hs1
  have hbk1 : w1.heap[w.heap.size]? = some (.cells #[.string ⟨name.toArray⟩] 9 (0, 0)) := (hb1.block _ (by omega)).trans (heap_alloc_new w _)
  have hbk1o : (w1.alloc (.cells #[.slice A0 ls.length k0] 24)).heap[w.heap.size]? = some (.cells #[.string ⟨name.toArray⟩] 9 (0, 0)) := (Below.heap_alloc _ _ _ (by omega)).trans hbk1
  have c1 : (w1.alloc (.cells #[.slice A0 ls.length k0] 24)).cell? ⟨w.heap.size, 0, none⟩ = some (.string ⟨name.toArray⟩) := by rw [Lib.cell_of_heap hbk1o]; rfl
  clear c0
  have Hbk1o := Lib.hid hbk1o
  clear hbk1o hbk1
  gi_wp2_with fail
  refine ⟨trivial, ?_⟩
  refine (callsIn_wide.2 (special_any name _ (by omega))).mono ?_
  rintro e w2 ⟨rfl, hb2⟩
  have hs2 := hb2.size
  simp only [World.size_alloc] at hs2 hb2
  gi_wp2_with fail
  refine ⟨trivial, ?_⟩
  refine (callsIn_wide.2 (parts_any _ _ _ T ts.length d rfl _ _ _ rfl)).mono ?_
  rintro e w3 ⟨rfl, rfl⟩
  gi_wp2_with fail
  have hs3 : (((w2.alloc (.cells #[.bool (special name)] 4)).alloc (.cells #[.slice T ts.length d] 22)).alloc (.cells #[.func (.func 38) #[] #[.pointer (some ⟨w2.heap.size, 0, none⟩)]] 61)).heap.size = w2.heap.size + 3 := by simp
  have hbn : (((w2.alloc (.cells #[.bool (special name)] 4)).alloc (.cells #[.slice T ts.length d] 22)).alloc (.cells #[.func (.func 38) #[] #[.pointer (some ⟨w2.heap.size, 0, none⟩)]] 61)).heap[w.heap.size]? = some (.cells #[.string ⟨name.toArray⟩] 9 (0, 0)) := by
    rw [Below.heap_alloc _ _ _ (by simp; omega), Below.heap_alloc _ _ _ (by simp; omega), Below.heap_alloc _ _ _ (by omega), hb2.block _ (by omega)]
    exact Hbk1o.out
  have hbo : (((w2.alloc (.cells #[.bool (special name)] 4)).alloc (.cells #[.slice T ts.length d] 22)).alloc (.cells #[.func (.func 38) #[] #[.pointer (some ⟨w2.heap.size, 0, none⟩)]] 61)).heap[w1.heap.size]? = some (.cells #[.slice A0 ls.length k0] 24 (0, 0)) := by
    rw [Below.heap_alloc _ _ _ (by simp; omega), Below.heap_alloc _ _ _ (by simp; omega), Below.heap_alloc _ _ _ (by omega), hb2.block _ (by omega)]
    exact heap_alloc_new w1 _
  have hbs : (((w2.alloc (.cells #[.bool (special name)] 4)).alloc (.cells #[.slice T ts.length d] 22)).alloc (.cells #[.func (.func 38) #[] #[.pointer (some ⟨w2.heap.size, 0, none⟩)]] 61)).heap[w2.heap.size]? = some (.cells #[.bool (special name)] 4 (0, 0)) := by
    rw [Below.heap_alloc _ _ _ (by simp; omega), Below.heap_alloc _ _ _ (by simp)]
    exact heap_alloc_new w2 _
  have hbt : (((w2.alloc (.cells #[.bool (special name)] 4)).alloc (.cells #[.slice T ts.length d] 22)).alloc (.cells #[.func (.func 38) #[] #[.pointer (some ⟨w2.heap.size, 0, none⟩)]] 61)).heap[w2.heap.size + 1]? = some (.cells #[.slice T ts.length d] 22 (0, 0)) := by
    rw [Below.heap_alloc _ _ _ (by simp)]
    have := heap_alloc_new (w2.alloc (.cells #[.bool (special name)] 4)) (.cells #[.slice T ts.length d] 22)
    rwa [World.size_alloc] at this
  have hbi : (((w2.alloc (.cells #[.bool (special name)] 4)).alloc (.cells #[.slice T ts.length d] 22)).alloc (.cells #[.func (.func 38) #[] #[.pointer (some ⟨w2.heap.size, 0, none⟩)]] 61)).heap[w2.heap.size + 2]? = some (.cells #[.func (.func 38) #[] #[.pointer (some ⟨w2.heap.size, 0, none⟩)]] 61 (0, 0)) := by
    have := heap_alloc_new ((w2.alloc (.cells #[.bool (special name)] 4)).alloc (.cells #[.slice T ts.length d] 22)) (.cells #[.func (.func 38) #[] #[.pointer (some ⟨w2.heap.size, 0, none⟩)]] 61)
    rwa [World.size_alloc, World.size_alloc] at this
  have hbel : Below w.heap.size w (((w2.alloc (.cells #[.bool (special name)] 4)).alloc (.cells #[.slice T ts.length d] 22)).alloc (.cells #[.func (.func 38) #[] #[.pointer (some ⟨w2.heap.size, 0, none⟩)]] 61)) :=
    ((((((Below.refl _ w).alloc (Nat.le_refl _) _).trans (hb1.mono (by omega))).alloc (by omega) _).trans (hb2.mono (by omega))).alloc (by omega) _ |>.alloc (by simp; omega) _).alloc (by simp; omega) _
  have hownL : (((w2.alloc (.cells #[.bool (special name)] 4)).alloc (.cells #[.slice T ts.length d] 22)).alloc (.cells #[.func (.func 38) #[] #[.pointer (some ⟨w2.heap.size, 0, none⟩)]] 61)).ownsRow w.heap.size 9 1 (.slice A0 ls.length k0) ls.length (strV ls) :=
    own_base (((own_below (hown1.alloc _) hb2 (by simp)).alloc _ |>.alloc _).alloc _) (by omega)
  have hvlt : ∀ g, (Value.slice A0 ls.length k0).ownBlock = some g → w.heap.size + 1 ≤ g ∧ g < w1.heap.size := hown1.lt
  generalize (((w2.alloc (.cells #[.bool (special name)] 4)).alloc (.cells #[.slice T ts.length d] 22)).alloc (.cells #[.func (.func 38) #[] #[.pointer (some ⟨w2.heap.size, 0, none⟩)]] 61)) = wL at *
  have ok : WB.Ok ⟨w.heap.size, w1.heap.size, w2.heap.size, w2.heap.size + 1, w2.heap.size + 2, wL.heap.size, wL.heap.size + 1⟩ := ⟨by show w.heap.size < w1.heap.size; omega, by show w1.heap.size < w2.heap.size; omega, by show w2.heap.size < w2.heap.size + 1; omega, by show w2.heap.size + 1 < w2.heap.size + 2; omega, by show w2.heap.size + 2 < wL.heap.size; omega, by show wL.heap.size < wL.heap.size + 1; omega⟩
  have Hok := Lib.hid ok
  have Hs3 := Lib.hid hs3
  have Hs2 := Lib.hid hs2
  clear hs2 hb2 hb1 Hbk1o c1 hs3
  refine wpIn_rangeFunc_st (σ := PS) (gf := 57) (lb := #[.pointer (some ⟨w2.heap.size + 1, 0, none⟩), .pointer (some ⟨w2.heap.size + 2, 0, none⟩)]) rfl (enters_of Tryd.func57 (by kernel_rfl) rfl)
    (IP ⟨w.heap.size, w1.heap.size, w2.heap.size, w2.heap.size + 1, w2.heap.size + 2, wL.heap.size, wL.heap.size + 1⟩ w name (special name))
    (IP1 ⟨w.heap.size, w1.heap.size, w2.heap.size, w2.heap.size + 1, w2.heap.size + 2, wL.heap.size, wL.heap.size + 1⟩ w name (special name)
      (fun p9 p17 => #[.string ⟨name.toArray⟩, .slice A ls.length c, .slice T ts.length d, .pointer (some ⟨w.heap.size, 0, none⟩), undef, undef, .slice none 0 0, .pointer (some ⟨w1.heap.size, 0, none⟩), .pointer (some ⟨w2.heap.size, 0, none⟩), p9, .slice A ls.length c, .slice A0 ls.length k0, .string ⟨name.toArray⟩, .bool (special name), .slice T ts.length d, .func (.func 38) #[] #[.pointer (some ⟨w2.heap.size, 0, none⟩)], .func (.func 57) #[] #[.pointer (some ⟨w2.heap.size + 1, 0, none⟩), .pointer (some ⟨w2.heap.size + 2, 0, none⟩)], p17, undef, undef, undef, undef, undef]))
    (JP ⟨w.heap.size, w1.heap.size, w2.heap.size, w2.heap.size + 1, w2.heap.size + 2, wL.heap.size, wL.heap.size + 1⟩ w name (special name))
    (fun o W => ∃ tv, Fx ⟨w.heap.size, w1.heap.size, w2.heap.size, w2.heap.size + 1, w2.heap.size + 2, wL.heap.size, wL.heap.size + 1⟩ w name (special name) o (walk name ls ts) tv W)
    (fun s => #[s.arg]) (fun _ => rfl) (fun o s W h => h.1.bl) (fun o s a₁ W h => h.1.1.bl) (fun o o' s a₁ W h => h.put Hok.out o') (fun o s W h => h.bl) (fun o o' s W h => h.put Hok.out o') (fun o W h => by obtain ⟨tv, h⟩ := h; exact h.bl) ?assign ?body ?iter ?done
  case assign =>
    intro o s W K hi hK
    have hlt : ∀ g, WB.has ⟨w.heap.size, w1.heap.size, w2.heap.size, w2.heap.size + 1, w2.heap.size + 2, wL.heap.size, wL.heap.size + 1⟩ g → g < W.heap.size := by
      have h1 : wL.heap.size + 1 < W.heap.size := (Array.getElem?_eq_some_iff.1 hi.1.bl).1
      intro g hg
      simp only [WB.has] at hg
      have := Hs3.out
      have := Hs2.out
      omega
    have hi' : IP ⟨w.heap.size, w1.heap.size, w2.heap.size, w2.heap.size + 1, w2.heap.size + 2, wL.heap.size, wL.heap.size + 1⟩ w name (special name) o s (W.alloc (.cells #[.slice s.A s.rs.length s.c, .bool s.last] 63)) :=
      ⟨hi.1.kept ((Kp.refl (fun _ => False) W).alloc _) (fun _ h => h.elim) (fun _ _ _ _ h => h), hi.2⟩
    have hvp : ∀ v g, (W.alloc (.cells #[.slice s.A s.rs.length s.c, .bool s.last] 63)).heap[w1.heap.size]? = some (.cells #[v] 24 (0, 0)) → v.ownBlock = some g → g ≠ W.heap.size := by
      intro v g hv hg
      obtain ⟨v', bo, ho, _⟩ := hi.1.bo
      rw [Below.heap_alloc _ _ _ (hlt _ (.inr (.inl rfl)))] at hv
      have e := bo.symm.trans hv
      injection e with e
      injection e with e _
      have e2 : v' = v := by simpa using e
      subst e2
      have := (ho.lt g hg).2
      omega
    have Hi := Lib.hid hi'
    have Hvp := Lib.hid hvp
    clear hi hi' hvp
    have harg : s.arg = Value.agg #[.slice s.A s.rs.length s.c, .bool s.last] := rfl
    gi_wp2
    refine ⟨Hi.out, W.heap.size, rfl, heap_alloc_new W _, fun h => Nat.lt_irrefl _ (hlt _ h), ?_, Hvp.out⟩
    exact Nat.le_of_lt (hlt _ (.inl rfl))
  case body =>
    rintro o s a₁ W ⟨⟨hf, hg⟩, pb, rfl, hpb, hnh, hle, hvp⟩
    obtain ⟨v, bo, ho, hne⟩ := hf.bo
    have hnb : W.heap[w.heap.size]? = some (.cells #[.string ⟨name.toArray⟩] 9 (0, 0)) := hf.bn
    have hbo' : W.heap[w1.heap.size]? = some (.cells #[v] 24 (0, 0)) := bo
    have cn : W.cell? ⟨w.heap.size, 0, none⟩ = some (.string ⟨name.toArray⟩) := by rw [Lib.cell_of_heap hnb]; rfl
    have co : W.cell? ⟨w1.heap.size, 0, none⟩ = some v := by rw [Lib.cell_of_heap hbo']; rfl
    have cp0 : W.cell? ⟨pb, 0, none⟩ = some (.slice s.A s.rs.length s.c) := by rw [Lib.cell_of_heap hpb]; rfl
    have cp1 : W.cell? ⟨pb, 1, none⟩ = some (.bool s.last) := by rw [Lib.cell_of_heap hpb]; rfl
    have hsz : w.heap.size ≤ W.heap.size := hf.below.size
    have hmW : Mx 0 W := hm.below hf.below
    have hput := put_all name w.heap.size v s.ls s.A s.c s.rs s.last W w.heap.size ho (hg.rA.below hf.below) hsz hmW hsz hg.lls (by have := hg.lrs; omega) hg.sm
    have Hput := Lib.hid hput
    have Hf := Lib.hid hf
    have Hlo : Hid (∀ g, v.ownBlock = some g → w.heap.size ≤ g) := fun g hg => (ho.lt g hg).1
    have Hne := Lib.hid hne
    have Hvp := Lib.hid hvp
    clear hput hf hne hvp ho bo hmW hnb hpb
    gi_wp2_with fail
    refine ⟨trivial, ?_⟩
    refine (CallsIn.inRound _ (callsIn_wide.2 Hput.out)).mono ?_
    rintro e W2 ⟨v', rfl, ho', hk', hown'⟩
    have hS : ∀ g, v.ownBlock = some g → w.heap.size ≤ g ∧ ¬ WB.has ⟨w.heap.size, w1.heap.size, w2.heap.size, w2.heap.size + 1, w2.heap.size + 2, wL.heap.size, wL.heap.size + 1⟩ g := fun g hg => ⟨Hlo.out g hg, Hne.out g hg⟩
    have hbo2 : W2.heap[w1.heap.size]? = some (.cells #[v] 24 (0, 0)) := (hk'.block _ (Array.getElem?_eq_some_iff.1 hbo').1 (fun hs => Hne.out _ hs (.inr (.inl rfl)))).trans hbo'
    have co2 : W2.cell? ⟨w1.heap.size, 0, none⟩ = some v := by rw [Lib.cell_of_heap hbo2]; rfl
    have fo2 : W2.frozen? ⟨w1.heap.size, 0, none⟩ = false := Lib.frozen_of_heap hbo2 0
    obtain ⟨v2, bo2, ho2, hne2⟩ := Hf.out.bo
    have ev : v2 = v := by
      have e := bo2.symm.trans hbo'
      injection e with e
      injection e with e _
      simpa using e
    subst ev
    have hlts : ∀ g, WB.has ⟨w.heap.size, w1.heap.size, w2.heap.size, w2.heap.size + 1, w2.heap.size + 2, wL.heap.size, wL.heap.size + 1⟩ g → g < W.heap.size := by
      have h1 : wL.heap.size + 1 < W.heap.size := (Array.getElem?_eq_some_iff.1 Hf.out.bl).1
      intro g hg
      simp only [WB.has] at hg
      have := Hs3.out
      have := Hs2.out
      omega
    have hne' : ∀ g, v'.ownBlock = some g → ¬ WB.has ⟨w.heap.size, w1.heap.size, w2.heap.size, w2.heap.size + 1, w2.heap.size + 2, wL.heap.size, wL.heap.size + 1⟩ g := fun g hg hh => by
      rcases hown' g hg with h | h
      · exact Hne.out g h hh
      · have := hlts g hh; omega
    have hfx2 := Hf.out.went Hok.out hk' (fun g hs => hS g hs) v' ho' hne'
    have Hfx2 := Lib.hid hfx2
    obtain ⟨A2, c2, rfl⟩ := own_slice ho'
    clear hfx2 hne' hlts hne2 ho2 bo2 hbo2 hS hk' hown' ho' hbo' hvlt hg hm hbn hbo hbs hbt hbi hbel hownL
    gi_wp2
    exact Hfx2.out
  case iter =>
    intro o hY
    have hmem : ∀ (ls' : List (List UInt8)) (p : List Int) (last : Bool), p.length ≤ 524288 → (∀ x ∈ ls', x.length ≤ 70368744177664) → ∀ x ∈ putP name ls' p last, x.length ≤ 70368744177664 := by
      intro ls' p last hp hx x h
      rcases putP_mem h with h | h | h
      · exact hx x h
      · omega
      · subst h; have := enc_le p; omega
    show CallsIn Fence.wide 2 Tryd.prog 57 #[.func (.yield (wL.heap.size + 1)) #[] #[], .pointer (some ⟨w2.heap.size + 1, 0, none⟩), .pointer (some ⟨w2.heap.size + 2, 0, none⟩)] _ _
    refine parts1_in 2 (special name) w2.heap.size (w2.heap.size + 1) (w2.heap.size + 2) (wL.heap.size + 1)
      (fun rem W => ∃ A c ls', Fx (WB.mk w.heap.size w1.heap.size w2.heap.size (w2.heap.size + 1) (w2.heap.size + 2) wL.heap.size (wL.heap.size + 1)) w name (special name) o ls' (.slice A rem.length c) W ∧ Rd w w.heap.size A (runV rem) ∧ rem.length ≤ c ∧ walkGo name (special name) [] rem ls' = walk name ls ts ∧ ls'.length + rem.length + 1 ≤ 1048577 ∧ rem.length ≤ 524288 ∧ ∀ x ∈ ls', x.length ≤ 70368744177664)
      (fun k rem A c W => ∃ ls', Fx (WB.mk w.heap.size w1.heap.size w2.heap.size (w2.heap.size + 1) (w2.heap.size + 2) wL.heap.size (wL.heap.size + 1)) w name (special name) o (putP name ls' (rem.take k) false) (.slice A rem.length c) W ∧ Rd w w.heap.size A (runV rem) ∧ k < rem.length ∧ rem.length ≤ c ∧ walkGo name (special name) [] (rem.drop (k + 1)) (putP name ls' (rem.take k) false) = walk name ls ts ∧ ls'.length + rem.length + 1 ≤ 1048577 ∧ rem.length ≤ 524288 ∧ ∀ x ∈ ls', x.length ≤ 70368744177664)
      (fun W => ∃ tv, Fx (WB.mk w.heap.size w1.heap.size w2.heap.size (w2.heap.size + 1) (w2.heap.size + 2) wL.heap.size (wL.heap.size + 1)) w name (special name) o (walk name ls ts) tv W) ?hI ?hY1 ?hY2 ?hM ?hM2 ts _ ?h0
    case hI =>
      rintro rem W ⟨A', c', ls', hfx, hrd, hc, _, _, hl', _⟩
      have h1 : W.heap[w2.heap.size + 1]? = some (.cells #[.slice A' rem.length c'] 22 (0, 0)) := hfx.bt
      have h2 : W.heap[w2.heap.size + 2]? = some (.cells #[.func (.func 38) #[] #[.pointer (some ⟨w2.heap.size, 0, none⟩)]] 61 (0, 0)) := hfx.bi
      have h3 : W.heap[w2.heap.size]? = some (.cells #[.bool (special name)] 4 (0, 0)) := hfx.bs
      exact ⟨A', c', w.heap.size, hc, by omega, hrd.below hfx.below, by rw [Lib.cell_of_heap h1]; rfl, by rw [Lib.cell_of_heap h2]; rfl, by rw [Lib.cell_of_heap h3]; rfl⟩
    case hY1 =>
      rintro rem A1 c1 W ⟨A', c', ls', hfx, hrd, hc, hw, hln, hl', hm'⟩ hcell hs
      have h1 : W.heap[w2.heap.size + 1]? = some (.cells #[.slice A' rem.length c'] 22 (0, 0)) := hfx.bt
      have e : W.cell? ⟨w2.heap.size + 1, 0, none⟩ = some (.slice A' rem.length c') := by rw [Lib.cell_of_heap h1]; rfl
      rw [e] at hcell
      injection hcell with hcell
      injection hcell with e1 _ e2
      subst e1 e2
      have hfi : rem.findIdx? (isSep (special name)) = none := by
        unfold sepIdx at hs
        split at hs
        · omega
        · assumption
      rw [walkGo_none _ _ _ _ _ hfi, List.nil_append] at hw
      have hy := hY ⟨A', c', rem, true, ls', rem, A', c'⟩ W ⟨hfx, hrd, hl', by show ls'.length ≤ 1048576; omega, hm'⟩
      obtain ⟨fn, tmps, assign, body, hyr, hR⟩ := hy
      refine ⟨fn, tmps, assign, body, hyr, hR.mono ?_⟩
      rintro e W' ⟨rfl, hj⟩
      refine ⟨rfl, .slice A' rem.length c', ?_⟩
      rw [← hw]
      exact hj
    case hY2 =>
      rintro rem A1 c1 k W ⟨A', c', ls', hfx, hrd, hc, hw, hln, hl', hm'⟩ hcell hs
      have h1 : W.heap[w2.heap.size + 1]? = some (.cells #[.slice A' rem.length c'] 22 (0, 0)) := hfx.bt
      have e : W.cell? ⟨w2.heap.size + 1, 0, none⟩ = some (.slice A' rem.length c') := by rw [Lib.cell_of_heap h1]; rfl
      rw [e] at hcell
      injection hcell with hcell
      injection hcell with e1 _ e2
      subst e1 e2
      have hklt := sepIdx_lt hs
      have hfi : rem.findIdx? (isSep (special name)) = some k := by
        unfold sepIdx at hs
        split at hs
        · rename_i j hj; rw [hj]; congr 1; omega
        · omega
      rw [walkGo_some _ _ _ _ _ _ hfi, List.nil_append] at hw
      have hkl : (rem.take k).length = k := by rw [List.length_take]; omega
      have hrt : Rd w w.heap.size A' (runV (rem.take k)) := by
        have := hrd.take k
        rwa [runV, ← List.map_take] at this
      have hy := hY ⟨A', c', rem.take k, false, ls', rem, A', c'⟩ W ⟨hfx, hrt, by show (rem.take k).length ≤ 524288; omega, by show ls'.length ≤ 1048576; omega, hm'⟩
      have ha : PS.arg ⟨A', c', rem.take k, false, ls', rem, A', c'⟩ = .agg #[.slice A' k c', .bool false] := by
        show Value.agg #[.slice A' (rem.take k).length c', .bool false] = _
        rw [hkl]
      rw [ha] at hy
      obtain ⟨fn, tmps, assign, body, hyr, hR⟩ := hy
      refine ⟨fn, tmps, assign, body, hyr, hR.mono ?_⟩
      rintro e W' ⟨rfl, hj⟩
      exact ⟨rfl, ls', hj, hrd, hklt, hc, hw, hln, hl', hm'⟩
    case hM =>
      rintro k rem A1 c1 W ⟨ls', hfx, _⟩
      have h1 : W.heap[w2.heap.size + 1]? = some (.cells #[.slice A1 rem.length c1] 22 (0, 0)) := hfx.bt
      exact ⟨by rw [Lib.cell_of_heap h1]; rfl, Lib.frozen_of_heap h1 0⟩
    case hM2 =>
      rintro k rem A1 c1 W ⟨ls', hfx, hrd, hk, hc, hw, hln, hl', hm'⟩
      have hadd : (fun x : Addr => ({ block := x.block, off := x.off + (k + 1) } : Addr)) = fun x => ⟨x.block, x.off + (k + 1), none⟩ := rfl
      have hlen : (rem.drop (k + 1)).length = rem.length - (k + 1) := List.length_drop
      have hpl := putP_len name ls' (rem.take k) false
      have htk : (rem.take k).length ≤ 524288 := by rw [List.length_take]; omega
      refine ⟨(if c1 = k + 1 then A1 else Option.map (fun x => { block := x.block, off := x.off + (k + 1) }) A1), c1 - (k + 1), putP name ls' (rem.take k) false, ?_, ?_, ?_, hw, ?_, ?_, hmem _ _ _ htk hm'⟩
      · rw [hlen]; exact hfx.setText Hok.out _
      · have := hrd.drop (k + 1) c1 (by simpa [runV] using hc)
        have e : (if c1 = k + 1 then A1 else Option.map (fun x => ({ block := x.block, off := x.off + (k + 1) } : Addr)) A1) = (if c1 = k + 1 then A1 else A1.map (·.add (k + 1))) ∨ rem.length = 0 := by
          by_cases h0 : rem = []
          · right; simp [h0]
          · left
            obtain ⟨r0, t0, rfl⟩ := List.exists_cons_of_ne_nil h0
            obtain ⟨b, off, rfl, _, _⟩ := hrd 0 _ rfl
            simp [addr_add]
        rcases e with e | e
        · rw [e]
          rwa [runV, ← List.map_drop] at this
        · omega
      · omega
      · omega
      · omega
    case h0 =>
      have hlt : WB.Ok (WB.mk w.heap.size w1.heap.size w2.heap.size (w2.heap.size + 1) (w2.heap.size + 2) wL.heap.size (wL.heap.size + 1)) := Hok.out
      have s3 := Hs3.out
      have s2 := Hs2.out
      have up : ∀ {b : Nat} {x : Obj}, wL.heap[b]? = some x → ((wL.alloc (.deferred (some []))).alloc o).heap[b]? = some x := fun {b x} h => by
        have h' := (Array.getElem?_eq_some_iff.1 h).1
        rw [Below.heap_alloc _ _ _ (by simp; omega), Below.heap_alloc _ _ _ h']
        exact h
      refine ⟨T, d, ls, ⟨(hbel.alloc (by omega) _).alloc (by simp; omega) _, up hbn, up hbs, up hbt, up hbi, ?_, ?_, .slice A0 ls.length k0, up hbo, (hownL.alloc _).alloc _, ?_⟩, hT.more hB, hd, rfl, by omega, ht, fun x hx => by have := hs x hx; omega⟩
      · rw [Below.heap_alloc _ _ _ (by simp)]; exact heap_alloc_new wL _
      · have := heap_alloc_new (wL.alloc (.deferred (some []))) o
        rwa [World.size_alloc] at this
      · intro g hg hh
        have := hvlt g hg
        simp only [WB.has] at hh
        omega
  case done =>
    rintro o o' W ⟨tv, hfx⟩
    obtain ⟨v, bo, ho, hne⟩ := hfx.bo
    have hp := hfx.put Hok.out o'
    obtain ⟨v', bo', ho', hne'⟩ := hp.bo
    have hboP : (W.putObj (wL.heap.size + 1) o').heap[w1.heap.size]? = some (.cells #[v'] 24 (0, 0)) := bo'
    have co : (W.putObj (wL.heap.size + 1) o').cell? ⟨w1.heap.size, 0, none⟩ = some v' := by rw [Lib.cell_of_heap hboP]; rfl
    have hD : (W.putObj (wL.heap.size + 1) o').heap[wL.heap.size]? = some (.deferred (some [])) := hp.bD
    have HD := Lib.hid hD
    have Hb := Lib.hid hp.below
    have Ho := Lib.hid ho'
    have Hne := Lib.hid hne'
    have hown : Hid (v'.ownBlock ≠ some wL.heap.size) := fun e => hne' _ e (.inr (.inr (.inr (.inr (.inr (.inl rfl))))))
    clear hfx bo ho hne hp ho' hne' bo' hboP hD
    generalize W.putObj (wL.heap.size + 1) o' = WF at *
    gi_wp2
    refine ⟨by simp, .inl ⟨_, _, rfl, run_takeDeferred HD.out, ?_⟩⟩
    refine ⟨_, results_tmp rfl _ _ _, v', rfl, own_put Ho.out hown.out, Hb.out.trans ⟨rfl, rfl, rfl, by simp, fun j hj => World.putObj_heap_other (by have := Hs3.out; have := Hs2.out; omega)⟩⟩
#print axioms walk_any
end Go.Proofs.YtpahiipfmccbiaaDoor
