/- Words on memory that all walks of this seat share: a slice that reads as a list; a slice of the call's own; append; the library's variable MaxLen. -/
import Derived.Below
import Derived.Laws.OwnMore
import Derived.Deep.Draws
import Derived.Maps.AppendAt
import Derived.OwnWalk
import Derived.Lib.Hide
import Derived.Laws.NewBlocks
namespace Go.Proofs.YtmobeppmdakjmaaDoor
open Go.RowKit

/-- The slice with address A reads, cell by cell, as xs, below block B. -/
def Rd (w : World) (B : Nat) (A : Option Addr) (xs : List Value) : Prop :=
  ∀ (k : Nat) (u : Value), xs[k]? = some u → ∃ b off, A = some ⟨b, off, none⟩ ∧ b < B ∧ w.cell? ⟨b, off + k, none⟩ = some u

theorem addr_add (b off n : Nat) : (⟨b, off, none⟩ : Addr).add n = ⟨b, off + n, none⟩ := by
  unfold Addr.add
  split
  · simp_all
  · rfl

section
variable {w w' : World} {B B' : Nat} {A : Option Addr} {xs : List Value}
theorem Rd.nil (w : World) (B : Nat) (A : Option Addr) : Rd w B A [] := fun k u h => by simp at h
theorem Rd.keep (h : Rd w B A xs) (hk : ∀ p : Addr, p.block < B → w'.cell? p = w.cell? p) : Rd w' B A xs := fun k u hu => by
  obtain ⟨b, off, e, hb, hc⟩ := h k u hu
  exact ⟨b, off, e, hb, (hk ⟨b, off + k, none⟩ hb).trans hc⟩
theorem Rd.more (h : Rd w B A xs) (hB : B ≤ B') : Rd w B' A xs := fun k u hu => by
  obtain ⟨b, off, e, hb, hc⟩ := h k u hu
  exact ⟨b, off, e, by omega, hc⟩
theorem Rd.below (h : Rd w B A xs) (hb : Below B w w') : Rd w' B A xs := h.keep fun _ hp => hb.cell hp
theorem Rd.drew (h : Rd w B A xs) : Rd w.drew B A xs := h
theorem Rd.drewN (h : Rd w B A xs) (n : Nat) : Rd (w.drewN n) B A xs := h
theorem Rd.alloc (h : Rd w B A xs) (hB : B ≤ w.heap.size) (o : Obj) : Rd (w.alloc o) B A xs := h.keep fun p hp => World.cell?_alloc_lt w o p (by omega)
theorem Rd.setCell (h : Rd w B A xs) {p : Addr} (hB : B ≤ p.block) (u : Value) : Rd (w.setCell p u) B A xs :=
  h.keep fun q hq => World.cell?_setCell_other w p q u (fun e => by subst e; omega)
theorem Rd.grown (h : Rd w B A xs) {row : Option Nat} (hg : w.grownBy w' row) (hB : B ≤ w.heap.size) (hr : ∀ g, row = some g → B ≤ g) : Rd w' B A xs :=
  h.keep fun p hp => World.cell?_of_block (hg.block p.block (by omega) (fun e => by have := hr _ e.symm; omega))
theorem Rd.at_ {k : Nat} (h : Rd w B A xs) (hk : k < xs.length) : ∃ b off, A = some ⟨b, off, none⟩ ∧ b < B ∧ w.cell? ⟨b, off + k, none⟩ = some xs[k] :=
  h k _ (List.getElem?_eq_getElem hk)
theorem Rd.cell {b off k : Nat} {u : Value} (h : Rd w B (some ⟨b, off, none⟩) xs) (hk : xs[k]? = some u) : w.cell? ⟨b, off + k, none⟩ = some u := by
  obtain ⟨b', off', e, _, hc⟩ := h k u hk
  injection e with e
  injection e with e1 e2 _
  subst e1 e2
  exact hc
theorem Rd.cell0 {b off : Nat} {u : Value} (h : Rd w B (some ⟨b, off, none⟩) xs) (hk : xs[0]? = some u) : w.cell? ⟨b, off, none⟩ = some u := h.cell hk
theorem Rd.take (h : Rd w B A xs) (n : Nat) : Rd w B A (xs.take n) := fun k u hu => h k u (by
  rw [List.getElem?_take] at hu
  split at hu
  · exact hu
  · cases hu)
theorem Rd.drop (h : Rd w B A xs) (n cap : Nat) (hc : xs.length ≤ cap) : Rd w B (if cap = n then A else A.map (·.add n)) (xs.drop n) := fun k u hu => by
  rw [List.getElem?_drop] at hu
  have hlt : n + k < xs.length := (List.getElem?_eq_some_iff.1 hu).1
  obtain ⟨b, off, rfl, hb, hcell⟩ := h (n + k) u hu
  rw [if_neg (by omega)]
  exact ⟨b, off + n, by simp [addr_add], hb, by rw [Nat.add_assoc]; exact hcell⟩
theorem Rd.of_own {base n c : Nat} {e : TypeId} (h : w.ownsRow base e 1 (.slice A n c) n xs) : Rd w w.heap.size A xs := fun k u hu => by
  have hlt : k < xs.length := (List.getElem?_eq_some_iff.1 hu).1
  have hn : 0 < n := by have := h.1; omega
  rcases h.2 with ⟨_, h0⟩ | ⟨g, cap, cur, hv, _, hg, _⟩
  · omega
  have hA : A = some ⟨g, 0, none⟩ := by injection hv
  subst hA
  have hlt' : g < w.heap.size := (Array.getElem?_eq_some_iff.1 hg).1
  exact ⟨g, 0, rfl, hlt', by have := h.cells (g := g) rfl k u hu; rwa [addr_add] at this⟩
end

theorem rd_new (w : World) (cs : List Value) (e : TypeId) : Rd (w.alloc (.cells cs.toArray e)) (w.heap.size + 1) (some ⟨w.heap.size, 0, none⟩) cs := fun k u hu =>
  ⟨w.heap.size, 0, rfl, Nat.lt_succ_self _, by rw [World.cell?_alloc_at _ _ _ _ rfl]; simpa using hu⟩

theorem rd_new2 (w : World) (o : Obj) (cs : List Value) (e : TypeId) : Rd ((w.alloc o).alloc (.cells cs.toArray e)) (w.heap.size + 2) (some ⟨w.heap.size + 1, 0, none⟩) cs := by
  have := rd_new (w.alloc o) cs e
  rwa [World.size_alloc] at this

/-- The library's variable MaxLen (global number g) holds some number. -/
def Mx (g : Nat) (w : World) : Prop := g < w.heap.size ∧ ∃ m, w.cell? ⟨g, 0, none⟩ = some (.int .i64 m)
theorem Mx.below {g : Nat} {w w' : World} (h : Mx g w) (hb : Below w.heap.size w w') : Mx g w' :=
  ⟨Nat.lt_of_lt_of_le h.1 hb.size, by obtain ⟨m, hm⟩ := h.2; exact ⟨m, (hb.cell (p := ⟨g, 0, none⟩) h.1).trans hm⟩⟩

section
variable {P : Program} (w : World)
theorem run_append_nilsrc (base : Nat) (t ty e : TypeId) (i : TypeInfo) (size : Nat) (ht : P.underlying t = some (.slice e)) (hi : P.info? e = some i)
    (v : Value) (n : Nat) (xs : List Value) (hown : w.ownsRow base e size v n xs) (c : Nat) : (Builtin.append_ #[t, t] ty #[v, .slice none 0 c]).run P w = .ok v w := by
  rcases hown.2 with ⟨rfl, rfl⟩ | ⟨g, cap, cur, rfl, _, _, hnc, _⟩
  · simp [Builtin.append_, run_underlying ht, sizeOf, typeInfo, hi, Builtin.lenOf, Builtin.firstCells]
  · simp [Builtin.append_, run_underlying ht, sizeOf, typeInfo, hi, Builtin.lenOf, Builtin.firstCells, hnc, storeCells]

/-- append onto a row of the call's own, from whatever slice of one-cell elements. -/
theorem run_append_rd (base : Nat) (t ty e : TypeId) (i : TypeInfo) (z : Value) (bytes : Nat) (ht : P.underlying t = some (.slice e)) (hi : P.info? e = some i) (hz : i.zero = some z)
    (hsize : i.size = 1) (hby : i.bytes = bytes) (hzs : z.cells.size = 1)
    (v : Value) (n : Nat) (xs : List Value) (hown : w.ownsRow base e 1 v n xs)
    (B : Nat) (A : Option Addr) (c : Nat) (news : List Value) (hr : Rd w B A news) (h1 : ∀ u ∈ news, u.oneCell' = true)
    (h63 : n + news.length ≤ maxLen) (hbytes : (n + news.length) * bytes ≤ 140737488355328) (hbase : base ≤ w.heap.size) (hnc : A = none → news = []) :
    ∃ v' w', (Builtin.append_ #[t, t] ty #[v, .slice A news.length c]).run P w = .ok v' w' ∧ w'.ownsRow base e 1 v' (n + news.length) (xs ++ news) ∧ w.grownBy w' v.ownBlock ∧
      (v'.ownBlock = v.ownBlock ∨ v'.ownBlock = some w.heap.size) := by
  rcases A with _ | ad
  · have hn := hnc rfl
    subst hn
    exact ⟨v, w, run_append_nilsrc w base t ty e i 1 ht hi v n xs hown c, by simpa using hown, World.grownBy.refl w _, .inl rfl⟩
  · rcases news with _ | ⟨x, news⟩
    · obtain ⟨v', w', hrun, h2, h3, _, h5⟩ := run_append_own_at (P := P) w base t ty e i z 1 bytes ht hi hz hsize hby hzs (by decide) v n xs hown ad 0 c [] rfl
        (fun j u hu => by simp at hu) (by simp) h63 hbytes hbase
      exact ⟨v', w', hrun, h2, h3, h5⟩
    obtain ⟨b, off, e1, _, _⟩ := hr 0 x rfl
    injection e1 with e1
    subst e1
    obtain ⟨v', w', hrun, h2, h3, _, h5⟩ := run_append_own_at (P := P) w base t ty e i z 1 bytes ht hi hz hsize hby hzs (by decide) v n xs hown ⟨b, off, none⟩ (x :: news).length c (x :: news) (by simp)
      (fun j u hu => by rw [addr_add]; exact hr.cell hu) h1 h63 hbytes hbase
    exact ⟨v', w', hrun, h2, h3, h5⟩

theorem rd_none {w : World} {B : Nat} {xs : List Value} (h : Rd w B none xs) : xs = [] := by
  cases xs with
  | nil => rfl
  | cons x t => obtain ⟨b, off, e, _⟩ := h 0 x rfl; cases e

theorem wpList_append_rd {ops : Array Oper} {rest : List Oper} {o : Oper} {a : Act} {Q : Exit → Act → World → Prop} (hgd : o.guard = none) (s x : Operand) (t : TypeId)
    (ho : o.op = .call { callee := .builtin .append, args := #[s, x], argTypes := #[t, t] })
    (base : Nat) (e : TypeId) (i : TypeInfo) (z : Value) (bytes : Nat) (ht : P.underlying t = some (.slice e)) (hi : P.info? e = some i) (hz : i.zero = some z)
    (hsize : i.size = 1) (hby : i.bytes = bytes) (hzs : z.cells.size = 1)
    (v : Value) (n : Nat) (xs : List Value) (hs : a.eval s = v) (hown : w.ownsRow base e 1 v n xs)
    (B : Nat) (A : Option Addr) (c : Nat) (news : List Value) (hx : a.eval x = .slice A news.length c) (hr : Rd w B A news) (h1 : ∀ u ∈ news, u.oneCell' = true)
    (h63 : n + news.length ≤ maxLen) (hbytes : (n + news.length) * bytes ≤ 140737488355328) (hbase : base ≤ w.heap.size)
    (h : ∀ v' w', w'.ownsRow base e 1 v' (n + news.length) (xs ++ news) → w.grownBy w' v.ownBlock → (v'.ownBlock = v.ownBlock ∨ v'.ownBlock = some w.heap.size) →
      wpList P ops Q rest (a.put o.dst v') w') : wpList P ops Q (o :: rest) a w :=
  wpList_plain hgd fun K hK => by
    obtain ⟨v', w', hrun, h2, h3, h4⟩ := run_append_rd (P := P) w base t o.type e i z bytes ht hi hz hsize hby hzs v n xs hown B A c news hr h1 h63 hbytes hbase (fun e => rd_none (e ▸ hr))
    unfold Oper.wp execOp
    simp only [ho, resolve, invoke, builtin, Sem.run_bind, Sem.run_pure, Result.andThen_ok, List.map_toArray, List.map_cons, List.map_nil, hs, hx, hrun]
    exact hK _ _ (h v' w' h2 h3 h4)
theorem step_append_rd {ops : Array Oper} {o : Oper} {a : Act} {K : Act → World → Prop} {Q : Exit → Act → World → Prop} {E : Prop} (hgd : o.guard = none) (s x : Operand) (t : TypeId)
    (ho : o.op = .call { callee := .builtin .append, args := #[s, x], argTypes := #[t, t] })
    (base : Nat) (e : TypeId) (i : TypeInfo) (z : Value) (bytes : Nat) (ht : P.underlying t = some (.slice e)) (hi : P.info? e = some i) (hz : i.zero = some z)
    (hsize : i.size = 1) (hby : i.bytes = bytes) (hzs : z.cells.size = 1)
    (v : Value) (n : Nat) (xs : List Value) (hs : a.eval s = v) (hown : w.ownsRow base e 1 v n xs)
    (B : Nat) (A : Option Addr) (c : Nat) (news : List Value) (hx : a.eval x = .slice A news.length c) (hr : Rd w B A news) (h1 : ∀ u ∈ news, u.oneCell' = true)
    (h63 : n + news.length ≤ maxLen) (hbytes : (n + news.length) * bytes ≤ 140737488355328) (hbase : base ≤ w.heap.size)
    (h : ∀ v' w', w'.ownsRow base e 1 v' (n + news.length) (xs ++ news) → w.grownBy w' v.ownBlock → (v'.ownBlock = v.ownBlock ∨ v'.ownBlock = some w.heap.size) →
      K (a.put o.dst v') w') : if Region.wanted o (yielded ops a.tmps) = true then Oper.wp P o a w K Q else E := by
  have hw : Region.wanted o (yielded ops a.tmps) = true := by simp [Region.wanted, hgd]
  rw [if_pos hw]
  obtain ⟨v', w', hrun, h2, h3, h4⟩ := run_append_rd (P := P) w base t o.type e i z bytes ht hi hz hsize hby hzs v n xs hown B A c news hr h1 h63 hbytes hbase (fun e => rd_none (e ▸ hr))
  unfold Oper.wp execOp
  simp only [ho, resolve, invoke, builtin, Sem.run_bind, Sem.run_pure, Result.andThen_ok, List.map_toArray, List.map_cons, List.map_nil, hs, hx, hrun]
  exact h v' w' h2 h3 h4
end

theorem ret_bool {a b : Bool} (h : a = b) : Ending.returned (.bool a) = .returned (.bool b) := by rw [h]
theorem ret_int {k : IntKind} {a b : Int} (h : a = b) : Ending.returned (.int k a) = .returned (.int k b) := by rw [h]
theorem ret_str {a b : ByteArray} (h : a = b) : Ending.returned (.string a) = .returned (.string b) := by rw [h]
/-- Texts and code points as cells. -/
def strV (ss : List (List UInt8)) : List Value := ss.map fun s => .string ⟨s.toArray⟩
def runV (rs : List Int) : List Value := rs.map (Value.int .i32)
def bytV (bs : List UInt8) : List Value := bs.map fun b => .int .u8 b.toNat
theorem strV_length (ss : List (List UInt8)) : (strV ss).length = ss.length := by simp [strV]
theorem runV_length (rs : List Int) : (runV rs).length = rs.length := by simp [runV]
theorem bytV_length (bs : List UInt8) : (bytV bs).length = bs.length := by simp [bytV]
theorem strV_one (ss : List (List UInt8)) : ∀ u ∈ strV ss, u.oneCell' = true := by
  intro u hu; simp only [strV, List.mem_map] at hu; obtain ⟨s, _, rfl⟩ := hu; rfl
theorem runV_one (rs : List Int) : ∀ u ∈ runV rs, u.oneCell' = true := by
  intro u hu; simp only [runV, List.mem_map] at hu; obtain ⟨s, _, rfl⟩ := hu; rfl
theorem bytV_one (bs : List UInt8) : ∀ u ∈ bytV bs, u.oneCell' = true := by
  intro u hu; simp only [bytV, List.mem_map] at hu; obtain ⟨s, _, rfl⟩ := hu; rfl
theorem strV_get {ss : List (List UInt8)} {k : Nat} {s : List UInt8} (h : ss[k]? = some s) : (strV ss)[k]? = some (.string ⟨s.toArray⟩) := by simp [strV, h]
theorem runV_get {rs : List Int} {k : Nat} {r : Int} (h : rs[k]? = some r) : (runV rs)[k]? = some (.int .i32 r) := by simp [runV, h]
theorem bytV_get {bs : List UInt8} {k : Nat} {b : UInt8} (h : bs[k]? = some b) : (bytV bs)[k]? = some (.int .u8 b.toNat) := by simp [bytV, h]

#print axioms wpList_append_rd
end Go.Proofs.YtmobeppmdakjmaaDoor
