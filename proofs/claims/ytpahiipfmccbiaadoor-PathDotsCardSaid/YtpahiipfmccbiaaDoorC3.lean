/- Walks: the law PathParts. -/
import Derived.Test.YtpahiipfmccbiaaDoorC2
import Derived.Test.YtpahiipfmccbiaaDoorP5
namespace Go.Proofs.YtpahiipfmccbiaaDoor
open Go.RowKit

theorem calls_later {P : Program} {n : Nat} {args : Array Value} {w w1 : World} {x : Ending} (h : Calls P n args w1 fun e w' => e = x ∧ Below w1.heap.size w1 w') (hb : Below w.heap.size w w1) :
    Calls P n args w1 fun e w' => e = x ∧ Below w.heap.size w w' := h.mono fun _ _ ⟨h1, h2⟩ => ⟨h1, hb.trans (h2.mono hb.size)⟩
theorem rd_drop2 {w : World} {B : Nat} {A : Option Addr} {rs : List Int} (h : Rd w B A (runV rs)) (k c : Nat) (hc : rs.length ≤ c) : Rd w B (if c = k then A else Option.map (fun x => { block := x.block, off := x.off + k }) A) (runV (rs.drop k)) := by
  have h2 := h.drop k c (by simpa [runV] using hc)
  rw [runV, ← List.map_drop] at h2
  by_cases h0 : rs = []
  · subst h0; intro j u hu; simp [runV] at hu
  · obtain ⟨r0, t0, rfl⟩ := List.exists_cons_of_ne_nil h0
    obtain ⟨b, off, rfl, _, _⟩ := h 0 _ rfl
    simp only [Option.map_some, addr_add] at h2
    exact h2
theorem encode_drop (A : Option Addr) (c : Nat) (rs : List Int) (k : Nat) (w : World) (B : Nat) (hr : Rd w B A (runV rs)) (hB : B ≤ w.heap.size) (hl : rs.length ≤ 1048576) (hc : rs.length ≤ c) (hk : c ≠ k) :
    Calls Tryd.prog 9 #[.int .u8 5, .slice (Option.map (fun x => x.add k) A) (rs.length - k) (c - k)] w fun e w' => e = .returned (.tuple #[.string ⟨(enc (rs.drop k)).toArray⟩, .int .i64 0]) ∧ Below w.heap.size w w' := by
  have h2 := hr.drop k c (by simpa [runV] using hc)
  rw [runV, ← List.map_drop, if_neg hk] at h2
  have h := pctEncode_any _ (c - k) (rs.drop k) w B h2 hB (by rw [List.length_drop]; omega)
  rwa [List.length_drop] at h
theorem encode_drop0 (A : Option Addr) (rs : List Int) (k : Nat) (w : World) (B : Nat) (hB : B ≤ w.heap.size) (hk : rs.length ≤ k) :
    Calls Tryd.prog 9 #[.int .u8 5, .slice A 0 0] w fun e w' => e = .returned (.tuple #[.string ⟨(enc (rs.drop k)).toArray⟩, .int .i64 0]) ∧ Below w.heap.size w w' := by
  rw [List.drop_of_length_le hk]
  exact pctEncode_any A 0 [] w B (Rd.nil _ _ _) hB (by simp)
theorem tail_sep {sp : Bool} {a : List Int} {k : Nat} (hlt : k < a.length) (hs : isSep sp a[k] = true) : tailP sp [] (a.take (k + 1)) = (a.take (k + 1)).drop (k + 1) := by
  rw [List.take_succ_eq_append_getElem hlt, tailP_append, tailP, if_pos hs, tailP]
  rw [List.drop_of_length_le (by simp; omega)]
theorem tail_go {sp : Bool} {a : List Int} {k p : Nat} (hlt : k < a.length) (hs : isSep sp a[k] = false) (hp : p ≤ k) (h : tailP sp [] (a.take k) = (a.take k).drop p) : tailP sp [] (a.take (k + 1)) = (a.take (k + 1)).drop p := by
  rw [List.take_succ_eq_append_getElem hlt, tailP_append, tailP, if_neg (by rw [hs]; decide), tailP, h, List.drop_append_of_le_length (by simp; omega)]

/-- What is said of PathParts' row of names. -/
def nameAt (u : UInt8) (name : List UInt8) : Prop :=
  [Value.string { data := #[104, 116, 116, 112] }, Value.string { data := #[102, 105, 108, 101] }, Value.string { data := #[120] }][u.toNat % 3]? = some (.string ⟨name.toArray⟩)

theorem Tryd.info21 : (Tryd.prog.info? 21).map (fun i => (i.zero, i.size, i.bytes)) = some (some (.int .i32 0), 1, 4) := by kernel_rfl
/-- append of code points onto a row of the call's own. -/
theorem wpList_append_runs {w : World} {ops : Array Oper} {rest : List Oper} {o : Oper} {a : Act} {Q : Exit → Act → World → Prop} (hgd : o.guard = none) (s x : Operand)
    (ho : o.op = .call { callee := .builtin .append, args := #[s, x], argTypes := #[22, 22] })
    (base : Nat) (v : Value) (m : List Int) (hs : a.eval s = v) (hown : w.ownsRow base 21 1 v m.length (runV m))
    (B : Nat) (A : Option Addr) (c : Nat) (rs : List Int) (hx : a.eval x = .slice A rs.length c) (hr : Rd w B A (runV rs)) (hl : m.length + rs.length ≤ 1048576) (hbase : base ≤ w.heap.size)
    (h : ∀ v' w', w'.ownsRow base 21 1 v' (m ++ rs).length (runV (m ++ rs)) → Below base w w' → wpList Tryd.prog ops Q rest (a.put o.dst v') w') : wpList Tryd.prog ops Q (o :: rest) a w := by
  obtain ⟨i0, hi, hz0, hz1, hz2⟩ := info_parts Tryd.info21
  have e : rs.length = (runV rs).length := by simp [runV]
  rw [e] at hx hl
  refine wpList_append_rd w hgd s x 22 ho base 21 i0 (.int .i32 0) 4 Tryd.underlying22 hi hz0 hz1 hz2 rfl v m.length (runV m) hs hown B A c (runV rs) hx hr (runV_one rs) (by unfold maxLen; omega) (by omega) hbase ?_
  intro v' w' h1 h2 _
  refine h v' w' ?_ ((Below.refl base w).grown h2 hbase (fun k hk => (hown.lt k hk).1))
  have e2 : runV (m ++ rs) = runV m ++ runV rs := by simp [runV]
  rw [List.length_append, e, e2]
  exact h1
/-- path.Walk, somewhere within a call that began at w0. -/
theorem walk_from (name : List UInt8) (ls : List (List UInt8)) (A : Option Addr) (c : Nat) (T : Option Addr) (d : Nat) (ts : List Int) {w0 w : World} (hb : Below w0.heap.size w0 w) (hA : Rd w w.heap.size A (strV ls)) (hT : Rd w w.heap.size T (runV ts))
    (hl : ls.length ≤ 524288) (ht : ts.length ≤ 524288) (hd : ts.length ≤ d) (hn : name.length ≤ 1048576) (hs : ∀ s ∈ ls, s.length ≤ 1099511627776) (hm : Mx 0 w0) :
    Calls Tryd.prog 12 #[.string ⟨name.toArray⟩, .slice A ls.length c, .slice T ts.length d] w fun e w' => ∃ A' c', e = .returned (.slice A' (walk name ls ts).length c') ∧
      w'.ownsRow w.heap.size 9 1 (.slice A' (walk name ls ts).length c') (walk name ls ts).length (strV (walk name ls ts)) ∧ Below w0.heap.size w0 w' ∧ Below w.heap.size w w' := by
  refine (walk_any name A c ls T d ts w w.heap.size hA hT (Nat.le_refl _) hl ht hd hn hs (hm.below hb)).mono ?_
  rintro e w' ⟨v', rfl, ho, hb'⟩
  obtain ⟨A', c', rfl⟩ := own_slice ho
  exact ⟨A', c', rfl, ho, hb.trans (hb'.mono hb.size), hb'⟩
/-- Texts that are the same. -/
theorem texts_same (A A' : Option Addr) (c c' : Nat) (xs ys : List (List UInt8)) (heq : xs = ys) {w0 w : World} (hb : Below w0.heap.size w0 w) (hx : Rd w w.heap.size A (strV xs)) (hy : Rd w w.heap.size A' (strV ys)) (hl : xs.length ≤ 4294967296) :
    Calls Tryd.prog 13 #[.slice A xs.length c, .slice A' ys.length c'] w fun e w' => e = .returned (.bool true) ∧ Below w0.heap.size w0 w' := by
  subst heq
  refine (texts_any A A' c c' xs xs w _ _ hx hy hl hl).mono ?_
  rintro e w' ⟨rfl, n, rfl⟩
  exact ⟨by simp, below_drewN hb n⟩
end Go.Proofs.YtpahiipfmccbiaaDoor
