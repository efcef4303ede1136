/- Walks: the law PathShort. -/
import Derived.Test.YtpahiipfmccbiaaDoorC3
namespace Go.Proofs.YtpahiipfmccbiaaDoor
open Go.RowKit

theorem few_is (A : Option Addr) (c : Nat) (xs : List (List UInt8)) (b : Bool) (h : fewB xs = b) (w : World) (B : Nat) (hx : Rd w B A (strV xs)) (hl : xs.length ≤ 9223372036854775807) :
    Calls Tryd.prog 14 #[.slice A xs.length c] w fun e w' => e = .returned (.bool b) ∧ w = w' := by
  subst h; exact few_any A c xs w B hx hl

set_option maxHeartbeats 1000000 in
set_option maxRecDepth 100000 in
theorem short_long (p : List (List UInt8)) (A : Option Addr) (c : Nat) (name : List UInt8) (w : World) (hm : Mx 0 w) (hA : Rd w w.heap.size A (strV p)) (hl : p.length ≤ 9223372036854775807) (hnl : name.length ≤ 9223372036854775807) (h : fewB p = false ∨ 20 < name.length) :
    Calls Tryd.prog 4 #[.slice A p.length c, .string ⟨name.toArray⟩] w fun e w' => e = .returned (.bool true) ∧ Below w.heap.size w w' := by
  have hsz := size_arr name
  by_cases hf : fewB p = false
  · clear h
    have Hf := Lib.hid hf
    clear hf
    go_enter Tryd.func4, Tryd.ntmps4
    go_wp2_with (first | (go_at_call 14; refine (few_is A c p false Hf.out w _ hA hl).mono ?_; rintro e w1 ⟨rfl, rfl⟩) | (go_at_call 8; refine (awake_any w hm).mono ?_; rintro e w' ⟨rfl, hb⟩))
    go_ret
    exact ⟨rfl, hb⟩
  · have Hf : Hid (fewB p = true) := by show _ = _; simpa using hf
    have h20 : 20 < name.length := by
      rcases h with h | h
      · exact absurd h hf
      · exact h
    have f1 : (20 : Int) < (name.length : Int) := by omega
    clear hf h
    go_enter Tryd.func4, Tryd.ntmps4
    go_wp2_with (first | (go_at_call 14; refine (few_is A c p true Hf.out w _ hA hl).mono ?_; rintro e w1 ⟨rfl, rfl⟩) | (go_at_call 8; refine (awake_any w hm).mono ?_; rintro e w' ⟨rfl, hb⟩))
    go_ret
    exact ⟨rfl, hb⟩

/-- append of texts onto a row of the call's own. -/
theorem wpList_append_texts {w : World} {ops : Array Oper} {rest : List Oper} {o : Oper} {a : Act} {Q : Exit → Act → World → Prop} (hgd : o.guard = none) (s x : Operand)
    (ho : o.op = .call { callee := .builtin .append, args := #[s, x], argTypes := #[24, 24] })
    (base : Nat) (v : Value) (m : List (List UInt8)) (hs : a.eval s = v) (hown : w.ownsRow base 9 1 v m.length (strV m))
    (B : Nat) (A : Option Addr) (c : Nat) (rs : List (List UInt8)) (hx : a.eval x = .slice A rs.length c) (hr : Rd w B A (strV rs)) (hl : m.length + rs.length ≤ 1048576) (hbase : base ≤ w.heap.size)
    (h : ∀ v' w', w'.ownsRow base 9 1 v' (m ++ rs).length (strV (m ++ rs)) → Below base w w' → wpList Tryd.prog ops Q rest (a.put o.dst v') w') : wpList Tryd.prog ops Q (o :: rest) a w := by
  obtain ⟨i0, hi, hz0, hz1, hz2⟩ := info_parts Tryd.info9
  have e : rs.length = (strV rs).length := by simp [strV]
  rw [e] at hx hl
  refine wpList_append_rd w hgd s x 24 ho base 9 i0 (.string ⟨#[]⟩) 16 Tryd.underlying24 hi hz0 hz1 hz2 rfl v m.length (strV m) hs hown B A c (strV rs) hx hr (strV_one rs) (by unfold maxLen; omega) (by omega) hbase ?_
  intro v' w' h1 h2 _
  refine h v' w' ?_ ((Below.refl base w).grown h2 hbase (fun k hk => (hown.lt k hk).1))
  have e2 : strV (m ++ rs) = strV m ++ strV rs := by simp [strV]
  rw [List.length_append, e, e2]
  exact h1
/-- path.Shorten, somewhere within a call that began at w0. -/
theorem shorten_from (name : List UInt8) (A : Option Addr) (c : Nat) (xs ys : List (List UInt8)) (hy : shorten name xs = ys) {w0 w : World} (hb : Below w0.heap.size w0 w) (hr : Rd w w.heap.size A (strV xs)) (hl : xs.length ≤ 4294967296) (hc : xs.length ≤ c) (hs : ∀ s ∈ xs, s.length ≤ 70368744177664) :
    Calls Tryd.prog 16 #[.string ⟨name.toArray⟩, .slice A xs.length c] w fun e w' => ∃ A' c', e = .returned (.slice A' ys.length c') ∧ w'.ownsRow w.heap.size 9 1 (.slice A' ys.length c') ys.length (strV ys) ∧ Below w0.heap.size w0 w' ∧ Below w.heap.size w w' := by
  subst hy
  refine (shorten_any name A c xs w w.heap.size hr (Nat.le_refl _) hl hc hs).mono ?_
  rintro e w' ⟨v', rfl, ho, hb'⟩
  obtain ⟨A', c', rfl⟩ := own_slice ho
  exact ⟨A', c', rfl, ho, hb.trans (hb'.mono hb.size), hb'⟩
/-- Texts that are the same, whatever their lengths are called. -/
theorem texts_same_n (A A' : Option Addr) (c c' : Nat) (xs ys : List (List UInt8)) (n n' : Nat) (hn : xs.length = n) (hn' : ys.length = n') (heq : xs = ys) {w0 w : World} (hb : Below w0.heap.size w0 w) (hx : Rd w w.heap.size A (strV xs)) (hy : Rd w w.heap.size A' (strV ys)) (hl : xs.length ≤ 4294967296) :
    Calls Tryd.prog 13 #[.slice A n c, .slice A' n' c'] w fun e w' => e = .returned (.bool true) ∧ Below w0.heap.size w0 w' ∧ Below w.heap.size w w' := by
  subst hn hn' heq
  refine (texts_any A A' c c' xs xs w _ _ hx hy hl hl).mono ?_
  rintro e w' ⟨rfl, n, rfl⟩
  exact ⟨by simp, below_drewN hb n, below_drewN (Below.refl _ _) n⟩
/-- A text of a row of the call's own, and a store there. -/
theorem own_at {W : World} {base n c : Nat} {A : Option Addr} {xs : List (List UInt8)} (h : W.ownsRow base 9 1 (.slice A n c) n (strV xs)) {k : Nat} (hk : k < n) :
    ∃ (g : Nat) (hx : k < xs.length), A = some ⟨g, 0, none⟩ ∧ base ≤ g ∧ W.cell? ⟨g, k, none⟩ = some (.string ⟨xs[k].toArray⟩) ∧ W.frozen? ⟨g, k, none⟩ = false ∧
      ∀ s', (W.setCell ⟨g, k, none⟩ (.string ⟨s'.toArray⟩)).ownsRow base 9 1 (.slice (some ⟨g, 0, none⟩) n c) n (strV (xs.set k s')) := by
  have hl : xs.length = n := by have := h.1; simpa [strV] using this
  rcases h.2 with ⟨_, h0⟩ | ⟨g, cap, cur, hv, hb, _⟩
  · omega
  · cases hv
    have hx : k < xs.length := by omega
    refine ⟨g, hx, rfl, hb, ?_, h.frozenAt k, fun s' => ?_⟩
    · rw [h.cellAt k (by omega)]
      simp [strV, hx]
    · have := (h.stored k (.string ⟨s'.toArray⟩)).1
      rwa [strV, List.map_set]
end Go.Proofs.YtpahiipfmccbiaaDoor
