/- Walk: a path that is shortened, by the reference. -/
import Derived.Test.YtpahiipfmccbiaaDoorE3
import Derived.Test.YtpahiipfmccbiaaDoorG2
namespace Go.Proofs.YtpahiipfmccbiaaDoor
open Go.RowKit

theorem wpList_append_texts_n {w : World} {ops : Array Oper} {rest : List Oper} {o : Oper} {a : Act} {Q : Exit → Act → World → Prop} (hgd : o.guard = none) (s x : Operand)
    (ho : o.op = .call { callee := .builtin .append, args := #[s, x], argTypes := #[24, 24] })
    (base : Nat) (v : Value) (m : List (List UInt8)) (hs : a.eval s = v) (hown : w.ownsRow base 9 1 v m.length (strV m))
    (B : Nat) (A : Option Addr) (c n : Nat) (rs : List (List UInt8)) (hn : rs.length = n) (hx : a.eval x = .slice A n c) (hr : Rd w B A (strV rs)) (hl : m.length + n ≤ 1048576) (hbase : base ≤ w.heap.size)
    (h : ∀ v' w', w'.ownsRow base 9 1 v' (m ++ rs).length (strV (m ++ rs)) → Below base w w' → wpList Tryd.prog ops Q rest (a.put o.dst v') w') : wpList Tryd.prog ops Q (o :: rest) a w := by
  subst hn
  exact wpList_append_texts hgd s x ho base v m hs hown B A c rs hx hr hl hbase h

theorem refPlain_is (s : List UInt8) (b : Bool) (h : plainDrive s = b) (w : World) (hs : s.length ≤ 70368744177664) : Calls Tryd.prog 43 #[.string ⟨s.toArray⟩] w fun e w' => e = .returned (.bool b) ∧ Below w.heap.size w w' := by
  subst h; exact refPlain_any s w hs

set_option maxHeartbeats 1000000 in
set_option maxRecDepth 100000 in
theorem refShorten_any (name : List UInt8) (A : Option Addr) (c : Nat) (xs : List (List UInt8)) (w : World) (B : Nat) (hr : Rd w B A (strV xs)) (hB : B ≤ w.heap.size) (hl : xs.length ≤ 1048576) (hc : xs.length ≤ c) (hs : ∀ s ∈ xs, s.length ≤ 70368744177664) :
    Calls Tryd.prog 22 #[.string ⟨name.toArray⟩, .slice A xs.length c] w (Made (shorten name xs) w) := by
  match xs, hr, hl, hc, hs with
  | [], hr, hl, hc, _ =>
    have Hnil := Lib.hid (Rd.nil w B A)
    clear hr
    go_enter Tryd.func22, Tryd.ntmps22
    go_wp2_with (at_builtin; refine wpList_append_texts_n rfl _ _ rfl w.heap.size _ [] rfl (World.ownsRow_nil _ _ _ _) B A c 0 [] rfl rfl Hnil.out (by simp) (Nat.le_refl _) ?_; intro v2 w2 ho2 hb2)
    go_ret
    exact ⟨_, rfl, ho2, hb2⟩
  | [s], hr, hl, hc, hs =>
    have hs1 : s.length ≤ 70368744177664 := hs s (by simp)
    have hc1 : 1 ≤ c := by simpa using hc
    obtain ⟨b, off, rfl, hbB, h0⟩ := hr 0 _ rfl
    rw [Nat.add_zero] at h0
    have Hr := Lib.hid hr
    by_cases hf : (name == fileN) = true
    · have hf' : (name == [102, 105, 108, 101]) = true := hf
      cases hp : plainDrive s with
      | true =>
        have hsh : Hid (shorten name [s] = [s]) := by show _ = _; simp [shorten, hf, hp]
        have Hp := Lib.hid hp
        clear hf hr hp hs
        go_enter Tryd.func22, Tryd.ntmps22
        go_wp2_with (first | (go_at_call 43; refine (refPlain_is s true Hp.out _ hs1).mono ?_; rintro e w1 ⟨rfl, hb1⟩) | (at_builtin; refine wpList_append_texts_n rfl _ _ rfl w.heap.size _ [] rfl (World.ownsRow_nil _ _ _ _) B _ c 1 [s] rfl rfl (Hr.out.below (hb1.mono hB)) (by simp) hb1.size ?_; intro v2 w2 ho2 hb2))
        go_ret
        rw [hsh.out]
        exact ⟨_, rfl, ho2, hb1.trans hb2⟩
      | false =>
        have hsh : Hid (shorten name [s] = []) := by show _ = _; simp [shorten, hf, hp]
        have Hp := Lib.hid hp
        clear hf hr hp hs
        go_enter Tryd.func22, Tryd.ntmps22
        go_wp2_with (first | (go_at_call 43; refine (refPlain_is s false Hp.out _ hs1).mono ?_; rintro e w1 ⟨rfl, hb1⟩) | (at_builtin; refine wpList_append_texts_n rfl _ _ rfl w.heap.size _ [] rfl (World.ownsRow_nil _ _ _ _) B _ c 0 [] rfl rfl (Rd.nil _ _ _) (by simp) hb1.size ?_; intro v2 w2 ho2 hb2))
        go_ret
        rw [hsh.out]
        exact ⟨_, rfl, ho2, hb1.trans hb2⟩
    · have hf' : (name == [102, 105, 108, 101]) = false := by simpa [fileN] using hf
      have hsh : Hid (shorten name [s] = []) := by show _ = _; simp [shorten, hf]
      clear hf hr hs
      go_enter Tryd.func22, Tryd.ntmps22
      go_wp2_with (at_builtin; refine wpList_append_texts_n rfl _ _ rfl w.heap.size _ [] rfl (World.ownsRow_nil _ _ _ _) B _ c 0 [] rfl rfl (Rd.nil _ _ _) (by simp) (Nat.le_refl _) ?_; intro v2 w2 ho2 hb2)
      go_ret
      rw [hsh.out]
      exact ⟨_, rfl, ho2, hb2⟩
  | x :: y :: t, hr, hl, hc, hs =>
    have h2 : 2 ≤ (x :: y :: t).length := by simp
    rw [shorten_cons2]
    generalize x :: y :: t = xs at hr hl hc hs h2
    have hrt : Hid (Rd w B A (strV xs.dropLast)) := by
      have := hr.take (xs.length - 1)
      rw [strV, ← List.map_take] at this
      show Rd _ _ _ _
      rw [List.dropLast_eq_take]
      exact this
    have hln : Hid (xs.dropLast.length = xs.length - 1) := List.length_dropLast
    have f1 : ((xs.length : Int) - 1 == 0) = false := by rw [beq_eq_false_iff_ne]; omega
    have f0 : ¬ ((xs.length : Int) - 1 < 0) := by omega
    clear hr hs
    cases hf : (name == [102, 105, 108, 101])
    all_goals
      go_enter Tryd.func22, Tryd.ntmps22
      go_wp2_with (at_builtin; refine wpList_append_texts_n rfl _ _ rfl w.heap.size _ [] rfl (World.ownsRow_nil _ _ _ _) B _ c _ xs.dropLast hln.out rfl hrt.out (by simp only [List.length_nil]; omega) (Nat.le_refl _) ?_; intro v2 w2 ho2 hb2)
      go_ret
      exact ⟨_, rfl, ho2, hb2⟩
end Go.Proofs.YtpahiipfmccbiaaDoor
