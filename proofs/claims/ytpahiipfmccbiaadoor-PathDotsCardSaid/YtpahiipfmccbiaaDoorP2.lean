/- Plain law: the code points of a text; a drive is two ASCII bytes. -/
import Derived.Test.YtpahiipfmccbiaaDoorP0
import Derived.Lib.TrimUEq
import Derived.Lib.TrimAscii
import Derived.Laws.RangeAny
namespace Go.Proofs.YtpahiipfmccbiaaDoor

theorem runesOf_cons (f : Nat) (l : List UInt8) (h : l ≠ []) : runesOf (f + 1) l = ((Lib.decodeL l).1 : Int) :: runesOf f (l.drop (Lib.decodeL l).2) := by rw [runesOf, if_neg h]
theorem runesOf_nil (f : Nat) : runesOf f [] = [] := by cases f <;> simp [runesOf]
theorem runesOf_fuel : ∀ (f : Nat) (l : List UInt8), l.length ≤ f → ∀ g, l.length ≤ g → runesOf f l = runesOf g l
  | f, [], _, g, _ => by rw [runesOf_nil, runesOf_nil]
  | 0, _ :: _, h, _, _ => by simp at h
  | _ + 1, _ :: _, _, 0, h => by simp at h
  | f + 1, a :: t, h, g + 1, h' => by
    rw [runesOf_cons _ _ (by simp), runesOf_cons _ _ (by simp)]
    have hw := Lib.decodeL_width (a :: t)
    have hl : ((a :: t).drop (Lib.decodeL (a :: t)).2).length ≤ t.length := by rw [List.length_drop]; simp; omega
    rw [runesOf_fuel f _ (by simp at h; omega) g (by simp at h'; omega)]
theorem runes_cons (l : List UInt8) (h : l ≠ []) : runes l = ((Lib.decodeL l).1 : Int) :: runes (l.drop (Lib.decodeL l).2) := by
  cases l with
  | nil => exact absurd rfl h
  | cons a t =>
    rw [runes, List.length_cons, runesOf_cons _ _ (by simp), runes]
    have hw := Lib.decodeL_width (a :: t)
    have hl : ((a :: t).drop (Lib.decodeL (a :: t)).2).length ≤ t.length := by rw [List.length_drop]; simp; omega
    rw [runesOf_fuel t.length _ hl _ (Nat.le_refl _)]
theorem runes_nil : runes [] = [] := rfl
theorem runes_ascii_cons (a : UInt8) (t : List UInt8) (h : a.toNat < 128) : runes (a :: t) = (a.toNat : Int) :: runes t := by
  rw [runes_cons _ (by simp), Lib.decodeL_ascii a t h]
  rfl
theorem runes_ascii : ∀ (l : List UInt8), (∀ b ∈ l, b.toNat < 128) → runes l = l.map fun b => (b.toNat : Int)
  | [], _ => rfl
  | a :: t, h => by rw [runes_ascii_cons a t (h a (by simp)), runes_ascii t (fun b hb => h b (by simp [hb]))]; rfl
theorem runes_le (l : List UInt8) : (runes l).length ≤ l.length := by
  have : ∀ (n : Nat) (l : List UInt8), l.length ≤ n → (runes l).length ≤ l.length := by
    intro n
    induction n with
    | zero => intro l h; have : l = [] := List.eq_nil_of_length_eq_zero (by omega); subst this; simp [runes_nil]
    | succ n ih =>
      intro l h
      cases l with
      | nil => simp [runes_nil]
      | cons a t =>
        rw [runes_cons _ (by simp)]
        have hw := Lib.decodeL_width (a :: t)
        have h2 := ih ((a :: t).drop (Lib.decodeL (a :: t)).2) (by rw [List.length_drop]; simp at h ⊢; omega)
        rw [List.length_drop] at h2
        simp only [List.length_cons] at h2 ⊢
        omega
  exact this _ l (Nat.le_refl _)
/-- A code point below 128 is one byte. -/
theorem decode_low (a : UInt8) (t : List UInt8) (h : (Lib.decodeL (a :: t)).1 < 128) : a.toNat < 128 := by
  rcases Nat.lt_or_ge a.toNat 128 with h' | h'
  · exact h'
  · have := (decode_high ⟨(a :: t).toArray⟩ 0 (by simp [ByteArray.size]) (by exact h')).1
    rw [Lib.decodeL] at h
    omega
theorem runes_two {l : List UInt8} {x y : Int} (h : runes l = [x, y]) (hx : x < 128) (hy : y < 128) : ∃ a b : UInt8, l = [a, b] ∧ x = a.toNat ∧ y = b.toNat := by
  match l, h with
  | [], h => simp [runes_nil] at h
  | a :: t, h =>
    have h0 := h
    rw [runes_cons _ (by simp)] at h
    injection h with h1 h2
    have ha := decode_low a t (by omega)
    rw [runes_ascii_cons a t ha] at h0
    injection h0 with e1 e2
    match t, e2 with
    | [], e2 => simp [runes_nil] at e2
    | b :: t, e2 =>
      have e3 := e2
      rw [runes_cons _ (by simp)] at e2
      injection e2 with f1 f2
      have hb := decode_low b t (by omega)
      rw [runes_ascii_cons b t hb] at e3
      injection e3 with g1 g2
      match t, g2 with
      | [], _ => exact ⟨a, b, rfl, e1.symm, g1.symm⟩
      | c :: t, g2 => rw [runes_cons _ (by simp)] at g2; cases g2
theorem drive_two {rs : List Int} (h : drive rs = true) : ∃ x y, rs = [x, y] ∧ letB x = true ∧ (y = 58 ∨ y = 124) := by
  unfold drive at h
  split at h
  · rename_i a b
    simp at h
    exact ⟨a, b, rfl, h.1, h.2⟩
  · cases h
theorem letB_lt {x : Int} (h : letB x = true) : x < 128 := by simp [letB] at h; omega
/-- A text that is a drive is two bytes. -/
theorem drive_bytes {l : List UInt8} (h : drive (runes l) = true) : ∃ a b : UInt8, l = [a, b] ∧ letB a.toNat = true ∧ (b = 58 ∨ b = 124) := by
  obtain ⟨x, y, e, hx, hy⟩ := drive_two h
  obtain ⟨a, b, rfl, rfl, rfl⟩ := runes_two e (letB_lt hx) (by omega)
  refine ⟨a, b, rfl, hx, ?_⟩
  rcases hy with hy | hy
  · left; apply UInt8.toNat_inj.1; show b.toNat = 58; omega
  · right; apply UInt8.toNat_inj.1; show b.toNat = 124; omega
theorem drive_mk {a b : UInt8} (ha : letB a.toNat = true) (hb : b = 58 ∨ b = 124) : drive (runes [a, b]) = true := by
  have h1 := letB_lt ha
  rw [runes_ascii [a, b] (by intro c hc; simp at hc; rcases hc with rfl | rfl; · omega
                             · rcases hb with rfl | rfl <;> decide)]
  simp only [List.map_cons, List.map_nil, drive, ha, Bool.true_and]
  rcases hb with rfl | rfl <;> rfl
#print axioms drive_bytes
end Go.Proofs.YtpahiipfmccbiaaDoor
