/- Law: four.Parse reads a text's address. -/
import Derived.Test.YtmobeppmdakjmaaGreatDoorD3
namespace Go.Proofs.YtmobeppmdakjmaaGreatDoor
open Go.RowKit

/-- addr4 over the numbers. -/
def addrO : Nat → Nat → List (Option Nat) → Option Nat
  | _, out, [] => some out
  | k, out, [a] => match a with
    | some x => if x < 256 ^ (4 - k) then some (out * 256 ^ (4 - k) + x) else none
    | none => none
  | k, out, a :: t => match a with
    | some x => if x < 256 then addrO (k + 1) (out * 256 + x) t else none
    | none => none
theorem addr4_O : ∀ (l : List (List UInt8)) (k out : Nat), addr4 4 k out l = addrO k out (l.map number4)
  | [], _, _ => rfl
  | [p], k, out => rfl
  | p :: q :: t, k, out => by
    show (match number4 p with
      | some x => if x < 256 then addr4 4 (k + 1) (out * 256 + x) (q :: t) else none
      | none => none) = (match number4 p with
      | some x => if x < 256 then addrO (k + 1) (out * 256 + x) ((q :: t).map number4) else none
      | none => none)
    cases number4 p with
    | none => rfl
    | some x => simp only; rw [addr4_O (q :: t)]

theorem big_mod {n m : Nat} (h : n < m) : n % m = n := Nat.mod_eq_of_lt h
theorem law1 (a : Option Nat) : (stepO 0 0 0 a).map (· % 4294967296) = addrO 0 0 [a] := by
  cases a with
  | none => rfl
  | some a =>
    by_cases h : a < 4294967296
    · rw [stepO_last 0 0 a h]; simp [addrO, h]
    · rw [stepO_over 0 0 a h]; simp [addrO, h]
theorem law2 (a b : Option Nat) : ((stepO 1 0 1 b).bind (stepO 1 · 0 a)).map (· % 4294967296) = addrO 0 0 [a, b] := by
  cases b with
  | none =>
    cases a with
    | none => rfl
    | some a => simp [stepO, addrO]
  | some b =>
    by_cases h : b < 16777216
    · rw [stepO_last 1 0 b h, Option.bind_some]
      cases a with
      | none => rfl
      | some a =>
        by_cases ha : a < 256
        · rw [stepO_add 1 b 0 a (by omega) (by omega)]
          simp [addrO, h, ha]; omega
        · rw [stepO_big 1 b 0 a (by omega) (by omega)]
          simp [addrO, ha]
    · rw [stepO_over 1 0 b h]
      cases a <;> simp [addrO, h]
theorem law3 (a b c : Option Nat) : (((stepO 2 0 2 c).bind (stepO 2 · 1 b)).bind (stepO 2 · 0 a)).map (· % 4294967296) = addrO 0 0 [a, b, c] := by
  cases c with
  | none =>
    cases a <;> cases b <;> simp [stepO, addrO]
  | some c =>
    by_cases h : c < 65536
    · rw [stepO_last 2 0 c h, Option.bind_some]
      cases b with
      | none => cases a <;> simp [stepO, addrO]
      | some b =>
        by_cases hb : b < 256
        · rw [stepO_add 2 c 1 b (by omega) (by omega), Option.bind_some]
          cases a with
          | none => rfl
          | some a =>
            by_cases ha : a < 256
            · rw [stepO_add 2 _ 0 a (by omega) (by omega)]
              simp [addrO, h, hb, ha]; omega
            · rw [stepO_big 2 _ 0 a (by omega) (by omega)]
              simp [addrO, ha]
        · rw [stepO_big 2 c 1 b (by omega) (by omega)]
          cases a <;> simp [addrO, hb]
    · rw [stepO_over 2 0 c h]
      cases a <;> cases b <;> simp [addrO, h]
theorem law4 (a b c d : Option Nat) : ((((stepO 3 0 3 d).bind (stepO 3 · 2 c)).bind (stepO 3 · 1 b)).bind (stepO 3 · 0 a)).map (· % 4294967296) = addrO 0 0 [a, b, c, d] := by
  cases d with
  | none =>
    cases a <;> cases b <;> cases c <;> simp [stepO, addrO]
  | some d =>
    by_cases h : d < 256
    · rw [stepO_last 3 0 d h, Option.bind_some]
      cases c with
      | none => cases a <;> cases b <;> simp [stepO, addrO]
      | some c =>
        by_cases hc : c < 256
        · rw [stepO_add 3 d 2 c (by omega) (by omega), Option.bind_some]
          cases b with
          | none => cases a <;> simp [stepO, addrO]
          | some b =>
            by_cases hb : b < 256
            · rw [stepO_add 3 _ 1 b (by omega) (by omega), Option.bind_some]
              cases a with
              | none => rfl
              | some a =>
                by_cases ha : a < 256
                · rw [stepO_add 3 _ 0 a (by omega) (by omega)]
                  simp [addrO, h, hc, hb, ha]; omega
                · rw [stepO_big 3 _ 0 a (by omega) (by omega)]
                  simp [addrO, ha]
            · rw [stepO_big 3 _ 1 b (by omega) (by omega)]
              cases a <;> simp [addrO, hb]
        · rw [stepO_big 3 d 2 c (by omega) (by omega)]
          cases a <;> cases b <;> simp [addrO, hc]
    · rw [stepO_over 3 0 d h]
      cases a <;> cases b <;> cases c <;> simp [addrO, h]
theorem fold_law (s : List UInt8) (last : Nat) (h3 : last ≤ 3) (hlast : (parts4 s).length = last + 1) (f : Nat → Part last) (hf : ∀ j, j < last + 1 → (f j).1.1 = j ∧ (parts4 s)[j]? = some (f j).1.2) :
    (foldW last (came f (last + 1) 0)).map (· % 4294967296) = parse4 s := by
  have hp : parse4 s = addrO 0 0 ((parts4 s).map number4) := by
    unfold parse4
    rw [if_neg (by omega), addr4_O]
  rw [hp]
  generalize parts4 s = P at *
  have q : last = 0 ∨ last = 1 ∨ last = 2 ∨ last = 3 := by omega
  rcases q with rfl | rfl | rfl | rfl
  · match P, hlast with
    | [p0], _ =>
      have e0 := (hf 0 (by omega)).2
      have i0 := (hf 0 (by omega)).1
      simp only [List.getElem?_cons_zero, Option.some.injEq] at e0
      have hc : came f 1 0 = [f 0] := rfl
      show (foldW 0 (came f 1 0)).map _ = _
      rw [hc]
      simp only [foldW, List.foldl, Option.bind_some, stepW, i0, ← e0, List.map]
      exact law1 _
  · match P, hlast with
    | [p0, p1], _ =>
      have e0 := (hf 0 (by omega)).2
      have i0 := (hf 0 (by omega)).1
      have e1 := (hf 1 (by omega)).2
      have i1 := (hf 1 (by omega)).1
      simp only [List.getElem?_cons_zero, List.getElem?_cons_succ, Option.some.injEq] at e0 e1
      have hc : came f 2 0 = [f 1, f 0] := rfl
      show (foldW 1 (came f 2 0)).map _ = _
      rw [hc]
      simp only [foldW, List.foldl, Option.bind_some, stepW, i0, i1, ← e0, ← e1, List.map]
      exact law2 _ _
  · match P, hlast with
    | [p0, p1, p2], _ =>
      have e0 := (hf 0 (by omega)).2
      have i0 := (hf 0 (by omega)).1
      have e1 := (hf 1 (by omega)).2
      have i1 := (hf 1 (by omega)).1
      have e2 := (hf 2 (by omega)).2
      have i2 := (hf 2 (by omega)).1
      simp only [List.getElem?_cons_zero, List.getElem?_cons_succ, Option.some.injEq] at e0 e1 e2
      have hc : came f 3 0 = [f 2, f 1, f 0] := rfl
      show (foldW 2 (came f 3 0)).map _ = _
      rw [hc]
      simp only [foldW, List.foldl, Option.bind_some, stepW, i0, i1, i2, ← e0, ← e1, ← e2, List.map]
      exact law3 _ _ _
  · match P, hlast with
    | [p0, p1, p2, p3], _ =>
      have e0 := (hf 0 (by omega)).2
      have i0 := (hf 0 (by omega)).1
      have e1 := (hf 1 (by omega)).2
      have i1 := (hf 1 (by omega)).1
      have e2 := (hf 2 (by omega)).2
      have i2 := (hf 2 (by omega)).1
      have e3 := (hf 3 (by omega)).2
      have i3 := (hf 3 (by omega)).1
      simp only [List.getElem?_cons_zero, List.getElem?_cons_succ, Option.some.injEq] at e0 e1 e2 e3
      have hc : came f 4 0 = [f 3, f 2, f 1, f 0] := rfl
      show (foldW 3 (came f 4 0)).map _ = _
      rw [hc]
      simp only [foldW, List.foldl, Option.bind_some, stepW, i0, i1, i2, i3, ← e0, ← e1, ← e2, ← e3, List.map]
      exact law4 _ _ _ _

theorem parse_any (s : List UInt8) (hl : s.length ≤ 1000000) (w : World) (ho : Ok w) :
    Calls Tryz.prog 15 #[.string ⟨s.toArray⟩] w fun e w' => e = .returned (parseV (parse4 s)) ∧ Below w.heap.size w w' := by
  by_cases h4 : 4 < (parts4 s).length
  · have e : parse4 s = none := by unfold parse4; exact if_pos h4
    rw [e]
    exact parse_long s hl h4 w ho
  · have hne : 0 < (parts4 s).length := List.length_pos_iff.2 (parts4_ne s)
    obtain ⟨last, hlast⟩ : ∃ last, (parts4 s).length = last + 1 := ⟨(parts4 s).length - 1, by omega⟩
    have hm : ∀ j, ∀ p : List UInt8, (parts4 s)[j]? = some p → p.length ≤ 1000000 := fun j p h => by
      have := parts4_mem (List.mem_of_getElem? h)
      omega
    let f : Nat → Part last := fun j => if h : j < last + 1 then ⟨(j, (parts4 s)[j]'(by omega)), by show j ≤ last; omega, hm j _ (List.getElem?_eq_getElem (by omega))⟩ else ⟨(0, []), Nat.zero_le _, by simp⟩
    have hf : ∀ j, j < last + 1 → (f j).1.1 = j ∧ (parts4 s)[j]? = some (f j).1.2 := fun j hj => by
      have e : f j = ⟨(j, (parts4 s)[j]'(by omega)), by show j ≤ last; omega, hm j _ (List.getElem?_eq_getElem (by omega))⟩ := dif_pos hj
      rw [e]
      exact ⟨rfl, List.getElem?_eq_getElem (by omega)⟩
    rw [← fold_law s last (by omega) hlast f hf]
    exact parse_short s hl last (by omega) hlast f hf w ho
#print axioms parse_any
end Go.Proofs.YtmobeppmdakjmaaGreatDoor
