/- Plain law: whether a text ends in a number hangs on its last part alone (FourEnds). -/
import Derived.Test.YtmobeppmdakjmaaDoorL1
import Derived.Lib.LastIndexByte
import Derived.Lib.SlTrimSet
import Derived.Lib.Strings
namespace Go.Proofs.YtmobeppmdakjmaaDoor

theorem trimSuffix_dot (s : List UInt8) : Lib.trimSuffix s [46] = trimDot s := by
  unfold Lib.trimSuffix trimDot
  have h : Lib.hasSuffix s [46] = true ↔ s.getLast? = some 46 := by
    unfold Lib.hasSuffix
    rw [List.isSuffixOf_iff_suffix]
    constructor
    · rintro ⟨t, rfl⟩; simp
    · intro e
      have hne : s ≠ [] := by rintro rfl; cases e
      refine ⟨s.dropLast, ?_⟩
      rw [List.getLast?_eq_some_getLast hne] at e
      injection e with e
      have := List.dropLast_concat_getLast hne
      rwa [e] at this
  by_cases hl : s.getLast? = some 46
  · rw [if_pos (h.2 hl), if_pos hl, List.dropLast_eq_take]
    rfl
  · rw [if_neg (fun e => hl (h.1 e)), if_neg hl]
/-- Does a last part say a number? -/
def endsL (p : List UInt8) : Bool := p != [] && ((number4 p).isSome || digitsB 10 p)
theorem ends4_last {s p : List UInt8} (h : (splitC 46 [] (trimDot s)).getLast? = some p) : ends4 s = endsL p := by
  unfold ends4
  rw [parts4_trim, ← splitC_46, h]
  rfl
theorem last_free {l : List UInt8} (h : (46 : UInt8) ∉ l) : (splitC 46 [] l).getLast? = some l := by rw [splitC_free 46 l [] h]; rfl
theorem last_two (a : List UInt8) {r : List UInt8} (h : (46 : UInt8) ∉ r) : (splitC 46 [] (a ++ 46 :: r)).getLast? = some r := by
  rw [splitC_two, splitC_free 46 r [] h]
  simp
theorem getLast_app {α : Type} (a : List α) {b : List α} (h : b ≠ []) : (a ++ b).getLast? = b.getLast? := by
  rw [List.getLast?_append, List.getLast?_eq_some_getLast h]
  rfl
theorem dropWhile_nil {α : Type} (p : α → Bool) : ∀ l : List α, l.dropWhile p = [] ↔ ∀ x ∈ l, p x = true
  | [] => by simp
  | a :: t => by
    rw [List.dropWhile_cons]
    have ih := dropWhile_nil p t
    by_cases h : p a = true
    · rw [if_pos h, ih]
      simp [h]
    · rw [if_neg h]
      simp [h]
theorem last_ahead (a l : List UInt8) : (splitC 46 [] (a ++ 46 :: l)).getLast? = (splitC 46 [] l).getLast? := by
  rw [splitC_two, getLast_app _ (splitC_ne 46 l [])]
/-- What stands behind the last point. -/
structure Last (l r : List UInt8) : Prop where
  free : (46 : UInt8) ∉ r
  at_ : l = r ∨ ∃ a, l = a ++ 46 :: r
theorem Last.piece {l r : List UInt8} (h : Last l r) : (splitC 46 [] l).getLast? = some r := by
  rcases h.at_ with rfl | ⟨a, rfl⟩
  · exact last_free h.free
  · exact last_two a h.free
theorem lib_last (l : List UInt8) : ∃ k : Nat, Lib.lastIndexByte ⟨l.toArray⟩ 46 = (k : Int) - 1 ∧ k ≤ l.length ∧ Last l (l.drop k) := by
  have hsz : (⟨l.toArray⟩ : ByteArray).size = l.length := by simp [ByteArray.size]
  have hat : ∀ (j : Nat) (hj : j < l.length), (⟨l.toArray⟩ : ByteArray).data[j]! = l[j] := by
    intro j hj
    rw [getElem!_pos _ j (by simpa using hj)]
    simp
  have h46 : ∀ c : UInt8, ((c.toNat : Int) = 46) → c = 46 := by
    intro c hc
    apply UInt8.toNat_inj.1
    have : (46 : UInt8).toNat = 46 := rfl
    omega
  rcases Lib.lastIndexByte_spec ⟨l.toArray⟩ 46 with ⟨e, hn⟩ | ⟨i, hi, e, hc, hn⟩
  · refine ⟨0, by rw [e]; rfl, Nat.zero_le _, ⟨?_, .inl rfl⟩⟩
    rw [List.drop_zero]
    intro hm
    obtain ⟨j, hj, ej⟩ := List.getElem_of_mem hm
    have := hn j (by omega)
    rw [hat j hj, ej] at this
    exact this rfl
  · have hi' : i < l.length := by omega
    rw [hat i hi'] at hc
    refine ⟨i + 1, by rw [e]; omega, by omega, ⟨?_, .inr ⟨l.take i, ?_⟩⟩⟩
    · intro hm
      obtain ⟨j, hj, ej⟩ := List.getElem_of_mem hm
      rw [List.length_drop] at hj
      rw [List.getElem_drop] at ej
      have := hn (i + 1 + j) (by omega) (by omega)
      rw [hat (i + 1 + j) (by omega), ej] at this
      exact this rfl
    · have := List.take_append_drop i l
      rw [List.drop_eq_getElem_cons hi', h46 _ hc] at this
      exact this.symm
theorem trimDot_ahead (a : List UInt8) {s : List UInt8} (h : s ≠ []) : trimDot (a ++ 46 :: s) = a ++ 46 :: trimDot s := by
  unfold trimDot
  have e : (a ++ 46 :: s).getLast? = s.getLast? := by
    rw [getLast_app _ (by simp), List.getLast?_cons_of_ne_nil h]
  rw [e]
  split
  · rw [List.dropLast_append_of_ne_nil (by simp), List.dropLast_cons_of_ne_nil h]
  · rfl
theorem trimDot_free {p : List UInt8} (h : (46 : UInt8) ∉ p) : trimDot p = p := by
  unfold trimDot
  rw [if_neg (fun e => h (List.mem_of_getLast? e))]
theorem ends4_ahead (a : List UInt8) {s r : List UInt8} (hs : s ≠ []) (h : Last (trimDot s) r) : ends4 (a ++ 46 :: s) = endsL r := by
  refine ends4_last ?_
  rw [trimDot_ahead a hs, last_ahead]
  exact h.piece
theorem ends4_x (r : List UInt8) (h : (46 : UInt8) ∉ r) : ends4 (120 :: 46 :: r) = endsL r := by
  by_cases hr : r = []
  · subst hr; decide
  · exact ends4_ahead [120] hr ⟨h, .inl (trimDot_free h)⟩
theorem ends4_free (r : List UInt8) (h : (46 : UInt8) ∉ r) : ends4 r = endsL r := ends4_last (by rw [trimDot_free h]; exact last_free h)
theorem parse4_ends {s : List UInt8} {v : Nat} (h : parse4 s = some v) : ends4 s = true := by
  unfold parse4 at h
  split at h
  · cases h
  · have hne := parts4_trim s
    have hpos : parts4 s ≠ [] := by rw [hne, ← splitC_46]; exact splitC_ne 46 _ []
    have hp : 0 < (parts4 s).length := List.length_pos_iff.2 hpos
    have hget : (parts4 s)[(parts4 s).length - 1]? = some ((parts4 s)[(parts4 s).length - 1]'(by omega)) := List.getElem?_eq_getElem (by omega)
    unfold ends4
    rw [List.getLast?_eq_getElem?, hget]
    simp only
    cases hn : number4 ((parts4 s)[(parts4 s).length - 1]'(by omega)) with
    | none =>
      rw [addr4_none 4 (parts4 s) 0 0 _ _ hget (.inl hn)] at h
      cases h
    | some n =>
      have hne2 : (parts4 s)[(parts4 s).length - 1]'(by omega) ≠ [] := by
        intro e
        rw [e] at hn
        cases hn
      simp [hne2]
theorem trimS_all (l cs : List UInt8) : Lib.trimS l cs = [] ↔ l.all (cs.contains ·) = true := by
  unfold Lib.trimS Lib.trimLeftS Lib.trimRightS
  rw [List.all_eq_true]
  constructor
  · intro h
    rw [dropWhile_nil] at h
    by_cases he : l.reverse.dropWhile (cs.contains ·) = []
    · rw [dropWhile_nil] at he
      exact fun x hx => he x (by simpa using hx)
    · exfalso
      have hh := List.head_dropWhile_not (cs.contains ·) he
      have := h _ (List.mem_reverse.2 (List.head_mem he))
      rw [hh] at this
      cases this
  · intro h
    have : l.reverse.dropWhile (cs.contains ·) = [] := by
      rw [dropWhile_nil]
      exact fun x hx => h x (by simpa using hx)
    rw [this]
    rfl
theorem ten_digits (l : List UInt8) : l.all ([48, 49, 50, 51, 52, 53, 54, 55, 56, 57].contains ·) = digitsB 10 l := by
  unfold digitsB
  congr 1
  funext c
  have : ∀ n : Fin 256, [48, 49, 50, 51, 52, 53, 54, 55, 56, 57].contains (UInt8.ofNat n.1) = decide (worth (UInt8.ofNat n.1) < 10) := by decide +kernel
  have h := this ⟨c.toNat, c.toNat_lt⟩
  simpa using h
theorem trim_ten (l : List UInt8) : (Lib.trimS l [48, 49, 50, 51, 52, 53, 54, 55, 56, 57] == []) = digitsB 10 l := by
  rw [← ten_digits]
  by_cases h : Lib.trimS l [48, 49, 50, 51, 52, 53, 54, 55, 56, 57] = []
  · rw [(trimS_all _ _).1 h, h]; rfl
  · have h2 : (Lib.trimS l [48, 49, 50, 51, 52, 53, 54, 55, 56, 57] == []) = false := by rw [beq_eq_false_iff_ne]; exact h
    rw [h2]
    cases h3 : l.all ([48, 49, 50, 51, 52, 53, 54, 55, 56, 57].contains ·) with
    | false => rfl
    | true => exact absurd ((trimS_all _ _).2 h3) h
#print axioms trim_ten
#print axioms parse4_ends
end Go.Proofs.YtmobeppmdakjmaaDoor
