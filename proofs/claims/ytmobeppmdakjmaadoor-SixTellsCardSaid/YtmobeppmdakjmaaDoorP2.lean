/- Plain law: the library's split at a byte is what stands between these bytes. -/
import Derived.Test.YtmobeppmdakjmaaDoorP0
import Derived.Lib.SplitLaws
import Derived.Lib.CountLaws
namespace Go.Proofs.YtmobeppmdakjmaaDoor

/-- A text's pieces between bytes c. -/
def splitC (c : UInt8) : List UInt8 → List UInt8 → List (List UInt8)
  | cur, [] => [cur]
  | cur, a :: t => if a = c then cur :: splitC c [] t else splitC c (cur ++ [a]) t
theorem splitC_46 : ∀ (l cur : List UInt8), splitC 46 cur l = splitD cur l
  | [], _ => rfl
  | a :: t, cur => by rw [splitC, splitD, splitC_46 t, splitC_46 t]
theorem splitC_ne (c : UInt8) : ∀ (l cur : List UInt8), splitC c cur l ≠ []
  | [], _ => by simp [splitC]
  | a :: t, cur => by
    rw [splitC]
    split
    · simp
    · exact splitC_ne c t _
theorem splitC_len (c : UInt8) : ∀ (l cur : List UInt8), (splitC c cur l).length ≤ l.length + 1
  | [], _ => by simp [splitC]
  | a :: t, cur => by
    rw [splitC]
    split
    · have := splitC_len c t []; simp only [List.length_cons]; omega
    · have := splitC_len c t (cur ++ [a]); simp only [List.length_cons]; omega
theorem splitC_mem (c : UInt8) : ∀ (l cur : List UInt8) (s : List UInt8), s ∈ splitC c cur l → s.length ≤ cur.length + l.length
  | [], cur, s, h => by
    obtain rfl : s = cur := by simpa [splitC] using h
    simp
  | a :: t, cur, s, h => by
    rw [splitC] at h
    split at h
    · rcases List.mem_cons.1 h with rfl | h
      · simp
      · have := splitC_mem c t [] s h; simp only [List.length_nil, List.length_cons] at *; omega
    · have := splitC_mem c t (cur ++ [a]) s h; simp only [List.length_append, List.length_cons, List.length_nil] at *; omega

/-- A byte put ahead of the first piece. -/
def pre (cur : List UInt8) : List (List UInt8) → List (List UInt8)
  | [] => []
  | h :: r => (cur ++ h) :: r
theorem pre_pre (a b : List UInt8) (l : List (List UInt8)) : pre a (pre b l) = pre (a ++ b) l := by cases l <;> simp [pre]

theorem index_one_hit (c : UInt8) (t : List UInt8) : Lib.index (c :: t) [c] = ((0 : Nat) : Int) := by
  rw [Lib.index, if_pos (by simp [List.isPrefixOf])]; rfl
theorem index_one_miss {a c : UInt8} (h : a ≠ c) (t : List UInt8) : Lib.index (a :: t) [c] = if Lib.index t [c] == -1 then -1 else Lib.index t [c] + 1 := by
  rw [Lib.index, if_neg]
  have : (c == a) = false := by rw [beq_eq_false_iff_ne]; exact fun e => h e.symm
  simp [List.isPrefixOf, this]
/-- The library's split at one byte. -/
def sp (c : UInt8) (l : List UInt8) : List (List UInt8) := Lib.splitK [c] 0 (Lib.count l [c]) l
theorem splitK_miss (c : UInt8) (k : Nat) (l : List UInt8) (h : Lib.index l [c] = -1) : Lib.splitK [c] 0 k l = [l] := by
  cases k with
  | zero => rfl
  | succ k => rw [Lib.splitK, if_pos (by rw [h]; rfl)]
theorem splitK_hit (c : UInt8) (k : Nat) (l : List UInt8) (i : Nat) (h : Lib.index l [c] = i) : Lib.splitK [c] 0 (k + 1) l = l.take i :: Lib.splitK [c] 0 k (l.drop (i + 1)) := by
  rw [Lib.splitK, if_neg (by rw [h]; simp), h]
  simp
theorem sp_nil (c : UInt8) : sp c [] = [[]] := by
  unfold sp
  exact splitK_miss c _ [] rfl
theorem sp_hit (c : UInt8) (t : List UInt8) : sp c (c :: t) = [] :: sp c t := by
  have h := index_one_hit c t
  unfold sp
  rw [Lib.count_hit (by simp) h, Nat.add_comm 1, splitK_hit c _ _ 0 h]
  simp
theorem sp_miss {a c : UInt8} (h : a ≠ c) (t : List UInt8) : sp c (a :: t) = pre [a] (sp c t) := by
  have hi := index_one_miss h t
  by_cases hm : Lib.index t [c] = -1
  · have hi' : Lib.index (a :: t) [c] = -1 := by rw [hi, hm]; rfl
    unfold sp
    rw [splitK_miss c _ _ hi', splitK_miss c _ _ hm]
    rfl
  · have hge := Lib.index_ge t [c]
    have e : Lib.index t [c] = ((Lib.index t [c]).toNat : Nat) := by omega
    have e2 : Lib.index (a :: t) [c] = ((Lib.index t [c]).toNat + 1 : Nat) := by
      rw [hi, if_neg (by simpa using hm)]; omega
    unfold sp
    rw [Lib.count_hit (by simp) e2, Lib.count_hit (by simp) e, Nat.add_comm 1, Nat.add_comm 1, splitK_hit c _ _ _ e2, splitK_hit c _ _ _ e]
    simp [pre]
theorem sp_splitC (c : UInt8) : ∀ (l cur : List UInt8), splitC c cur l = pre cur (sp c l)
  | [], cur => by rw [sp_nil, splitC]; simp [pre]
  | a :: t, cur => by
    rw [splitC]
    by_cases h : a = c
    · subst h
      rw [if_pos rfl, sp_hit, sp_splitC a t []]
      have : ∀ x, pre [] x = x := fun x => by cases x <;> simp [pre]
      rw [this]
      simp [pre]
    · rw [if_neg h, sp_miss h, sp_splitC c t, pre_pre]
theorem splitB_cells (c : UInt8) (l : List UInt8) : (Lib.splitB ⟨#[c]⟩ 0 (Lib.countB ⟨l.toArray⟩ ⟨#[c]⟩) ⟨l.toArray⟩).map Value.string = (splitC c [] l).map fun s => Value.string ⟨s.toArray⟩ := by
  have h := Lib.splitB_data ⟨#[c]⟩ 0 (Lib.countB ⟨l.toArray⟩ ⟨#[c]⟩) ⟨l.toArray⟩
  have h2 : Lib.splitK [c] 0 (Lib.countB ⟨l.toArray⟩ ⟨#[c]⟩) l = sp c l := rfl
  have h3 : pre [] (sp c l) = sp c l := by cases sp c l <;> simp [pre]
  rw [sp_splitC, h3, ← h2]
  have h4 : (Lib.splitB ⟨#[c]⟩ 0 (Lib.countB ⟨l.toArray⟩ ⟨#[c]⟩) ⟨l.toArray⟩).map Value.string = ((Lib.splitB ⟨#[c]⟩ 0 (Lib.countB ⟨l.toArray⟩ ⟨#[c]⟩) ⟨l.toArray⟩).map (·.data.toList)).map fun s => Value.string ⟨s.toArray⟩ := by
    rw [List.map_map]; simp [Function.comp_def]
  rw [h4, h]
#print axioms splitB_cells
end Go.Proofs.YtmobeppmdakjmaaDoor
