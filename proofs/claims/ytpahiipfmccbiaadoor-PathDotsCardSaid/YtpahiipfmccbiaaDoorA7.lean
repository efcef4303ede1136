/- Walks: which schemes are special, by the program's map and by the reference's switch. -/
import Derived.Test.YtpahiipfmccbiaaDoorM1
import Derived.Test.YtpahiipfmccbiaaDoorP0
import Derived.Maps.OwnSet
import Derived.Maps.Keyed
import Derived.StringKeys
namespace Go.Proofs.YtpahiipfmccbiaaDoor
open Go.RowKit Go.WideMaps Go.WideElems Go.Maps

theorem wpList_insert_own {H : Type} {P : Program} (w : World) {ops : Array Oper} {rest : List Oper} {o : Oper} {a : Act} {Q : Exit → Act → World → Prop}
    (hg : o.guard = none) (m x v : Operand) (t : TypeId) (hop : o.op = Op.insert t m x v)
    (k e : TypeId) (K : Keyed P k) (ht : P.underlying t = some (.map k e)) (R : Value → Option (DataW H × List MemPlace)) (b n : Nat) (D : DataW H)
    (hm : a.eval m = .map (some b)) (hown : w.ownsMap P k R b n D) (hn : n < maxLen) (key val : Value) (kl : Lit) (hx : a.eval x = key) (hv : a.eval v = val) (hkey : keyOf P k key = some kl)
    (d : DataW H) (ps : List MemPlace) (hval : R val = some (d, ps))
    (hK : ∀ w', w'.ownsMap P k R b (n + 1) (D.put kl d) → w.grownBy w' (some b) → wpList P ops Q rest (a.put o.dst undef) w') :
    wpList P ops Q (o :: rest) a w := by
  refine wpList_plain hg fun K' hK' => ?_
  obtain ⟨w', hrun, r1, r2⟩ := hown.update K ht hn hkey hval
  unfold Oper.wp
  simp [execOp, hop, hm, hx, hv, hrun, Result.andThen]
  exact hK' _ _ (hK w' r1 r2)

abbrev DU := DataW Unit
def pnum (n : Int) : DU := .lit (.int .i64 n)
/-- The map of special schemes. -/
def portsD : DU := (((((((.map [] : DU).put (.string [102, 116, 112]) (pnum 21)).put (.string [104, 116, 116, 112]) (pnum 80)).put (.string [104, 116, 116, 112, 115]) (pnum 443)).put (.string [119, 115]) (pnum 80)).put (.string [119, 115, 115]) (pnum 443)).put (.string [102, 105, 108, 101]) (pnum (-1)))
theorem str_keyed : Keyed Tryd.prog 9 := string_keyed Tryd.underlying9
theorem key_lit (l : List UInt8) (h : l.length ≤ maxLen) : keyOf Tryd.prog 9 (.string ⟨l.toArray⟩) = some (.string l) := keyOf_string_mk Tryd.underlying9 (by show l.length ≤ maxLen; exact h)

/-- The call's own map, so far. -/
def PM (w W : World) : Prop := Below w.heap.size w W ∧ w.heap.size < W.heap.size
theorem PM.next {w W W' : World} (h : PM w W) (hg : W.grownBy W' (some w.heap.size)) : PM w W' :=
  ⟨h.1.grown hg h.1.size (fun k e => by cases e; exact Nat.le_refl _), Nat.lt_of_lt_of_le h.2 hg.size⟩
def PortsMade (w : World) (e : Ending) (w' : World) : Prop := ∃ n, e = .returned (.map (some w.heap.size)) ∧ w'.ownsMap Tryd.prog 9 (plainElem (H := Unit) Tryd.prog 3) w.heap.size n portsD ∧ Below w.heap.size w w'

set_option maxHeartbeats 1000000 in
set_option maxRecDepth 100000 in
theorem ports_any (w : World) : Calls Tryd.prog 56 #[] w (PortsMade w) := by
  have hmm := @run_makeMap Tryd.prog
  have h0 := World.ownsMap_made w Tryd.prog 9 (plainElem (H := Unit) Tryd.prog 3)
  have p0 : PM w (w.alloc (.map #[] 0)) := ⟨(Below.refl _ _).alloc (Nat.le_refl _) _, by simp⟩
  go_enter Tryd.func56, Tryd.ntmps56
  go_wp2_with (refine wpList_insert_own _ rfl _ _ _ 78 rfl 9 3 str_keyed Tryd.underlying78 (plainElem (H := Unit) Tryd.prog 3) _ _ _ rfl (by assumption) (by simp only [maxLen]; omega) _ _ (.string _) rfl rfl (key_lit _ (by simp only [maxLen, List.length_cons, List.length_nil]; omega)) (pnum _) [] (plainElem_int Tryd.underlying3 (by decide)) ?_; intro w1 h1 g1; have p1 := PM.next (w := w) (by assumption) g1; clear g1)
  go_ret
  exact ⟨_, rfl, h1, p1.1⟩

theorem has_put (D : DU) (hD : IsMap D) (k l : List UInt8) (d : DU) : has (D.put (.string k) d) (.string l) = (l == k || has D (.string l)) := by
  by_cases h : l = k
  · subst h
    rw [has_put_same hD (by trivial)]; simp
  · rw [has_put_other (by intro e; injection e with e; exact h e)]
    simp [h]

theorem has_ports (l : List UInt8) : has portsD (.string l) = special l := by
  have h0 : IsMap (.map [] : DU) := isMap_empty
  unfold portsD
  rw [has_put _ (((((h0.put _ _).put _ _).put _ _).put _ _).put _ _), has_put _ ((((h0.put _ _).put _ _).put _ _).put _ _), has_put _ (((h0.put _ _).put _ _).put _ _), has_put _ ((h0.put _ _).put _ _), has_put _ (h0.put _ _), has_put _ h0]
  have he : has (.map [] : DU) (.string l) = false := rfl
  rw [he]
  simp only [special, fileN, List.contains_cons, List.contains_nil, Bool.or_false]
  simp only [Bool.or_assoc, Bool.or_comm, Bool.or_left_comm]

set_option maxHeartbeats 400000 in
set_option maxRecDepth 100000 in
theorem special_any (l : List UInt8) (w : World) (hl : l.length ≤ 4294967296) :
    Calls Tryd.prog 36 #[.string ⟨l.toArray⟩] w fun e w' => e = .returned (.bool (special l)) ∧ Below w.heap.size w w' := by
  have hz : ∀ w, (zeroValue 3).run Tryd.prog w = .ok (.int .i64 0) w := Tryd.zeroValue3
  go_enter Tryd.func36, Tryd.ntmps36
  go_wp2_with (go_at_call 56; refine (ports_any w).mono ?_)
  rintro e w1 ⟨n, rfl, hown, hb⟩
  go_wp2_with (refine wpList_lookup_own_ok_int _ rfl _ _ 78 rfl 9 3 .i64 str_keyed Tryd.underlying78 Tryd.underlying3 (hz _) _ n portsD rfl hown _ (.string l) rfl (key_lit l (by simp only [maxLen]; omega)) ?_; intro c _ _)
  go_ret
  exact ⟨ret_bool (has_ports l), hb⟩
end Go.Proofs.YtpahiipfmccbiaaDoor
