/- Walks: a text as code points; a slice of texts cloned; a path that is shortened, by the program and by the reference. -/
import Derived.Test.YtpahiipfmccbiaaDoorA1
import Derived.Test.YtpahiipfmccbiaaDoorP2
namespace Go.Proofs.YtpahiipfmccbiaaDoor
open Go.RowKit

theorem runesFrom_eq (s : ByteArray) : ∀ (bound i : Nat) (acc : Array Value), Conv.runesFrom s bound i acc = acc ++ (runV (runesOf bound (s.data.toList.drop i))).toArray
  | 0, i, acc => by simp [Conv.runesFrom, runesOf, runV]
  | bound + 1, i, acc => by
    have hsz : s.data.toList.length = s.size := rfl
    unfold Conv.runesFrom
    by_cases h : i < s.size
    · rw [if_pos h, runesOf_cons _ _ (by intro e; have := congrArg List.length e; rw [List.length_drop, List.length_nil] at this; omega), Lib.decodeL_drop]
      dsimp only
      rw [runesFrom_eq s bound, List.drop_drop]
      simp [runV]
    · rw [if_neg h, List.drop_of_length_le (by omega), runesOf_nil]
      simp [runV]

/-- '[]rune(s)'. -/
theorem conv_runes (s : ByteArray) (w : World) (h : s.size ≤ 70368744177664) : ∃ (cap : Nat) (row : Array Value),
    (convert 9 22 (.string s)).run Tryd.prog w = .ok (.slice (some ⟨w.heap.size, 0, none⟩) (runes s.data.toList).length cap) (w.alloc (.cells row 21)).drew ∧
    Rd (w.alloc (.cells row 21)).drew (w.heap.size + 1) (some ⟨w.heap.size, 0, none⟩) (runV (runes s.data.toList)) := by
  have hsz : s.data.toList.length = s.size := rfl
  have e : Conv.runesFrom s s.size 0 #[] = (runV (runes s.data.toList)).toArray := by rw [runesFrom_eq, List.drop_zero, runes, hsz]; simp
  have e2 : (runV (runes s.data.toList)).toArray.size = (runes s.data.toList).length := by simp [runV]
  have hl := runes_le s.data.toList
  have hrun := run_runes_of_string (P := Tryd.prog) w 9 22 21 s Tryd.underlying9 Tryd.underlying22 Tryd.underlying21 (by rw [e, e2]; omega)
  rw [e, e2] at hrun
  refine ⟨_, _, hrun, fun k u hu => ⟨w.heap.size, 0, rfl, Nat.lt_succ_self _, ?_⟩⟩
  show (w.alloc _).cell? _ = _
  rw [World.cell?_alloc_at _ _ _ _ rfl, Nat.zero_add, Array.getElem?_append_left (by simpa using (List.getElem?_eq_some_iff.1 hu).1)]
  simpa using hu

/-- What a call leaves that makes a row of texts. -/
def Made (xs : List (List UInt8)) (w : World) (en : Ending) (w' : World) : Prop :=
  ∃ v', en = .returned v' ∧ w'.ownsRow w.heap.size 9 1 v' xs.length (strV xs) ∧ Below w.heap.size w w'
theorem own_base {w : World} {base base' n : Nat} {e : TypeId} {size : Nat} {v : Value} {xs : List Value} (h : w.ownsRow base e size v n xs) (hb : base' ≤ base) : w.ownsRow base' e size v n xs := by
  refine ⟨h.1, ?_⟩
  rcases h.2 with hn | ⟨g, cap, cur, hv, hg, r⟩
  · exact .inl hn
  · exact .inr ⟨g, cap, cur, hv, by omega, r⟩
theorem Made.later {xs : List (List UInt8)} {w w1 : World} (hb : Below w.heap.size w w1) {en : Ending} {w' : World} (h : Made xs w1 en w') : Made xs w en w' := by
  obtain ⟨v', e, ho, hb'⟩ := h
  exact ⟨v', e, own_base ho hb.size, hb.trans (hb'.mono hb.size)⟩

theorem clone_any (A : Option Addr) (c : Nat) (xs : List (List UInt8)) (w : World) (B : Nat) (hr : Rd w B A (strV xs)) (hl : xs.length ≤ 4294967296) :
    Calls Tryd.prog 35 #[.slice A xs.length c] w (Made xs w) := by
  cases A with
  | none =>
    have hx : xs = [] := by have := rd_none hr; simpa [strV] using this
    subst hx
    refine (Tryd.slices_Clone_string_nil 0 c w).mono ?_
    rintro e w' ⟨rfl, rfl⟩
    exact ⟨_, rfl, World.ownsRow_nil _ _ _ _, Below.refl _ _⟩
  | some a =>
    cases xs with
    | nil =>
      refine (Tryd.slices_Clone_string_zero a c w).mono ?_
      rintro e w' ⟨v', rfl, ho, -, hb⟩
      exact ⟨_, rfl, ho, hb⟩
    | cons x t =>
      obtain ⟨b, off, e, _, _⟩ := hr 0 _ rfl
      injection e with e
      subst e
      have hz : (List.map (fun l : List UInt8 => (⟨l.toArray⟩ : ByteArray)) (x :: t)).length = (x :: t).length := by simp
      refine (Tryd.slices_Clone_string b off (x :: t).length c ((x :: t).map fun l => ⟨l.toArray⟩) w (by rw [hz]; exact Nat.le_refl _) (by omega) (fun j hj => ?_)).mono ?_
      · rw [hz] at hj
        refine hr.cell ?_
        rw [strV_get (List.getElem?_eq_getElem hj)]
        rw [List.getD_eq_getElem?_getD, List.getElem?_map, List.getElem?_eq_getElem hj]
        rfl
      · rintro e w' ⟨v', rfl, ho, -, hb⟩
        refine ⟨_, rfl, ?_, hb⟩
        rw [List.take_of_length_le (by rw [hz]; exact Nat.le_refl _), List.map_map] at ho
        exact ho

theorem plainDrive_false {s : List UInt8} (h : drive (runes s) = false) : plainDrive s = false := by simp [plainDrive, h]
theorem shorten_cons2 (name a b : List UInt8) (t : List (List UInt8)) : shorten name (a :: b :: t) = (a :: b :: t).dropLast := rfl

set_option maxHeartbeats 1000000 in
set_option maxRecDepth 100000 in
theorem shorten_any (name : List UInt8) (A : Option Addr) (c : Nat) (xs : List (List UInt8)) (w : World) (B : Nat) (hr : Rd w B A (strV xs)) (hB : B ≤ w.heap.size) (hl : xs.length ≤ 4294967296) (hc : xs.length ≤ c) (hs : ∀ s ∈ xs, s.length ≤ 70368744177664) :
    Calls Tryd.prog 16 #[.string ⟨name.toArray⟩, .slice A xs.length c] w (Made (shorten name xs) w) := by
  match xs, hr, hl, hc, hs with
  | [], hr, hl, hc, _ =>
    go_enter Tryd.func16, Tryd.ntmps16
    go_wp2_with (go_at_call 35; refine (clone_any A c [] w B hr (by simp)).mono ?_)
    rintro e w' ⟨v', rfl, ho, hb⟩
    go_wp2
    go_ret
    exact ⟨_, rfl, ho, hb⟩
  | [s], hr, hl, hc, hs =>
    obtain ⟨b, off, rfl, hbB, h0⟩ := hr 0 _ rfl
    rw [Nat.add_zero] at h0
    have hsl := hs s (by simp)
    by_cases hf : (name == fileN) = true
    · have hf' : (name == [102, 105, 108, 101]) = true := hf
      obtain ⟨cap, row, hrun, hrd⟩ := conv_runes ⟨s.toArray⟩ w (by rw [size_str]; exact hsl)
      have hsd : (⟨s.toArray⟩ : ByteArray).data.toList = s := rfl
      rw [hsd] at hrun hrd
      have hfe : name = [102, 105, 108, 101] := eq_of_beq hf'
      subst hfe
      by_cases hd : drive (runes s) = true
      · obtain ⟨a, b', rfl, ha, hb'⟩ := drive_bytes hd
        have h0' : ∀ o : Obj, (w.alloc o).cell? ⟨b, off, none⟩ = some (.string ⟨[a, b'].toArray⟩) := fun o => (hr.alloc hB o).cell0 rfl
        have h0a := h0' (.cells row 21)
        clear h0'
        rcases hb' with rfl | rfl
        · have hsh : Hid (shorten [102, 105, 108, 101] [[a, 58]] = [[a, 58]]) := by show _ = _; simp [shorten, plainDrive, fileN, hd]
          clear hf hf'
          go_enter Tryd.func16, Tryd.ntmps16
          go_wp2_with (first | (go_at_call 15; refine (drive_any _ _ _ _ _ hrd).mono ?_; rintro e w' ⟨rfl, rfl⟩) | (go_at_call 35; refine (clone_any _ c [[a, 58]] _ B ((hr.alloc hB _).drew) (by simp)).mono ?_))
          rintro e w' hm
          obtain ⟨v', rfl, ho, hb⟩ := Made.later (((Below.refl _ w).alloc (Nat.le_refl _) _).drew) hm
          go_wp2
          go_ret
          rw [hsh.out]
          exact ⟨_, rfl, ho, hb⟩
        · have hsh : Hid (shorten [102, 105, 108, 101] [[a, 124]] = []) := by show _ = _; simp [shorten, plainDrive]
          clear hf hf'
          go_enter Tryd.func16, Tryd.ntmps16
          go_wp2_with (first | (go_at_call 15; refine (drive_any _ _ _ _ _ hrd).mono ?_; rintro e w' ⟨rfl, rfl⟩) | (go_at_call 35; refine (clone_any _ c [] _ B (Rd.nil _ _ _) (by simp)).mono ?_))
          rintro e w' hm
          obtain ⟨v', rfl, ho, hb⟩ := Made.later (((Below.refl _ w).alloc (Nat.le_refl _) _).drew) hm
          go_wp2
          go_ret
          rw [hsh.out]
          exact ⟨_, rfl, ho, hb⟩
      · have hd2 : drive (runes s) = false := by simpa using hd
        have hsh : Hid (shorten [102, 105, 108, 101] [s] = []) := by show _ = _; simp [shorten, plainDrive, fileN, hd2]
        clear hf hf' hd
        go_enter Tryd.func16, Tryd.ntmps16
        go_wp2_with (first | (go_at_call 15; refine (drive_any _ _ _ _ _ hrd).mono ?_; rintro e w' ⟨rfl, rfl⟩) | (go_at_call 35; refine (clone_any _ c [] _ B (Rd.nil _ _ _) (by simp)).mono ?_))
        rintro e w' hm
        obtain ⟨v', rfl, ho, hb⟩ := Made.later (((Below.refl _ w).alloc (Nat.le_refl _) _).drew) hm
        go_wp2
        go_ret
        rw [hsh.out]
        exact ⟨_, rfl, ho, hb⟩
    · have hf' : (name == [102, 105, 108, 101]) = false := by simpa [fileN] using hf
      have hsh : Hid (shorten name [s] = []) := by show _ = _; simp [shorten, hf]
      clear hf
      have Hr := Lib.hid hr
      clear hr
      go_enter Tryd.func16, Tryd.ntmps16
      go_wp2_with (go_at_call 35; refine (clone_any _ c [] w B (Rd.nil _ _ _) (by simp)).mono ?_)
      rintro e w' ⟨v', rfl, ho, hb⟩
      go_wp2
      go_ret
      rw [hsh.out]
      exact ⟨_, rfl, ho, hb⟩
  | x :: y :: t, hr, hl, hc, hs =>
    have h2 : 2 ≤ (x :: y :: t).length := by simp
    rw [shorten_cons2]
    generalize x :: y :: t = xs at hr hl hc hs h2
    have hrt : Rd w B A (strV xs.dropLast) := by
      have := hr.take (xs.length - 1)
      rw [strV, ← List.map_take] at this
      rw [List.dropLast_eq_take]
      exact this
    have hln : xs.dropLast.length = xs.length - 1 := by simp
    have f0 : ((xs.length : Int) == 0) = false := by rw [beq_eq_false_iff_ne]; omega
    have f1 : ((xs.length : Int) == 1) = false := by rw [beq_eq_false_iff_ne]; omega
    have hcl := clone_any A c xs.dropLast w B hrt (by omega)
    rw [hln] at hcl
    have Hcl := Lib.hid hcl
    clear hr hcl hrt hln hs
    go_enter Tryd.func16, Tryd.ntmps16
    go_wp2_with (go_at_call 35; refine Hcl.out.mono ?_)
    all_goals
      rintro e w' ⟨v', rfl, ho, hb⟩
      go_wp2
      go_ret
      exact ⟨_, rfl, ho, hb⟩
end Go.Proofs.YtpahiipfmccbiaaDoor
