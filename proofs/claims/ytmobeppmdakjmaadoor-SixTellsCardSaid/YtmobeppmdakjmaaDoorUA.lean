/- Walks: the reference's four (of the layer of IPv6 addresses). Plain: the steps of the reference's way to an address. No program in sight. Three blocks of eight pieces each: the result's, the one of noughts, and the one that is filled. -/
import Derived.Test.YtmobeppmdakjmaaDoorU7
import Derived.Deep.LoopGhost
import Derived.Deep.Cut
import Derived.Deep.CutRange
namespace Go.Proofs.YtmobeppmdakjmaaDoor
open Go.RowKit

/-- What four answers. -/
def Four6 (s : List UInt8) (k : Nat) (e : Ending) : Prop := ∃ (hi lo : Int) (ok : Bool), e = .returned (.tuple #[.int .i64 hi, .int .i64 lo, .bool ok]) ∧
  match inner6 (s.drop k) with
  | some l => ok = true ∧ ∃ a b : Nat, l = [a, b] ∧ hi = (a : Int) ∧ lo = (b : Int)
  | none => ok = false
theorem four6_bad (s : List UInt8) (k : Nat) (w : World) (hi lo : Int) (h : inner6 (s.drop k) = none) : Four6 s k (.returned (.tuple #[.int .i64 hi, .int .i64 lo, .bool false])) ∧ w = w :=
  ⟨⟨hi, lo, false, rfl, by rw [h]⟩, rfl⟩
theorem four6_ok (s : List UInt8) (k : Nat) (w : World) (hi lo : Nat) (h : inner6 (s.drop k) = some [hi, lo]) : Four6 s k (.returned (.tuple #[.int .i64 (hi : Int), .int .i64 (lo : Int), .bool true])) ∧ w = w :=
  ⟨⟨_, _, true, rfl, by rw [h]; exact ⟨rfl, hi, lo, rfl, rfl, rfl⟩⟩, rfl⟩
theorem drop_some {s : List UInt8} {t : Nat} {c : UInt8} (h : s[t]? = some c) : s.drop t = c :: s.drop (t + 1) := by
  obtain ⟨h1, h2⟩ := List.getElem?_eq_some_iff.1 h
  rw [List.drop_eq_getElem_cons h1, h2]
/-- A digit at a place, or none. -/
theorem wat_cases (s : List UInt8) (t : Nat) : (wat s t ≤ 9 ∧ ∃ c, s[t]? = some c ∧ wat s t = worth c) ∨ (9 < wat s t ∧ ∀ n, numGo n (s.drop t) = some (n, s.drop t)) := by
  cases h : s[t]? with
  | none =>
    have hd : s.drop t = [] := List.drop_eq_nil_of_le (List.getElem?_eq_none_iff.1 h)
    right
    refine ⟨by unfold wat; rw [h]; decide, fun n => by rw [hd, numGo]⟩
  | some c =>
    have hw : wat s t = worth c := wat_some h
    rw [hw]
    by_cases h9 : worth c ≤ 9
    · exact .inl ⟨h9, c, rfl, rfl⟩
    · refine .inr ⟨by omega, fun n => ?_⟩
      rw [drop_some h, numGo.eq_def]
      simp only [if_neg h9]
theorem step4 {k hi lo : Nat} {l l' : List UInt8} {r : Option (List Nat)} (hk : k < 4) (h : rest4 (4 - k) hi lo l = r) (hs : skip4 (3 - k) l = some l') : go4 (3 - k) hi lo l' = r := by
  rw [show 4 - k = (3 - k) + 1 by omega, rest4, hs] at h
  exact h
theorem step4_bad {k hi lo : Nat} {l : List UInt8} {r : Option (List Nat)} (hk : k < 4) (h : rest4 (4 - k) hi lo l = r) (hs : skip4 (3 - k) l = none) : r = none := by
  rw [show 4 - k = (3 - k) + 1 by omega, rest4, hs] at h
  exact h.symm
theorem go4_some {k hi lo m : Nat} {l l' : List UInt8} {r : Option (List Nat)} (hk : k < 4) (h : go4 (3 - k) hi lo l = r) (hn : numGo none l = some (some m, l')) :
    rest4 (4 - (k + 1)) (if k < 2 then 256 * hi + m else hi) (if k < 2 then lo else 256 * lo + m) l' = r := by
  rw [← h, go4, num4, hn]
  simp only
  rw [show 4 - (k + 1) = 3 - k by omega]
  by_cases h2 : k < 2
  · simp only [if_pos h2]; rw [if_pos (by omega)]
  · simp only [if_neg h2]; rw [if_neg (by omega)]
theorem go4_bad {f hi lo : Nat} {l : List UInt8} {r : Option (List Nat)} (h : go4 f hi lo l = r) (hn : numGo none l = none ∨ ∃ l', numGo none l = some (none, l')) : r = none := by
  rw [← h, go4, num4]
  rcases hn with h | ⟨l', h⟩ <;> rw [h]
/-- A dot stands here, or the rest says nothing. -/
theorem dot_cases {s : List UInt8} {t k hi lo : Nat} {r : Option (List Nat)} (hk : k < 4) (h0 : 0 < k) (h : rest4 (4 - k) hi lo (s.drop t) = r) :
    (s[t]? = some 46 ∧ go4 (3 - k) hi lo (s.drop (t + 1)) = r) ∨ (decide (s[t]? = some (46 : UInt8)) = false ∧ r = none) := by
  by_cases hdot : s[t]? = some 46
  · exact .inl ⟨hdot, step4 hk h (by rw [drop_some hdot, skip4.eq_def, if_neg (by omega)]; rfl)⟩
  · refine .inr ⟨decide_eq_false hdot, step4_bad hk h ?_⟩
    rw [skip4.eq_def, if_neg (by omega)]
    cases h : s[t]? with
    | none => rw [List.drop_eq_nil_of_le (List.getElem?_eq_none_iff.1 h)]
    | some c =>
      rw [drop_some h]
      have : c ≠ 46 := fun e => hdot (by rw [h, e])
      simp only [if_neg this]
/-- One more digit. -/
theorem numGo_ne : ∀ (l : List UInt8) (m : Nat) (r : List UInt8), numGo (some m) l ≠ some (none, r)
  | [], m, r => by rw [numGo]; simp
  | c :: t, m, r => by
    rw [numGo]
    split
    · split
      · simp
      · split
        · simp
        · exact numGo_ne t _ r
    · simp
theorem num_some {s : List UInt8} {t : Nat} (h9 : wat s t ≤ 9) (hc : ∃ c, s[t]? = some c ∧ wat s t = worth c) : ∀ r, numGo none (s.drop t) ≠ some (none, r) := by
  intro r h
  obtain ⟨c, hcs, hw⟩ := hc
  rw [hw] at h9
  rw [drop_some hcs, numGo] at h
  simp only [if_pos h9] at h
  exact numGo_ne _ _ _ h
theorem num_step {s : List UInt8} {t : Nat} {n : Option Nat} {r : Option (Option Nat × List UInt8)} (h9 : wat s t ≤ 9) (hc : ∃ c, s[t]? = some c ∧ wat s t = worth c) (h : numGo n (s.drop t) = r) :
    t < s.length ∧ ((n = none ∧ numGo (some (wat s t)) (s.drop (t + 1)) = r) ∨ (n = some 0 ∧ r = none) ∨ ∃ m, n = some m ∧ m ≠ 0 ∧ ((255 < 10 * m + wat s t ∧ r = none) ∨ (10 * m + wat s t ≤ 255 ∧ numGo (some (10 * m + wat s t)) (s.drop (t + 1)) = r))) := by
  obtain ⟨c, hcs, hw⟩ := hc
  refine ⟨(List.getElem?_eq_some_iff.1 hcs).1, ?_⟩
  rw [drop_some hcs, numGo.eq_def] at h
  rw [hw] at h9 ⊢
  simp only [if_pos h9] at h
  cases n with
  | none => exact .inl ⟨rfl, h⟩
  | some m =>
    right
    simp only at h
    by_cases h0 : m = 0
    · rw [if_pos h0] at h
      exact .inl ⟨by rw [h0], h.symm⟩
    · rw [if_neg h0] at h
      refine .inr ⟨m, rfl, h0, ?_⟩
      by_cases h5 : 255 < 10 * m + worth c
      · rw [if_pos h5] at h
        exact .inl ⟨h5, h.symm⟩
      · rw [if_neg h5] at h
        exact .inr ⟨by omega, h⟩
def encN : Option Nat → Int
  | none => -1
  | some m => (m : Int)
set_option maxHeartbeats 8000000 in
set_option maxRecDepth 100000 in
theorem four6_walk (s : List UInt8) (hl : s.length ≤ 1000000) (k0 : Nat) (hk0 : k0 ≤ s.length) (w : World) (POST : Ending → World → Prop)
    (hbad : ∀ hi lo : Int, inner6 (s.drop k0) = none → POST (.returned (.tuple #[.int .i64 hi, .int .i64 lo, .bool false])) w)
    (hok : ∀ hi lo : Nat, inner6 (s.drop k0) = some [hi, lo] → POST (.returned (.tuple #[.int .i64 (hi : Int), .int .i64 (lo : Int), .bool true])) w) :
    Calls Tryd.prog 65 #[.string ⟨s.toArray⟩, .int .i64 (k0 : Int)] w POST := by
  have hsz := size_str s
  have Hw := Lib.hid (fun k => worth6_any s k w)
  have Hi := Lib.hid (fun k => is6_any s k 46 w)
  have hres : Hid (rest4 4 0 0 (s.drop k0) = inner6 (s.drop k0)) := rest4_inner (s.drop k0)
  have Hb := Lib.hid (hbad 0 0)
  have Hok := Lib.hid hok
  have Hend0 := Lib.hid hbad
  clear hbad hok
  go_enter Tryd.func65, Tryd.ntmps65
  go_wp2
  go_loopg [1, 7, 8, 9] 4 (fun (g : Nat) a b c d wr => ∃ (at_ hi lo k : Nat), k + g = 4 ∧ at_ ≤ s.length ∧ a = .int .i64 (at_ : Int) ∧ b = .int .i64 (hi : Int) ∧ c = .int .i64 (lo : Int) ∧ d = .int .i64 (k : Int) ∧ wr = w ∧ Hid (rest4 (4 - k) hi lo (s.drop at_) = inner6 (s.drop k0)) ∧ (hi : Int) ≤ 65535 ∧ (lo : Int) ≤ 65535 ∧ Hid ((k = 0 → hi = 0) ∧ (k ≤ 1 → hi ≤ 255) ∧ (k ≤ 2 → lo = 0) ∧ (k ≤ 3 → lo ≤ 255)))
  case atStart => exact ⟨k0, 0, 0, 0, by omega, hk0, rfl, rfl, rfl, rfl, rfl, hres.out, by decide, by decide, ⟨fun _ => rfl, fun _ => by decide, fun _ => rfl, fun _ => by decide⟩⟩
  case round =>
    obtain ⟨t, hi, lo, k, hk4, ht, rfl, rfl, rfl, rfl, hwr, hrest, b1, b2, b3⟩ := hrel
    subst wr
    by_cases hlt : k < 4
    · have i1 : (k : Int) < 4 := by omega
      go_upto_if 17 with fail
      go_cut [1] from 12 to 57 (fun v wx => ∃ t1 : Nat, t1 ≤ s.length ∧ v = .int .i64 (t1 : Int) ∧ wx = w ∧ Hid (go4 (3 - k) hi lo (s.drop t1) = inner6 (s.drop k0)))
      case first =>
        by_cases hkz : k = 0
        · have Hg := Lib.hid (step4 (l' := s.drop t) hlt hrest.out (by rw [hkz]; rfl))
          have i2 : ¬ (0 : Int) < (k : Int) := by omega
          clear hkz hrest
          go_wp2
          go_meet
          exact ⟨t, ht, rfl, rfl, Hg.out⟩
        · have i2 : (0 : Int) < (k : Int) := by omega
          rcases dot_cases hlt (by omega) hrest.out with ⟨hd, hg⟩ | ⟨hd, hn⟩
          · have Hg := Lib.hid hg
            have hlt2 : t < s.length := (List.getElem?_eq_some_iff.1 hd).1
            have hd2 : decide (s[t]? = some (46 : UInt8)) = true := decide_eq_true hd
            clear hg hkz hrest hd
            go_wp2_with fail
            refine (Hi.out t).mono ?_
            rintro e w2 ⟨rfl, hw2⟩
            subst w2
            rw [hd2]
            go_wp2
            go_meet
            exact ⟨t + 1, by omega, rfl, rfl, Hg.out⟩
          · have Hn := Lib.hid (Hb.out hn)
            clear hkz hrest hn
            go_wp2_with fail
            refine (Hi.out t).mono ?_
            rintro e w2 ⟨rfl, hw2⟩
            subst w2
            rw [hd]
            go_wp2
            try go_ret3
            exact Hn.out
      case rest =>
        obtain ⟨t1, ht1, rfl, hwc, hgo⟩ := hcut
        subst wc
        rcases wat_cases s t1 with ⟨h9, hc1⟩ | ⟨h9, hno⟩
        · have j9 : ¬ (9 : Int) < (wat s t1 : Int) := by omega
          have Hgo := Lib.hid hgo.out
          have hne : Hid (∀ r, numGo none (s.drop t1) ≠ some (none, r)) := num_some h9 hc1
          clear hgo hc1 h9
          go_wp2_with fail
          refine (Hw.out t1).mono ?_
          rintro e w2 ⟨rfl, hw2⟩
          subst w2
          go_wp2
          go_loopg [1, 10] (s.length - t1) (fun (g : Nat) a b wr => ∃ (t2 : Nat) (n : Int) (N : Option Nat), t2 + g = s.length ∧ a = .int .i64 (t2 : Int) ∧ b = .int .i64 n ∧ wr = w ∧ -1 ≤ n ∧ n ≤ 255 ∧ Hid (n = encN N ∧ numGo N (s.drop t2) = numGo none (s.drop t1)))
          case atStart => exact ⟨t1, -1, none, by omega, rfl, rfl, rfl, by decide, by decide, rfl, rfl⟩
          case round =>
            obtain ⟨t2, n, N, h2, rfl, rfl, hwr2, n1, n2, hN⟩ := hrel
            subst wr
            rcases wat_cases s t2 with ⟨g9, gc⟩ | ⟨g9, gno⟩
            · have l9 : (wat s t2 : Int) ≤ 9 := by omega
              have l0 : (0 : Int) ≤ (wat s t2 : Int) := by omega
              obtain ⟨hlt2, hst⟩ := num_step g9 gc hN.out.2
              rcases hst with ⟨rfl, hr⟩ | ⟨rfl, hr⟩ | ⟨m, rfl, hm0, ⟨h5, hr⟩ | ⟨h5, hr⟩⟩
              · have Hr := Lib.hid hr
                obtain rfl : n = -1 := hN.out.1
                have l255 : ¬ (255 : Int) < (wat s t2 : Int) := by omega
                clear hr g9 gc hN
                go_wp2_with fail
                refine (Hw.out t2).mono ?_
                rintro e w2 ⟨rfl, hw2⟩
                subst w2
                go_wp2_with fail
                refine (Hw.out t2).mono ?_
                rintro e w2 ⟨rfl, hw2⟩
                subst w2
                go_wp2
                go_roundg (gk - 1)
                case measure => omega
                case rel => exact ⟨t2 + 1, _, some (wat s t2), by omega, by rfl, rfl, rfl, by omega, by omega, rfl, Hr.out⟩
              · have Hr := Lib.hid (Hb.out (go4_bad Hgo.out (.inl hr)))
                obtain rfl : n = 0 := hN.out.1
                clear hr g9 gc hN
                go_wp2_with fail
                refine (Hw.out t2).mono ?_
                rintro e w2 ⟨rfl, hw2⟩
                subst w2
                go_wp2_with fail
                refine (Hw.out t2).mono ?_
                rintro e w2 ⟨rfl, hw2⟩
                subst w2
                go_wp2
                try go_ret3
                exact Hr.out
              · have Hr := Lib.hid (Hb.out (go4_bad Hgo.out (.inl hr)))
                obtain rfl : n = (m : Int) := hN.out.1
                have q1 : ((m : Int) == -1) = false := by rw [beq_eq_false_iff_ne]; omega
                have q2 : ((m : Int) == 0) = false := by rw [beq_eq_false_iff_ne]; omega
                have q3 : (255 : Int) < 10 * (m : Int) + (wat s t2 : Int) := by omega
                clear hr g9 gc hN hm0 h5
                go_wp2_with fail
                refine (Hw.out t2).mono ?_
                rintro e w2 ⟨rfl, hw2⟩
                subst w2
                go_wp2_with fail
                refine (Hw.out t2).mono ?_
                rintro e w2 ⟨rfl, hw2⟩
                subst w2
                go_wp2
                try go_ret3
                exact Hr.out
              · have Hr := Lib.hid hr
                obtain rfl : n = (m : Int) := hN.out.1
                have q1 : ((m : Int) == -1) = false := by rw [beq_eq_false_iff_ne]; omega
                have q2 : ((m : Int) == 0) = false := by rw [beq_eq_false_iff_ne]; omega
                have q3 : ¬ (255 : Int) < 10 * (m : Int) + (wat s t2 : Int) := by omega
                clear hr g9 gc hN hm0
                go_wp2_with fail
                refine (Hw.out t2).mono ?_
                rintro e w2 ⟨rfl, hw2⟩
                subst w2
                go_wp2_with fail
                refine (Hw.out t2).mono ?_
                rintro e w2 ⟨rfl, hw2⟩
                subst w2
                go_wp2
                go_roundg (gk - 1)
                case measure => omega
                case rel => exact ⟨t2 + 1, _, some (10 * m + wat s t2), by omega, by rfl, rfl, rfl, by omega, by omega, by simp [encN], Hr.out⟩
            · have l9 : ¬ (wat s t2 : Int) ≤ 9 := by omega
              have hN2 := hN.out.2
              rw [gno] at hN2
              have hn := hN.out.1
              cases N with
              | none =>
                exfalso
                exact hne.out _ hN2.symm
              | some m =>
                have Hfin := Lib.hid (go4_some hlt Hgo.out hN2.symm)
                obtain rfl : n = (m : Int) := hn
                clear hN2 hN g9 gno
                have B3 := b3.out
                go_wp2_with fail
                refine (Hw.out t2).mono ?_
                rintro e w2 ⟨rfl, hw2⟩
                subst w2
                by_cases h2k : k < 2
                · have k2 : (k : Int) < 2 := by omega
                  have Hfin2 : Hid (rest4 (4 - (k + 1)) (256 * hi + m) lo (s.drop t2) = inner6 (s.drop k0)) := by
                    show _ = _
                    have := Hfin.out
                    rwa [if_pos h2k, if_pos h2k] at this
                  clear Hfin h2k
                  go_wp2
                  go_roundg (4 - (k + 1))
                  case measure => omega
                  case rel => exact ⟨t2, 256 * hi + m, lo, k + 1, by omega, by omega, rfl, by rfl, rfl, by rfl, rfl, Hfin2.out, by omega, by omega, ⟨fun _ => by omega, fun _ => by omega, fun _ => by omega, fun _ => by omega⟩⟩
                · have k2 : ¬ (k : Int) < 2 := by omega
                  have Hfin2 : Hid (rest4 (4 - (k + 1)) hi (256 * lo + m) (s.drop t2) = inner6 (s.drop k0)) := by
                    show _ = _
                    have := Hfin.out
                    rwa [if_neg h2k, if_neg h2k] at this
                  clear Hfin
                  go_wp2
                  go_roundg (4 - (k + 1))
                  case measure => omega
                  case rel => exact ⟨t2, hi, 256 * lo + m, k + 1, by omega, by omega, rfl, rfl, by rfl, by rfl, rfl, Hfin2.out, by omega, by omega, ⟨fun _ => by omega, fun _ => by omega, fun _ => by omega, fun _ => by omega⟩⟩
        · have j9 : (9 : Int) < (wat s t1 : Int) := by omega
          have Hbad := Lib.hid (Hb.out (go4_bad hgo.out (.inr ⟨_, hno none⟩)))
          clear h9 hno hgo
          go_wp2_with fail
          refine (Hw.out t1).mono ?_
          rintro e w2 ⟨rfl, hw2⟩
          subst w2
          go_wp2
          try go_ret3
          exact Hbad.out
    · obtain rfl : k = 4 := by omega
      by_cases he : t = s.length
      · have j1 : ((t : Int) == (s.length : Int)) = true := by rw [beq_iff_eq]; omega
        have Hend : Hid (POST (.returned (.tuple #[.int .i64 (hi : Int), .int .i64 (lo : Int), .bool true])) w) := by
          have := hrest.out
          rw [he, List.drop_length] at this
          exact Hok.out hi lo this.symm
        clear hrest he
        go_wp2
        try go_ret3
        exact Hend.out
      · have j1 : ((t : Int) == (s.length : Int)) = false := by rw [beq_eq_false_iff_ne]; omega
        have Hend : Hid (inner6 (s.drop k0) = none) := by
          show _ = _
          have hne : s.drop t ≠ [] := fun e => by
            have := congrArg List.length e
            rw [List.length_drop, List.length_nil] at this
            omega
          rw [← hrest.out, show 4 - 4 = 0 from rfl, rest4, if_neg hne]
        have Hx := Lib.hid (Hend0.out hi lo Hend.out)
        clear hrest he Hend
        go_wp2
        try go_ret3
        exact Hx.out
theorem four6_any (s : List UInt8) (hl : s.length ≤ 1000000) (k0 : Nat) (hk0 : k0 ≤ s.length) (w : World) :
    Calls Tryd.prog 65 #[.string ⟨s.toArray⟩, .int .i64 (k0 : Int)] w fun e w' => Four6 s k0 e ∧ w' = w :=
  four6_walk s hl k0 hk0 w _ (fun hi lo h => four6_bad s k0 w hi lo h) (fun hi lo h => four6_ok s k0 w hi lo h)
#print axioms four6_any
end Go.Proofs.YtmobeppmdakjmaaDoor
namespace Go.Proofs.YtmobeppmdakjmaaDoor

/-- From this place on, with these pieces, and this gap, it goes on. -/
def Says (s : List UInt8) (acc : List Nat) (sh : Option Nat) (t : Nat) : Prop := refParse6 s = finish6 (refRun acc sh (s.drop t))
theorem says_colons {s : List UInt8} (h0 : s[0]? = some 58) (h1 : s[1]? = some 58) : Says s [0] (some 1) 2 := by
  obtain ⟨c, t, rfl⟩ : ∃ c t, s = c :: t := by
    cases s with
    | nil => simp at h0
    | cons c t => exact ⟨c, t, rfl⟩
  obtain ⟨d, r, rfl⟩ : ∃ d r, t = d :: r := by
    cases t with
    | nil => simp at h1
    | cons d r => exact ⟨d, r, rfl⟩
  have e0 : c = 58 := by simpa using h0
  have e1 : d = 58 := by simpa using h1
  unfold Says
  rw [refParse6, if_pos e0, if_pos (by rw [e1]; rfl)]
  rfl
theorem says_colon {s : List UInt8} (h0 : s[0]? = some 58) (h1 : s[1]? ≠ some 58) : refParse6 s = none := by
  obtain ⟨c, t, rfl⟩ : ∃ c t, s = c :: t := by
    cases s with
    | nil => simp at h0
    | cons c t => exact ⟨c, t, rfl⟩
  have e0 : c = 58 := by simpa using h0
  rw [refParse6, if_pos e0, if_neg (by
    intro h
    apply h1
    cases t with
    | nil => cases h
    | cons d r => simpa using h)]
theorem says_start {s : List UInt8} (h0 : s[0]? ≠ some 58) : Says s [] none 0 := by
  unfold Says
  cases s with
  | nil => rfl
  | cons c t =>
    rw [refParse6, if_neg (by simpa using h0)]
    rfl
theorem says_end {s : List UInt8} {acc : List Nat} {sh : Option Nat} {t : Nat} (h : Says s acc sh t) (ht : s.length ≤ t) : refParse6 s = finish6 (some (acc, sh)) := by
  unfold Says at h
  rw [h, List.drop_eq_nil_of_le ht, refRun_nil]
theorem says_full {s : List UInt8} {acc : List Nat} {sh : Option Nat} {t : Nat} (h : Says s acc sh t) (ht : t < s.length) (h8 : acc.length = 8) : refParse6 s = none := by
  unfold Says at h
  rw [h, List.drop_eq_getElem_cons ht, refRun_cons, if_pos h8]
  rfl
theorem says_gap {s : List UInt8} {acc : List Nat} {t : Nat} (h : Says s acc none t) (hc : s[t]? = some 58) (h8 : acc.length ≠ 8) : Says s (acc ++ [0]) (some (acc.length + 1)) (t + 1) := by
  unfold Says at h ⊢
  rw [h, drop_some hc, refRun_cons, if_neg h8, if_pos rfl, if_neg (by simp)]
theorem says_gap2 {s : List UInt8} {acc : List Nat} {i t : Nat} (h : Says s acc (some i) t) (hc : s[t]? = some 58) (h8 : acc.length ≠ 8) : refParse6 s = none := by
  unfold Says at h
  rw [h, drop_some hc, refRun_cons, if_neg h8, if_pos rfl]
  rfl
/-- The digits so far: n of them, up to u; v is what they are worth. -/
def Dig (s : List UInt8) (t u n v : Nat) : Prop := u = t + n ∧ n ≤ 4 ∧ v < 16 ^ n ∧ u ≤ s.length ∧ numB 16 v (take16 (4 - n) (s.drop u)).1 = numB 16 0 (take16 4 (s.drop t)).1 ∧
  (take16 (4 - n) (s.drop u)).2 = (take16 4 (s.drop t)).2 ∧ n + (take16 (4 - n) (s.drop u)).1.length = (take16 4 (s.drop t)).1.length
theorem dig_start {s : List UInt8} {t : Nat} (ht : t ≤ s.length) : Dig s t t 0 0 := ⟨rfl, by decide, by decide, ht, rfl, rfl, Nat.zero_add _⟩
theorem wat_lt {s : List UInt8} {u : Nat} (h : wat s u < 16) : ∃ c, s[u]? = some c ∧ wat s u = worth c := by
  unfold wat at h ⊢
  cases hc : s[u]? with
  | none => rw [hc] at h; simp at h
  | some c => exact ⟨c, rfl, rfl⟩
theorem dig_step {s : List UInt8} {t u n v : Nat} (h : Dig s t u n v) (hn : n < 4) (hw : wat s u < 16) : Dig s t (u + 1) (n + 1) (16 * v + wat s u) ∧ u < s.length := by
  obtain ⟨h1, h2, h3, h4, h5, h6, h7⟩ := h
  obtain ⟨c, hc, hwc⟩ := wat_lt hw
  have hul : u < s.length := (List.getElem?_eq_some_iff.1 hc).1
  have e : take16 (4 - n) (s.drop u) = (c :: (take16 (4 - (n + 1)) (s.drop (u + 1))).1, (take16 (4 - (n + 1)) (s.drop (u + 1))).2) := by
    rw [drop_some hc, show 4 - n = (4 - (n + 1)) + 1 by omega, take16, if_pos (by omega)]
  rw [e] at h5 h6 h7
  refine ⟨⟨by omega, by omega, ?_, by omega, ?_, h6, ?_⟩, hul⟩
  · rw [Nat.pow_succ]; omega
  · rw [← h5, numB, hwc, Nat.mul_comm]
  · simp only [List.length_cons] at h7; omega
theorem dig_stop {s : List UInt8} {t u n v : Nat} (h : Dig s t u n v) (hs : n = 4 ∨ 16 ≤ wat s u) : numB 16 0 (take16 4 (s.drop t)).1 = v ∧ (take16 4 (s.drop t)).2 = s.drop u ∧ (take16 4 (s.drop t)).1.length = n := by
  obtain ⟨h1, h2, h3, h4, h5, h6, h7⟩ := h
  have e : take16 (4 - n) (s.drop u) = ([], s.drop u) := by
    rcases hs with rfl | hs
    · rfl
    · by_cases h4 : n = 4
      · subst h4; rfl
      · rw [show 4 - n = (4 - (n + 1)) + 1 by omega]
        cases hd : s.drop u with
        | nil => rfl
        | cons c r =>
          have hcu : s[u]? = some c := by
            have := congrArg (fun l => l[0]?) hd
            simpa using this
          rw [wat_some hcu] at hs
          rw [take16, if_neg (by omega)]
  rw [e] at h5 h6 h7
  exact ⟨h5.symm, h6.symm, by simpa using h7.symm⟩
theorem dig_lt {s : List UInt8} {t u n v : Nat} (h : Dig s t u n v) : v < 65536 := by
  obtain ⟨h1, h2, h3, _⟩ := h
  have : 16 ^ n ≤ 16 ^ 4 := Nat.pow_le_pow_right (by omega) h2
  omega
/-- A piece's digits are read; what follows. -/
theorem says_piece {s : List UInt8} {acc : List Nat} {sh : Option Nat} {t u n v : Nat} (h : Says s acc sh t) (ht : t < s.length) (h8 : acc.length ≠ 8) (hc : s[t]? ≠ some 58) (hd : Dig s t u n v) (hs : n = 4 ∨ 16 ≤ wat s u) :
    refParse6 s = finish6 (match s.drop u with
      | [] => some (acc ++ [v], sh)
      | e :: r => if e = 46 then (if n = 0 ∨ 6 < acc.length then none else match inner6 (s.drop t) with
          | some q => some (acc ++ q, sh)
          | none => none)
        else if e = 58 then (if r = [] then none else refRun (acc ++ [v]) sh r)
        else none) := by
  obtain ⟨c, hcs⟩ : ∃ c, s[t]? = some c := ⟨_, List.getElem?_eq_getElem ht⟩
  have hne : c ≠ 58 := fun e => hc (by rw [hcs, e])
  obtain ⟨e1, e2, e3⟩ := dig_stop hd hs
  unfold Says at h
  rw [h, drop_some hcs, refRun_cons, if_neg h8, if_neg hne, ← drop_some hcs, e1, e2]
  congr 1
  cases s.drop u with
  | nil => rfl
  | cons e r =>
    simp only
    have hn : ((take16 4 (s.drop t)).1 = [] ∨ 6 < acc.length) ↔ (n = 0 ∨ 6 < acc.length) := by
      rw [← e3, List.length_eq_zero_iff]
    by_cases hb : n = 0 ∨ 6 < acc.length
    · simp only [if_pos hb, if_pos (hn.2 hb)]
    · simp only [if_neg hb, if_neg (fun x => hb (hn.1 x))]
      cases inner6 (s.drop t) <;> rfl
theorem says_dot_bad {s : List UInt8} {acc : List Nat} {sh : Option Nat} {t u n v : Nat} (h : Says s acc sh t) (ht : t < s.length) (h8 : acc.length ≠ 8) (hc : s[t]? ≠ some 58) (hd : Dig s t u n v) (hs : n = 4 ∨ 16 ≤ wat s u)
    (hdot : s[u]? = some 46) (hb : n = 0 ∨ 6 < acc.length) : refParse6 s = none := by
  rw [says_piece h ht h8 hc hd hs, drop_some hdot]
  simp only [if_true, if_pos hb]
  rfl
theorem says_dot_none {s : List UInt8} {acc : List Nat} {sh : Option Nat} {t u n v : Nat} (h : Says s acc sh t) (ht : t < s.length) (h8 : acc.length ≠ 8) (hc : s[t]? ≠ some 58) (hd : Dig s t u n v) (hs : n = 4 ∨ 16 ≤ wat s u)
    (hdot : s[u]? = some 46) (hi : inner6 (s.drop t) = none) : refParse6 s = none := by
  rw [says_piece h ht h8 hc hd hs, drop_some hdot]
  simp only [if_true, hi, ite_self]
  rfl
theorem says_dot {s : List UInt8} {acc : List Nat} {sh : Option Nat} {t u n v : Nat} (h : Says s acc sh t) (ht : t < s.length) (h8 : acc.length ≠ 8) (hc : s[t]? ≠ some 58) (hd : Dig s t u n v) (hs : n = 4 ∨ 16 ≤ wat s u)
    (hdot : s[u]? = some 46) (hb : ¬ (n = 0 ∨ 6 < acc.length)) {q : List Nat} (hi : inner6 (s.drop t) = some q) : refParse6 s = finish6 (some (acc ++ q, sh)) := by
  rw [says_piece h ht h8 hc hd hs, drop_some hdot]
  simp only [if_true, if_neg hb, hi]
theorem says_next {s : List UInt8} {acc : List Nat} {sh : Option Nat} {t u n v : Nat} (h : Says s acc sh t) (ht : t < s.length) (h8 : acc.length ≠ 8) (hc : s[t]? ≠ some 58) (hd : Dig s t u n v) (hs : n = 4 ∨ 16 ≤ wat s u)
    (hcol : s[u]? = some 58) : (u + 1 = s.length ∧ refParse6 s = none) ∨ (u + 1 < s.length ∧ Says s (acc ++ [v]) sh (u + 1)) := by
  have hul : u < s.length := (List.getElem?_eq_some_iff.1 hcol).1
  have := says_piece h ht h8 hc hd hs
  rw [drop_some hcol] at this
  simp only [if_neg (show ¬ (58 : UInt8) = 46 by decide), if_true] at this
  by_cases hlast : u + 1 = s.length
  · rw [if_pos (List.drop_eq_nil_of_le (by omega))] at this
    exact .inl ⟨hlast, this⟩
  · rw [if_neg (fun e => by
      have := congrArg List.length e
      rw [List.length_drop, List.length_nil] at this
      omega)] at this
    exact .inr ⟨by omega, this⟩
theorem says_last {s : List UInt8} {acc : List Nat} {sh : Option Nat} {t u n v : Nat} (h : Says s acc sh t) (ht : t < s.length) (h8 : acc.length ≠ 8) (hc : s[t]? ≠ some 58) (hd : Dig s t u n v) (hs : n = 4 ∨ 16 ≤ wat s u)
    (hl : u = s.length) : Says s (acc ++ [v]) sh u := by
  have := says_piece h ht h8 hc hd hs
  have e : s.drop u = [] := List.drop_eq_nil_of_le (by omega)
  rw [e] at this
  unfold Says
  rw [this, e, refRun_nil]
theorem says_other {s : List UInt8} {acc : List Nat} {sh : Option Nat} {t u n v : Nat} (h : Says s acc sh t) (ht : t < s.length) (h8 : acc.length ≠ 8) (hc : s[t]? ≠ some 58) (hd : Dig s t u n v) (hs : n = 4 ∨ 16 ≤ wat s u)
    (hl : u < s.length) (h1 : s[u]? ≠ some 46) (h2 : s[u]? ≠ some 58) : refParse6 s = none := by
  obtain ⟨e, he⟩ : ∃ e, s[u]? = some e := ⟨_, List.getElem?_eq_getElem hl⟩
  have := says_piece h ht h8 hc hd hs
  rw [drop_some he] at this
  simp only [if_neg (show ¬ e = 46 from fun x => h1 (by rw [he, x])), if_neg (show ¬ e = 58 from fun x => h2 (by rw [he, x]))] at this
  rw [this]
  rfl
/-- The pieces, and noughts up to eight. -/
def fill8 (acc : List Nat) : List Nat := acc ++ List.replicate (8 - acc.length) 0
theorem fill8_len {acc : List Nat} (h : acc.length ≤ 8) : (fill8 acc).length = 8 := by unfold fill8; rw [List.length_append, List.length_replicate]; omega
theorem fill8_nil : fill8 [] = zeros8 := rfl
theorem set_mid {α : Type} (A : List α) (x y : α) (B : List α) : (A ++ x :: B).set A.length y = A ++ y :: B := by simp
theorem fill8_put {acc : List Nat} (h : acc.length < 8) (v : Nat) : (fill8 acc).set acc.length v = fill8 (acc ++ [v]) := by
  unfold fill8
  rw [show 8 - acc.length = (8 - (acc.length + 1)) + 1 by omega, List.replicate_succ, set_mid, List.length_append, List.append_assoc]
  rfl
theorem fill8_zero {acc : List Nat} (h : acc.length < 8) : fill8 (acc ++ [0]) = fill8 acc := by
  unfold fill8
  rw [show 8 - acc.length = (8 - (acc.length + 1)) + 1 by omega, List.replicate_succ, List.length_append, List.append_assoc]
  rfl
/-- The pieces from j on stand at the end. -/
def mid8 (acc : List Nat) (j : Nat) : List Nat := acc.take j ++ List.replicate (8 - acc.length) 0 ++ acc.drop j
theorem mid8_len {acc : List Nat} (h : acc.length ≤ 8) (j : Nat) : (mid8 acc j).length = 8 := by
  unfold mid8
  rw [List.length_append, List.length_append, List.length_replicate, List.length_take, List.length_drop]
  omega
theorem mid8_all (acc : List Nat) : mid8 acc acc.length = fill8 acc := by unfold mid8 fill8; rw [List.take_length, List.drop_length, List.append_nil]
theorem drop_some' {s : List Nat} {t : Nat} {c : Nat} (h : s[t]? = some c) : s.drop t = c :: s.drop (t + 1) := by
  obtain ⟨h1, h2⟩ := List.getElem?_eq_some_iff.1 h
  rw [List.drop_eq_getElem_cons h1, h2]
theorem mid8_swap {acc : List Nat} (h : acc.length ≤ 8) {j p : Nat} (h1 : 1 ≤ j) (h2 : j ≤ acc.length) (hp : p + 1 = 8 - acc.length + j) :
    ∃ a b, (mid8 acc j)[p]? = some a ∧ (mid8 acc j)[j - 1]? = some b ∧ ((mid8 acc j).set p b).set (j - 1) a = mid8 acc (j - 1) := by
  obtain ⟨i, rfl⟩ : ∃ i, j = i + 1 := ⟨j - 1, by omega⟩
  obtain ⟨b, hb⟩ : ∃ b, acc[i]? = some b := ⟨_, List.getElem?_eq_getElem (by omega)⟩
  have htk : acc.take (i + 1) = acc.take i ++ [b] := by rw [List.take_add_one, hb]; rfl
  have hdr : acc.drop i = b :: acc.drop (i + 1) := drop_some' hb
  have hA : (acc.take i).length = i := by rw [List.length_take]; omega
  rw [Nat.add_sub_cancel]
  by_cases h8 : acc.length = 8
  · have e : ∀ k, mid8 acc k = acc := fun k => by
      unfold mid8
      rw [h8, List.replicate_zero, List.append_nil, List.take_append_drop]
    have es : acc.set i b = acc := by
      apply List.ext_getElem?
      intro k
      rw [List.getElem?_set]
      by_cases hk : i = k
      · subst hk; rw [if_pos rfl, if_pos (by omega), hb]
      · rw [if_neg hk]
    obtain rfl : p = i := by omega
    rw [e, e]
    exact ⟨b, b, hb, hb, by rw [es, es]⟩
  · obtain ⟨m, hm⟩ : ∃ m, 8 - acc.length = m + 1 := ⟨7 - acc.length, by omega⟩
    have hp2 : p = (acc.take i ++ b :: List.replicate m 0).length := by
      rw [List.length_append, List.length_cons, List.length_replicate, hA]; omega
    have e1 : mid8 acc (i + 1) = (acc.take i ++ b :: List.replicate m 0) ++ 0 :: acc.drop (i + 1) := by
      unfold mid8
      rw [htk, hm, List.replicate_succ']
      simp
    have e2 : mid8 acc i = acc.take i ++ 0 :: (List.replicate m 0 ++ b :: acc.drop (i + 1)) := by
      unfold mid8
      rw [hdr, hm, List.replicate_succ]
      simp
    refine ⟨0, b, ?_, ?_, ?_⟩
    · rw [e1, hp2, List.getElem?_append_right (Nat.le_refl _), Nat.sub_self]; rfl
    · rw [e1, List.append_assoc, List.getElem?_append_right (by omega), hA, Nat.sub_self]; rfl
    · rw [e1, hp2, set_mid, e2, List.append_assoc]
      have := set_mid (acc.take i) b 0 (List.replicate m 0 ++ b :: acc.drop (i + 1))
      rw [hA] at this
      exact this
theorem mid8_swap2 {acc : List Nat} {j p a b : Nat} (ha : (mid8 acc j)[p]? = some a) (hb : (mid8 acc j)[j - 1]? = some b) : ((mid8 acc j).set (j - 1) a).set p b = ((mid8 acc j).set p b).set (j - 1) a := by
  by_cases h : p = j - 1
  · subst h
    rw [ha] at hb
    injection hb with hb
    rw [hb]
  · exact List.set_comm _ _ (Ne.symm h)
/-- What is laid at the end. -/
theorem finish_gap {acc : List Nat} {i : Nat} : finish6 (some (acc, some i)) = some (mid8 acc i) := rfl
theorem finish_all {acc : List Nat} (h : acc.length = 8) : finish6 (some (acc, none)) = some (fill8 acc) := by
  unfold finish6 fill8
  simp only [if_pos h]
  rw [h, Nat.sub_self, List.replicate_zero, List.append_nil]
theorem finish_short {acc : List Nat} (h : acc.length ≠ 8) : finish6 (some (acc, none)) = none := by
  unfold finish6
  simp only [if_neg h]
#print axioms mid8_swap
#print axioms says_piece
#print axioms fill8_put
end Go.Proofs.YtmobeppmdakjmaaDoor
namespace Go.Proofs.YtmobeppmdakjmaaDoor
open Go.RowKit

theorem u16V_set (x : List Nat) (k n : Nat) : (u16V x).toArray.setIfInBounds k (.int .u16 (n : Int)) = (u16V (x.set k n)).toArray := by
  unfold u16V
  rw [List.map_set]
  simp
theorem Addr8.set {N : Nat} {x : List Nat} {w : World} (h : Addr8 N x w) (k n : Nat) : Addr8 N (x.set k n) (w.setCell ⟨N, k, none⟩ (.int .u16 (n : Int))) := by
  have := heap_setCell_same w N k _ 44 (.int .u16 (n : Int)) h
  rw [u16V_set] at this
  exact this
theorem Addr8.other {N M : Nat} {x : List Nat} {w : World} (h : Addr8 N x w) (hne : N ≠ M) (k : Nat) (v : Value) : Addr8 N x (w.setCell ⟨M, k, none⟩ v) := by
  unfold Addr8
  rw [heap_setCell_other w ⟨M, k, none⟩ N v hne]
  exact h
/-- The three blocks. -/
def Three (w : World) (x : List Nat) (wr : World) : Prop := Below w.heap.size w wr ∧ Addr8 w.heap.size zeros8 wr ∧ Addr8 (w.heap.size + 1) zeros8 wr ∧ Addr8 (w.heap.size + 1 + 1) x wr
theorem three_start (w : World) : Three w zeros8 (((w.alloc (.cells (u16V zeros8).toArray 44)).alloc (.cells (u16V zeros8).toArray 44)).alloc (.cells (u16V zeros8).toArray 44)) := by
  have a0 : Addr8 w.heap.size zeros8 (w.alloc (.cells (u16V zeros8).toArray 44)) := World.alloc_heap_new w _
  have a1 : Addr8 (w.heap.size + 1) zeros8 ((w.alloc (.cells (u16V zeros8).toArray 44)).alloc (.cells (u16V zeros8).toArray 44)) := by
    have := World.alloc_heap_new (w.alloc (.cells (u16V zeros8).toArray 44)) (.cells (u16V zeros8).toArray 44)
    rw [World.size_alloc] at this
    exact this
  have a2 : Addr8 (w.heap.size + 1 + 1) zeros8 (((w.alloc (.cells (u16V zeros8).toArray 44)).alloc (.cells (u16V zeros8).toArray 44)).alloc (.cells (u16V zeros8).toArray 44)) := by
    have := World.alloc_heap_new ((w.alloc (.cells (u16V zeros8).toArray 44)).alloc (.cells (u16V zeros8).toArray 44)) (.cells (u16V zeros8).toArray 44)
    rw [World.size_alloc, World.size_alloc] at this
    exact this
  exact ⟨(((Below.refl _ w).alloc (Nat.le_refl _) _).alloc (by simp) _).alloc (by simp; omega) _, (a0.alloc _).alloc _, a1.alloc _, a2⟩
theorem Three.put {w wr : World} {x : List Nat} (h : Three w x wr) (k n : Nat) : Three w (x.set k n) (wr.setCell ⟨w.heap.size + 1 + 1, k, none⟩ (.int .u16 (n : Int))) :=
  ⟨below_set1 h.1 (by omega) k _, h.2.1.other (by omega) k _, h.2.2.1.other (by omega) k _, h.2.2.2.set k n⟩
theorem Addr8.frozen {N : Nat} {x : List Nat} {w : World} (h : Addr8 N x w) (j : Nat) : w.frozen? ⟨N, j, none⟩ = false := by
  unfold World.frozen?; rw [show w.heap[N]? = _ from h]; simp
theorem Three.drew {w wr : World} {x : List Nat} (h : Three w x wr) : Three w x wr.drew := ⟨h.1.drew, h.2.1.drew, h.2.2.1.drew, h.2.2.2.drew⟩
theorem Addr8.zeros {N : Nat} {w : World} (h : Addr8 N zeros8 w) : w.cell? ⟨N, 0, none⟩ = some (.int .u16 0) ∧ w.cell? ⟨N, 1, none⟩ = some (.int .u16 0) ∧ w.cell? ⟨N, 2, none⟩ = some (.int .u16 0) ∧ w.cell? ⟨N, 3, none⟩ = some (.int .u16 0) ∧
    w.cell? ⟨N, 4, none⟩ = some (.int .u16 0) ∧ w.cell? ⟨N, 5, none⟩ = some (.int .u16 0) ∧ w.cell? ⟨N, 6, none⟩ = some (.int .u16 0) ∧ w.cell? ⟨N, 7, none⟩ = some (.int .u16 0) := cells8 h
/-- What is laid in the result's block. -/
theorem Three.res {w wr : World} {x : List Nat} (h : Three w x wr) (v0 v1 v2 v3 v4 v5 v6 v7 : Value) :
    ((((((((wr.setCell ⟨w.heap.size, 0, none⟩ v0).setCell ⟨w.heap.size, 1, none⟩ v1).setCell ⟨w.heap.size, 2, none⟩ v2).setCell ⟨w.heap.size, 3, none⟩ v3).setCell ⟨w.heap.size, 4, none⟩ v4).setCell ⟨w.heap.size, 5, none⟩ v5).setCell ⟨w.heap.size, 6, none⟩ v6).setCell ⟨w.heap.size, 7, none⟩ v7).heap[w.heap.size]? = some (.cells #[v0, v1, v2, v3, v4, v5, v6, v7] 44 (0, 0)) :=
  res_set8 (show Res w.heap.size wr from h.2.1) v0 v1 v2 v3 v4 v5 v6 v7
theorem dig4_lt {p : List UInt8} {n : Nat} (h : dig4 p = some n) : n < 256 := by
  unfold dig4 at h
  split at h
  · rename_i hc
    injection h with h
    rw [← h]
    exact hc.2.2.2.2
  · cases h
theorem inner6_word {s : List UInt8} {q : List Nat} (h : inner6 s = some q) : q.length = 2 ∧ ∀ n ∈ q, n < 65536 := by
  refine ⟨inner_two h, ?_⟩
  unfold inner6 at h
  split at h
  · split at h
    · rename_i ha hb hc hd
      injection h with h
      have := dig4_lt ha
      have := dig4_lt hb
      have := dig4_lt hc
      have := dig4_lt hd
      subst h
      intro n hn
      simp only [List.mem_cons, List.not_mem_nil, or_false] at hn
      omega
    · cases h
  · cases h
theorem wrap16 {v : Nat} (h : v < 65536) : IntKind.u16.wrap (v : Int) = (v : Int) := by rw [IntKind.wrap_u16]; omega
theorem Addr8.some8 {N : Nat} {x : List Nat} {w : World} (h : Addr8 N x w) (h8 : x.length = 8) {k : Nat} (hk : k < 8) : ∃ c : Nat, w.cell? ⟨N, k, none⟩ = some (.int .u16 (c : Int)) :=
  ⟨_, h.cell (List.getElem?_eq_getElem (by omega))⟩
#print axioms inner6_word
#print axioms Three.res
#print axioms three_start
#print axioms Three.put
end Go.Proofs.YtmobeppmdakjmaaDoor
