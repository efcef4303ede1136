/- Walks: two rows of texts are the same (Texts); is a path not too long (Few); how many dots a text is (dots). -/
import Derived.Test.YtpahiipfmccbiaaDoorChecked
import Derived.Test.YtpahiipfmccbiaaDoorM0
import Derived.Test.YtpahiipfmccbiaaDoorP0
import Derived.WalkKit
import Derived.WalkSpells
import Derived.WalkLawsBesides
import Derived.Deep.QuietTactic
import Derived.BigQuiet
namespace Go.Proofs.YtpahiipfmccbiaaDoor
open Go.RowKit

theorem take_eq_succ {α : Type} {xs ys : List α} {k : Nat} (h : xs.take k = ys.take k) (h1 : k < xs.length) (h2 : k < ys.length) (e : xs[k] = ys[k]) : xs.take (k + 1) = ys.take (k + 1) := by
  rw [List.take_succ_eq_append_getElem h1, List.take_succ_eq_append_getElem h2, h, e]

set_option maxHeartbeats 400000 in
theorem texts_any (A A' : Option Addr) (c c' : Nat) (xs ys : List (List UInt8)) (w : World) (B B' : Nat) (hx : Rd w B A (strV xs)) (hy : Rd w B' A' (strV ys)) (hl : xs.length ≤ 4294967296) (hl' : ys.length ≤ 4294967296) :
    Calls Tryd.prog 13 #[.slice A xs.length c, .slice A' ys.length c'] w fun e w' => e = .returned (.bool (xs == ys)) ∧ ∃ n, w' = w.drewN n := by
  by_cases hlen : xs.length = ys.length
  · have hlen2 : ((xs.length : Int) != (ys.length : Int)) = false := by simp [hlen]
    have HL := Lib.hid hlen
    clear hlen
    go_enter Tryd.func13, Tryd.ntmps13
    go_wp2
    go_loopw [13] (fun i wr => ∃ k : Nat, k ≤ xs.length ∧ i = .int .i64 k ∧ (∃ n, wr = w.drewN n) ∧ Hid (xs.take k = ys.take k)) (fun i _ => xs.length - (intOf i).toNat)
    case atStart => exact ⟨0, Nat.zero_le _, rfl, ⟨0, rfl⟩, rfl⟩
    case round =>
      obtain ⟨k, hk, rfl, ⟨n, rfl⟩, heq⟩ := hrel
      by_cases hlt : k < xs.length
      · have hlt' : k < ys.length := by have := HL.out; omega
        have hi1 : (k : Int) < (xs.length : Int) := by omega
        have hi2 : (k : Int) < (ys.length : Int) := by omega
        obtain ⟨b, off, rfl, _, hc⟩ := hx k _ (strV_get (List.getElem?_eq_getElem hlt))
        obtain ⟨b', off', rfl, _, hc'⟩ := hy k _ (strV_get (List.getElem?_eq_getElem hlt'))
        have Hx := Lib.hid hx
        have Hy := Lib.hid hy
        clear hx hy
        by_cases hs : (xs[k] == ys[k]) = true
        · have HS := Lib.hid (eq_of_beq hs)
          go_wp2
          go_quiet (fail)
          go_wp2
          exact ⟨⟨k + 1, by omega, by go_num, ⟨_, rfl⟩, take_eq_succ heq.out hlt hlt' HS.out⟩, by simp [intOf]; omega⟩
        · have hs2 : (xs[k] == ys[k]) = false := by simpa using hs
          have hne : Hid ((xs == ys) = false) := by
            refine beq_eq_false_iff_ne.2 (fun e => ?_)
            subst e
            simp at hs2
          clear hs
          go_wp2
          go_quiet (fail)
          go_wp2
          go_ret
          exact ⟨ret_bool hne.out.symm, ⟨n + nq, World.drewN_drewN _ _ _⟩⟩
      · go_wp2
        go_ret
        refine ⟨ret_bool ?_, ⟨_, rfl⟩⟩
        have h1 := heq.out
        have h2 := HL.out
        rw [List.take_of_length_le (by omega), List.take_of_length_le (by omega)] at h1
        subst h1
        simp
  · have hlen2 : ((xs.length : Int) != (ys.length : Int)) = true := by simp; omega
    have hne : Hid ((xs == ys) = false) := beq_eq_false_iff_ne.2 (fun e => hlen (by rw [e]))
    clear hlen
    go_enter Tryd.func13, Tryd.ntmps13
    go_wp2
    go_ret
    exact ⟨ret_bool hne.out.symm, ⟨0, rfl⟩⟩

/-- A path that is not too long. -/
def fewB (l : List (List UInt8)) : Bool := decide (l.length ≤ 60) && l.all fun s => decide (s.length ≤ 100)

theorem size_arr (l : List UInt8) : (⟨l.toArray⟩ : ByteArray).size = l.length := by simp [ByteArray.size]

set_option maxHeartbeats 400000 in
theorem few_any (A : Option Addr) (c : Nat) (xs : List (List UInt8)) (w : World) (B : Nat) (hx : Rd w B A (strV xs)) (hl : xs.length ≤ 9223372036854775807) :
    Calls Tryd.prog 14 #[.slice A xs.length c] w fun e w' => e = .returned (.bool (fewB xs)) ∧ w = w' := by
  go_enter Tryd.func14, Tryd.ntmps14
  go_wp2
  go_loop [7] (fun i => ∃ k : Nat, k ≤ xs.length ∧ i = .int .i64 k ∧ Hid ((xs.take k).all (fun s => decide (s.length ≤ 100)) = true)) (fun i => xs.length - (intOf i).toNat)
  case atStart => exact ⟨0, Nat.zero_le _, rfl, by simp [Hid]⟩
  case round =>
    obtain ⟨k, hk, rfl, heq⟩ := hrel
    by_cases hlt : k < xs.length
    · obtain ⟨b, off, rfl, _, hc⟩ := hx k _ (strV_get (List.getElem?_eq_getElem hlt))
      have hsz := size_arr xs[k]
      have Hx := Lib.hid hx
      clear hx
      by_cases hs : xs[k].length ≤ 100
      · go_wp2
        refine ⟨⟨k + 1, by omega, by go_num, ?_⟩, by simp [intOf]; omega⟩
        show _ = true
        have h1 := heq.out
        rw [List.take_succ_eq_append_getElem hlt, List.all_append, h1]
        simpa using hs
      · have hf : Hid (fewB xs = false) := by
          show _ = false
          simp only [fewB, Bool.and_eq_false_iff]
          right
          rw [List.all_eq_false]
          exact ⟨xs[k], List.getElem_mem hlt, by simpa using hs⟩
        go_wp2
        go_ret
        exact ⟨ret_bool hf.out.symm, rfl⟩
    · go_wp2
      go_ret
      refine ⟨ret_bool ?_, rfl⟩
      have h1 := heq.out
      rw [List.take_of_length_le (by omega)] at h1
      simp only [fewB, h1, Bool.and_true]
      simp; omega

/-- How many dots a text is; none: it is another thing. -/
def dotsN : List UInt8 → Option Nat
  | [] => some 0
  | a :: t => if a == 46 then (dotsN t).map (· + 1) else
    match t with
    | b :: c :: t => if a == 37 && b == 50 && (c == 101 || c == 69) then (dotsN t).map (· + 1) else none
    | _ => none
def dotsZ (l : List UInt8) : Int := match dotsN l with
  | some n => n
  | none => -1

theorem drop_bytes (s : ByteArray) (k : Nat) (h : k < s.size) : s.data.toList.drop k = s[k] :: s.data.toList.drop (k + 1) := by
  rw [List.drop_eq_getElem_cons (by simpa using h)]; rfl
theorem byte_eq {c d : UInt8} (h : c = d) : ((c.toNat : Int) == (d.toNat : Int)) = true := by rw [h]; simp
theorem byte_ne {c d : UInt8} (h : c ≠ d) : ((c.toNat : Int) == (d.toNat : Int)) = false := by
  rw [beq_eq_false_iff_ne]
  intro e
  exact h (UInt8.toNat_inj.1 (by omega))

theorem dotsN_46 (t : List UInt8) : dotsN (46 :: t) = (dotsN t).map (· + 1) := by
  conv => lhs; unfold dotsN
  exact if_pos (by decide)
theorem dotsN_code (c : UInt8) (t : List UInt8) (hc : c = 101 ∨ c = 69) : dotsN (37 :: 50 :: c :: t) = (dotsN t).map (· + 1) := by
  conv => lhs; unfold dotsN
  rw [if_neg (by decide)]
  exact if_pos (by rcases hc with rfl | rfl <;> decide)
theorem map_add_one (o : Option Nat) (m : Nat) : (o.map (· + 1)).map (m + ·) = o.map (m + 1 + ·) := by
  cases o with
  | none => rfl
  | some n => simp only [Option.map_some, Option.some.injEq]; omega
theorem dots_hit1 (l t : List UInt8) (m : Nat) (o : Option Nat) (h : o = (dotsN l).map (m + ·)) (e : l = 46 :: t) : o = (dotsN t).map (m + 1 + ·) := by
  rw [h, e, dotsN_46, map_add_one]
theorem dots_hit3 (l t : List UInt8) (c : UInt8) (m : Nat) (o : Option Nat) (h : o = (dotsN l).map (m + ·)) (e : l = 37 :: 50 :: c :: t) (hc : c = 101 ∨ c = 69) : o = (dotsN t).map (m + 1 + ·) := by
  rw [h, e, dotsN_code c t hc, map_add_one]
theorem dots_miss {l l' : List UInt8} {m : Nat} (h : dotsN l' = (dotsN l).map (m + ·)) (e : dotsN l = none) : dotsZ l' = -1 := by
  rw [dotsZ, h, e]; rfl
theorem dotsN_short (a : UInt8) (t : List UInt8) (ha : a ≠ 46) (ht : t.length < 2) : dotsN (a :: t) = none := by
  unfold dotsN
  rw [if_neg (by simpa using ha)]
  match t, ht with
  | [], _ => rfl
  | [b], _ => rfl
  | _ :: _ :: _, h => simp at h; omega
theorem dotsN_three (a b c : UInt8) (t : List UInt8) (ha : a ≠ 46) (h : a ≠ 37 ∨ b ≠ 50 ∨ (c ≠ 101 ∧ c ≠ 69)) : dotsN (a :: b :: c :: t) = none := by
  unfold dotsN
  rw [if_neg (by simpa using ha)]
  dsimp only
  rw [if_neg]
  simp only [Bool.and_eq_true, Bool.or_eq_true, beq_iff_eq]
  rintro ⟨⟨rfl, rfl⟩, h2⟩
  rcases h with h | h | ⟨h, h'⟩
  · exact h rfl
  · exact h rfl
  · rcases h2 with h2 | h2
    · exact h h2
    · exact h' h2

set_option maxHeartbeats 800000 in
theorem dots_any (s : ByteArray) (w : World) (hs : s.size ≤ 9223372036854775800) :
    Calls Tryd.prog 41 #[.string s] w fun e w' => e = .returned (.int .i64 (dotsZ s.data.toList)) ∧ w = w' := by
  go_enter Tryd.func41, Tryd.ntmps41
  go_wp2
  go_loop [3, 4] (fun n i => ∃ k m : Nat, k ≤ s.size ∧ m ≤ k ∧ i = .int .i64 k ∧ n = .int .i64 m ∧ Hid (dotsN s.data.toList = (dotsN (s.data.toList.drop k)).map (m + ·))) (fun _ i => s.size - (intOf i).toNat)
  case atStart => exact ⟨0, 0, Nat.zero_le _, Nat.zero_le _, rfl, rfl, by show _ = _; simp⟩
  case round =>
    obtain ⟨k, m, hk, hm, rfl, rfl, heq⟩ := hrel
    by_cases hlt : k < s.size
    · have D0 := Lib.hid (drop_bytes s k hlt)
      by_cases h0 : s[k] = 46
      · have f0 : ((s[k].toNat : Int) == 46) = true := byte_eq h0
        have H := Lib.hid (dots_hit1 _ _ _ _ heq.out (by rw [D0.out, h0]))
        clear h0
        go_wp2
        exact ⟨⟨k + 1, m + 1, by omega, by omega, by go_num, by go_num, H.out⟩, by simp [intOf]; omega⟩
      · have f0 : ((s[k].toNat : Int) == 46) = false := byte_ne h0
        by_cases hlt2 : k + 2 < s.size
        · have D1 := Lib.hid (drop_bytes s (k + 1) (by omega))
          have D2 := Lib.hid (drop_bytes s (k + 2) (by omega))
          by_cases h1 : s[k] = 37 ∧ s[k + 1] = 50 ∧ (s[k + 2] = 101 ∨ s[k + 2] = 69)
          · obtain ⟨h1, h2, h3⟩ := h1
            have f1 : ((s[k].toNat : Int) == 37) = true := byte_eq h1
            have f2 : ((s[k + 1].toNat : Int) == 50) = true := byte_eq h2
            have H := Lib.hid (dots_hit3 _ _ _ _ _ heq.out (by rw [D0.out, D1.out, D2.out, h1, h2]) h3)
            clear h0 h1 h2
            by_cases h4 : s[k + 2] = 101
            · have f3 : ((s[k + 2].toNat : Int) == 101) = true := byte_eq h4
              clear h3 h4
              go_wp2
              exact ⟨⟨k + 3, m + 1, by omega, by omega, by go_num, by go_num, H.out⟩, by simp [intOf]; omega⟩
            · have f3 : ((s[k + 2].toNat : Int) == 101) = false := byte_ne h4
              have f4 : ((s[k + 2].toNat : Int) == 69) = true := byte_eq (h3.resolve_left h4)
              clear h3 h4
              go_wp2
              exact ⟨⟨k + 3, m + 1, by omega, by omega, by go_num, by go_num, H.out⟩, by simp [intOf]; omega⟩
          · have hz : Hid (dotsZ s.data.toList = -1) := dots_miss heq.out (by
              rw [D0.out, D1.out, D2.out]
              refine dotsN_three _ _ _ _ h0 ?_
              by_cases a1 : s[k] = 37
              · by_cases a2 : s[k + 1] = 50
                · exact .inr (.inr ⟨fun a3 => h1 ⟨a1, a2, .inl a3⟩, fun a3 => h1 ⟨a1, a2, .inr a3⟩⟩)
                · exact .inr (.inl a2)
              · exact .inl a1)
            by_cases a1 : s[k] = 37
            · have f1 : ((s[k].toNat : Int) == 37) = true := byte_eq a1
              by_cases a2 : s[k + 1] = 50
              · have f2 : ((s[k + 1].toNat : Int) == 50) = true := byte_eq a2
                have f3 : ((s[k + 2].toNat : Int) == 101) = false := byte_ne (fun a3 => h1 ⟨a1, a2, .inl a3⟩)
                have f4 : ((s[k + 2].toNat : Int) == 69) = false := byte_ne (fun a3 => h1 ⟨a1, a2, .inr a3⟩)
                clear h0 h1 a1 a2
                go_wp2
                go_ret
                exact ⟨ret_int hz.out.symm, rfl⟩
              · have f2 : ((s[k + 1].toNat : Int) == 50) = false := byte_ne a2
                clear h0 h1 a1 a2
                go_wp2
                go_ret
                exact ⟨ret_int hz.out.symm, rfl⟩
            · have f1 : ((s[k].toNat : Int) == 37) = false := byte_ne a1
              clear h0 h1 a1
              go_wp2
              go_ret
              exact ⟨ret_int hz.out.symm, rfl⟩
        · have hz : Hid (dotsZ s.data.toList = -1) := dots_miss heq.out (by
            rw [D0.out]
            exact dotsN_short _ _ h0 (by simp; omega))
          clear h0
          go_wp2
          go_ret
          exact ⟨ret_int hz.out.symm, rfl⟩
    · go_wp2
      go_ret
      refine ⟨ret_int ?_, rfl⟩
      have h1 := heq.out
      rw [List.drop_of_length_le (by simp; omega)] at h1
      rw [dotsZ, h1]
      rfl

theorem refSingle_any (s : ByteArray) (w : World) (hs : s.size ≤ 9223372036854775800) :
    Calls Tryd.prog 17 #[.string s] w fun e w' => e = .returned (.bool (dotsZ s.data.toList == 1)) ∧ w = w' := by
  go_enter Tryd.func17, Tryd.ntmps17
  go_wp2_with (go_at_call 41; refine (dots_any _ _ hs).mono ?_; rintro e w' ⟨rfl, rfl⟩)
  go_ret
  exact ⟨rfl, rfl⟩
theorem refDouble_any (s : ByteArray) (w : World) (hs : s.size ≤ 9223372036854775800) :
    Calls Tryd.prog 18 #[.string s] w fun e w' => e = .returned (.bool (dotsZ s.data.toList == 2)) ∧ w = w' := by
  go_enter Tryd.func18, Tryd.ntmps18
  go_wp2_with (go_at_call 41; refine (dots_any _ _ hs).mono ?_; rintro e w' ⟨rfl, rfl⟩)
  go_ret
  exact ⟨rfl, rfl⟩
end Go.Proofs.YtpahiipfmccbiaaDoor
