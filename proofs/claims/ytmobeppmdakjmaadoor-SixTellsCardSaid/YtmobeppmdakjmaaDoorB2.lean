/- Walks: a number's text (base, Number). -/
import Derived.Test.YtmobeppmdakjmaaDoorB1
import Derived.Test.YtmobeppmdakjmaaDoorP1
namespace Go.Proofs.YtmobeppmdakjmaaDoor
open Go.RowKit

theorem w_bytes {w w' : World} {t : TypeId} {s : ByteArray} (h : w' = w ∨ w' = Lib.bytesWorld w t s) : Below w.heap.size w w' := by
  rcases h with rfl | rfl
  · exact Below.refl _ _
  · exact Lib.bytesWorld_below _ _ _
/-- strconv.ParseUint at 32 bits, of digits: it holds the number. -/
theorem pub_ok (b : Nat) (hb : b = 8 ∨ b = 10 ∨ b = 16) (l : List UInt8) (hne : l ≠ []) (hdig : digitsB b l = true) (hmax : l.length ≤ 1000000) (h : numB b 0 l ≤ 4294967295) (w : World) :
    Calls Tryd.prog 49 #[.string ⟨l.toArray⟩, .int .i64 b, .int .i64 32] w fun e w' => e = .returned (.tuple #[.int .u64 (numB b 0 l), .nilIface]) ∧ Below w.heap.size w w' := by
  have hsz := size_str l
  rcases hb with rfl | rfl | rfl
  · exact pub8_ok l hne hdig hmax h w
  · refine (Tryd.strconv_ParseUint_10_at32_ok ⟨l.toArray⟩ (by omega) _ (parseB_ok hne hdig h) w).mono ?_
    rintro e w' ⟨rfl, hw⟩
    exact ⟨rfl, w_bytes hw⟩
  · exact pub16_ok l hne hdig hmax h w
theorem pub_range (b : Nat) (hb : b = 8 ∨ b = 10 ∨ b = 16) (l : List UInt8) (hne : l ≠ []) (hdig : digitsB b l = true) (hmax : l.length ≤ 1000000) (h : 4294967295 < numB b 0 l) (w : World) (ho : Ok w) :
    Calls Tryd.prog 49 #[.string ⟨l.toArray⟩, .int .i64 b, .int .i64 32] w fun e w' => ∃ N, e = .returned (.tuple #[.int .u64 4294967295, .iface 134 (.pointer (some ⟨N, 0, none⟩))]) ∧ Below w.heap.size w w' := by
  have hsz := size_str l
  rcases hb with rfl | rfl | rfl
  · exact pub8_range l hne hdig hmax h w ho.er
  · obtain ⟨te, pe, hc⟩ := ho.er
    refine (Tryd.strconv_ParseUint_10_at32_range ⟨l.toArray⟩ (by omega) (parseB_range hne hdig h) _ w hc (.inr ⟨te, pe, rfl⟩)).mono ?_
    rintro e w' ⟨N, rfl, _, _, hb⟩
    exact ⟨N, rfl, hb⟩
  · exact pub16_range l hne hdig hmax h w ho.er

theorem pfx_x {t : List UInt8} (c : UInt8) : Lib.hasPrefix (48 :: c :: t) [48, 120] = (c == 120) := by
  rw [Bool.eq_iff_iff]; simp [Lib.hasPrefix, List.isPrefixOf]; exact eq_comm
theorem pfx_X {t : List UInt8} (c : UInt8) : Lib.hasPrefix (48 :: c :: t) [48, 88] = (c == 88) := by
  rw [Bool.eq_iff_iff]; simp [Lib.hasPrefix, List.isPrefixOf]; exact eq_comm
theorem pfx_no {s : List UInt8} (c : UInt8) (h : s.length < 2 ∨ s.head? ≠ some 48) : Lib.hasPrefix s [48, c] = false := by
  match s, h with
  | [], _ => rfl
  | [a], _ => simp [Lib.hasPrefix, List.isPrefixOf]
  | a :: b :: t, h =>
    have ha : a ≠ 48 := by
      rcases h with h | h
      · simp at h; omega
      · exact fun e => h (by rw [e]; rfl)
    have : (48 == a) = false := by rw [beq_eq_false_iff_ne]; exact fun e => ha e.symm
    simp [Lib.hasPrefix, List.isPrefixOf, this]
theorem hasPrefix_is (s p : List UInt8) (b : Bool) (h : Lib.hasPrefix s p = b) (w : World) :
    Calls Tryd.prog 81 #[.string ⟨s.toArray⟩, .string ⟨p.toArray⟩] w fun e w' => e = .returned (.bool b) ∧ w = w' := by
  subst h
  refine (Tryd.strings_HasPrefix ⟨s.toArray⟩ ⟨p.toArray⟩ w).mono ?_
  rintro e w' ⟨rfl, rfl⟩
  exact ⟨rfl, rfl⟩
theorem ext_drop (l : List UInt8) (k n : Nat) (hn : n = l.length) : (⟨l.toArray⟩ : ByteArray).extract k n = ⟨(l.drop k).toArray⟩ := by
  subst hn
  apply ByteArray.ext
  rw [ByteArray.data_extract]
  simp
  exact List.take_of_length_le (by simp)

set_option maxHeartbeats 2000000 in
set_option maxRecDepth 100000 in
theorem base_x (c : UInt8) (hc : c = 120 ∨ c = 88) (t : List UInt8) (hl : t.length ≤ 1000000) (w : World) :
    Calls Tryd.prog 46 #[.string ⟨(48 :: c :: t).toArray⟩] w fun e w' => e = .returned (.tuple #[.string ⟨t.toArray⟩, .int .i64 16]) ∧ w = w' := by
  obtain ⟨s, hs⟩ : ∃ s : List UInt8, s = 48 :: c :: t := ⟨_, rfl⟩
  have hsl : s.length = t.length + 2 := by rw [hs]; simp
  have hsz : (⟨s.toArray⟩ : ByteArray).size = t.length + 2 := by rw [size_str, hsl]
  have H1 := Lib.hid (show Lib.hasPrefix s [48, 120] = (c == 120) by rw [hs]; exact pfx_x c)
  have H2 := Lib.hid (show Lib.hasPrefix s [48, 88] = (c == 88) by rw [hs]; exact pfx_X c)
  have He : Hid ((⟨s.toArray⟩ : ByteArray).extract 2 (t.length + 2) = ⟨t.toArray⟩) := by
    show _ = _
    rw [ext_drop s 2 _ hsl.symm, hs]; rfl
  rw [← hs]
  clear hs
  rcases hc with rfl | rfl
  · go_enter Tryd.func46, Tryd.ntmps46
    go_wp2_with (go_at_call 81; refine (hasPrefix_is s _ true (by exact H1.out) _).mono ?_; rintro e w' ⟨rfl, rfl⟩)
    go_ret2
    exact ⟨by rw [He.out]; rfl, rfl⟩
  · go_enter Tryd.func46, Tryd.ntmps46
    go_wp2_with fail
    refine (hasPrefix_is s [48, 120] false (by exact H1.out) _).mono ?_
    rintro e w' ⟨rfl, rfl⟩
    go_wp2_with fail
    refine (hasPrefix_is s [48, 88] true (by exact H2.out) _).mono ?_
    rintro e w' ⟨rfl, rfl⟩
    go_wp2
    go_ret2
    exact ⟨by rw [He.out]; rfl, rfl⟩
set_option maxHeartbeats 2000000 in
set_option maxRecDepth 100000 in
theorem base_8 (c : UInt8) (hc : ¬ (c = 120 ∨ c = 88)) (t : List UInt8) (hl : t.length ≤ 1000000) (w : World) :
    Calls Tryd.prog 46 #[.string ⟨(48 :: c :: t).toArray⟩] w fun e w' => e = .returned (.tuple #[.string ⟨(c :: t).toArray⟩, .int .i64 8]) ∧ w = w' := by
  obtain ⟨s, hs⟩ : ∃ s : List UInt8, s = 48 :: c :: t := ⟨_, rfl⟩
  have hsl : s.length = t.length + 2 := by rw [hs]; simp
  have hsz : (⟨s.toArray⟩ : ByteArray).size = t.length + 2 := by rw [size_str, hsl]
  have H1 := Lib.hid (show Lib.hasPrefix s [48, 120] = false by rw [hs, pfx_x c, beq_eq_false_iff_ne]; exact fun e => hc (.inl e))
  have H2 := Lib.hid (show Lib.hasPrefix s [48, 88] = false by rw [hs, pfx_X c, beq_eq_false_iff_ne]; exact fun e => hc (.inr e))
  have He : Hid ((⟨s.toArray⟩ : ByteArray).extract 1 (t.length + 2) = ⟨(c :: t).toArray⟩) := by
    show _ = _
    rw [ext_drop s 1 _ hsl.symm, hs]; rfl
  have h48 : ((((⟨s.toArray⟩ : ByteArray)[0]'(by omega)).toNat : Int) == 48) = true := by
    have : (⟨s.toArray⟩ : ByteArray)[0]'(by omega) = 48 := by subst hs; rfl
    rw [this]; rfl
  rw [← hs]
  clear hs hc
  go_enter Tryd.func46, Tryd.ntmps46
  go_wp2_with fail
  refine (hasPrefix_is s [48, 120] false (by exact H1.out) _).mono ?_
  rintro e w' ⟨rfl, rfl⟩
  go_wp2_with fail
  refine (hasPrefix_is s [48, 88] false (by exact H2.out) _).mono ?_
  rintro e w' ⟨rfl, rfl⟩
  go_wp2
  go_ret2
  exact ⟨by rw [He.out]; rfl, rfl⟩
set_option maxHeartbeats 2000000 in
set_option maxRecDepth 100000 in
theorem base_10 (s : List UInt8) (h : s.length < 2 ∨ s.head? ≠ some 48) (hl : s.length ≤ 1000000) (w : World) :
    Calls Tryd.prog 46 #[.string ⟨s.toArray⟩] w fun e w' => e = .returned (.tuple #[.string ⟨s.toArray⟩, .int .i64 10]) ∧ w = w' := by
  have hsz := size_str s
  have H1 := Lib.hid (pfx_no 120 h)
  have H2 := Lib.hid (pfx_no 88 h)
  by_cases h2 : s.length < 2
  · have f1 : ¬ (1 : Int) < (s.length : Int) := by omega
    clear h
    go_enter Tryd.func46, Tryd.ntmps46
    go_wp2_with fail
    refine (hasPrefix_is s [48, 120] false (by exact H1.out) _).mono ?_
    rintro e w' ⟨rfl, rfl⟩
    go_wp2_with fail
    refine (hasPrefix_is s [48, 88] false (by exact H2.out) _).mono ?_
    rintro e w' ⟨rfl, rfl⟩
    go_wp2
    go_ret2
    exact ⟨rfl, rfl⟩
  · have hh := h.resolve_left h2
    have f1 : (1 : Int) < (s.length : Int) := by omega
    have h48 : ((((⟨s.toArray⟩ : ByteArray)[0]'(by omega)).toNat : Int) == 48) = false := by
      match s, h2, hh with
      | a :: b :: t, _, hh =>
        have ha : a ≠ 48 := fun e => hh (by rw [e]; rfl)
        exact byte_ne (d := 48) ha
    clear h hh
    go_enter Tryd.func46, Tryd.ntmps46
    go_wp2_with fail
    refine (hasPrefix_is s [48, 120] false (by exact H1.out) _).mono ?_
    rintro e w' ⟨rfl, rfl⟩
    go_wp2_with fail
    refine (hasPrefix_is s [48, 88] false (by exact H2.out) _).mono ?_
    rintro e w' ⟨rfl, rfl⟩
    go_wp2
    go_ret2
    exact ⟨rfl, rfl⟩
theorem base4_other {s : List UInt8} (h : s.length < 2 ∨ s.head? ≠ some 48) : base4 s = (s, 10) := by
  match s, h with
  | [], _ => rfl
  | [a], _ =>
    unfold base4
    split
    · rename_i e; cases e
    · rfl
  | a :: b :: t, h =>
    have ha : a ≠ 48 := by
      rcases h with h | h
      · simp at h; omega
      · exact fun e => h (by rw [e]; rfl)
    unfold base4
    split
    · rename_i e; injection e with e1; exact absurd e1 ha
    · rfl
theorem base_any (s : List UInt8) (hl : s.length ≤ 1000000) (w : World) :
    Calls Tryd.prog 46 #[.string ⟨s.toArray⟩] w fun e w' => e = .returned (.tuple #[.string ⟨(base4 s).1.toArray⟩, .int .i64 (base4 s).2]) ∧ w = w' := by
  by_cases h : s.length < 2 ∨ s.head? ≠ some 48
  · rw [base4_other h]
    exact base_10 s h hl w
  · match s, h, hl with
    | [], h, _ => exact absurd (.inl (by simp)) h
    | [a], h, _ => exact absurd (.inl (by simp)) h
    | a :: c :: t, h, hl =>
      have ha : a = 48 := by
        by_cases e : a = 48
        · exact e
        · exact absurd (.inr (by simpa using e)) h
      subst ha
      by_cases hc : c = 120 ∨ c = 88
      · have e : base4 (48 :: c :: t) = (t, 16) := by unfold base4; exact if_pos hc
        rw [e]
        exact base_x c hc t (by simp at hl; omega) w
      · have e : base4 (48 :: c :: t) = (c :: t, 8) := by unfold base4; exact if_neg hc
        rw [e]
        exact base_8 c hc t (by simp at hl; omega) w
#print axioms base_any
end Go.Proofs.YtmobeppmdakjmaaDoor
