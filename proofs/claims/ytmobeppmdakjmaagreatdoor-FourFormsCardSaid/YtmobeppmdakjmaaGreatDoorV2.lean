/- Walk: written: a number, in digits of ten, eight, or sixteen. (Printed by fourforms.py.) -/
import Derived.Test.YtmobeppmdakjmaaGreatDoorV1
import Derived.Test.YtmobeppmdakjmaaGreatDoorN2
import Derived.Test.YtmobeppmdakjmaaGreatDoorJ0
import Derived.Lib.Repeat
namespace Go.Proofs.YtmobeppmdakjmaaGreatDoor
open Go.RowKit

theorem cat4 (a b : List UInt8) : (⟨a.toArray⟩ : ByteArray) ++ ⟨b.toArray⟩ = ⟨(a ++ b).toArray⟩ := by
  apply ByteArray.ext
  simp
theorem repeat_noughts (c : Nat) (hc : c ≤ 100) (v : Int) (hv : v = (c : Int)) (w : World) :
    Calls Tryz.prog 9 #[.string ⟨#[48]⟩, .int .i64 v] w fun e w' => e = .returned (.string ⟨(List.replicate c (48 : UInt8)).toArray⟩) ∧ Below w.heap.size w w' := by
  subst hv
  have h := Tryz.strings_Repeat ⟨#[48]⟩ c w (by omega) (by show 1 * c ≤ _; omega)
  have e : Lib.repeatL (⟨#[48]⟩ : ByteArray).data.toList c = List.replicate c 48 := by
    have := Lib.repeatL_replicate 48 1 c
    rw [Nat.mul_one] at this
    exact this
  rw [e] at h
  exact h
theorem upper_any (s : List UInt8) (hl : s.length ≤ 100000) (ha : ∀ b ∈ s, b.toNat < 128) (w : World) :
    Calls Tryz.prog 11 #[.string ⟨s.toArray⟩] w fun e w' => e = .returned (.string ⟨(up s).toArray⟩) ∧ Below w.heap.size w w' :=
  Tryz.strings_ToUpper_ascii ⟨s.toArray⟩ w (by rw [size_str]; omega) (fun j b h => ha b (List.mem_of_getElem? h))
theorem digs_low (n : Nat) : ∀ b ∈ digs 14 n, b.toNat < 128 := by
  intro b hb
  have h := digs_digits 14 (by omega) n
  unfold digitsB at h
  rw [List.all_eq_true] at h
  have := h b hb
  simp only [decide_eq_true_eq] at this
  unfold worth at this
  split at this
  · omega
  · split at this
    · omega
    · split at this
      · omega
      · omega
set_option maxHeartbeats 4000000 in
set_option maxRecDepth 100000 in
theorem written_any (n : Nat) (hn : n < 4294967296) (hw : UInt8) (w : World) (ho : Ok w) (ht : Tz w) :
    Calls Tryz.prog 4 #[.int .u64 (n : Int), .int .u8 hw.toNat] w fun e w' => e = .returned (.string ⟨(writ n hw.toNat).toArray⟩) ∧ Below w.heap.size w w' := by
  have hwl := hw.toNat_lt
  obtain ⟨c, hc⟩ : ∃ c, hw.toNat / 3 % 4 = c := ⟨_, rfl⟩
  have hc4 : c ≤ 100 := by omega
  have Hdef : Hid (writ n hw.toNat = if hw.toNat % 3 = 0 then Lib.decDigits n else if hw.toNat % 3 = 1 then [48] ++ List.replicate c 48 ++ digs 6 n else [48, 120] ++ List.replicate c 48 ++ up (digs 14 n)) := by
    show _ = _
    rw [← hc]; rfl
  obtain ⟨rp, hrp⟩ : ∃ rp, List.replicate c (48 : UInt8) = rp := ⟨_, rfl⟩
  have hrl : rp.length ≤ 100 := by rw [← hrp, List.length_replicate]; exact hc4
  have HR := Lib.hid (fun v hv W => repeat_noughts c hc4 v hv W)
  rw [hrp] at HR Hdef
  have H10 := Lib.hid (fun W h => fmtuint_any n (by omega) W h)
  have H8 := Lib.hid (fun W h => fmtuint_8 n (by omega) W h)
  have H16 := Lib.hid (fun W h => fmtuint_16 n (by omega) W h)
  have l6 := digs_len 6 31 n (by omega)
  have l14 := digs_len 14 31 n (by omega)
  have HU := Lib.hid (fun W => upper_any (digs 14 n) (by omega) (digs_low n) W)
  have lu : (up (digs 14 n)).length ≤ 32 := by unfold up; rw [List.length_map]; omega
  obtain ⟨t0, ht0⟩ : ∃ t, writ n hw.toNat = t := ⟨_, rfl⟩
  rw [ht0] at Hdef ⊢
  generalize Lib.decDigits n = td at *
  generalize up (digs 14 n) = tu at *
  generalize digs 6 n = t8 at *
  generalize digs 14 n = t16 at *
  obtain ⟨sa, hsa⟩ : ∃ t, [48] ++ rp = t := ⟨_, rfl⟩
  obtain ⟨sb, hsb⟩ : ∃ t, [48, 120] ++ rp = t := ⟨_, rfl⟩
  rw [hsa, hsb] at Hdef
  have la : sa.length ≤ 200 := by rw [← hsa, List.length_append]; simp only [List.length_cons, List.length_nil]; omega
  have lb : sb.length ≤ 200 := by rw [← hsb, List.length_append]; simp only [List.length_cons, List.length_nil]; omega
  have z1 : (⟨#[48]⟩ : ByteArray) ++ ⟨rp.toArray⟩ = ⟨sa.toArray⟩ := by rw [← hsa]; exact cat4 [48] rp
  have z2 : (⟨#[48, 120]⟩ : ByteArray) ++ ⟨rp.toArray⟩ = ⟨sb.toArray⟩ := by rw [← hsb]; exact cat4 [48, 120] rp
  have y1 := size_str rp
  have y2 := size_str sa
  have y3 := size_str sb
  have y4 := size_str t8
  have y5 := size_str tu
  have Ho := Lib.hid ho
  have Ht := Lib.hid ht
  have Hcc : Hid ((hw.toNat : Int) / 3 % 4 = (c : Int)) := by show _ = _; omega
  clear hsa hsb hrp ht0 hc ho ht hn
  by_cases h0 : hw.toNat % 3 = 0
  · have g0 : ((hw.toNat : Int) % 3 == 0) = true := by rw [beq_iff_eq]; omega
    have hd : Hid (t0 = td) := by show _ = _; rw [Hdef.out, if_pos h0]
    clear h0 Hdef
    go_enter Tryz.func4, Tryz.ntmps4
    go_wp2_with fail
    refine (HR.out _ (by exact Hcc.out) _).mono ?_
    rintro e w1 ⟨rfl, hc⟩
    have ho1 := Lib.hid (Ho.out.below hc)
    go_wp2_with fail
    refine (H10.out _ ho1.out).mono ?_
    rintro e w2 ⟨rfl, hc2⟩
    go_wp2
    go_ret
    rw [hd.out]
    exact ⟨rfl, hc.trans (hc2.mono hc.size)⟩
  · by_cases h1 : hw.toNat % 3 = 1
    · have g0 : ((hw.toNat : Int) % 3 == 0) = false := by rw [beq_eq_false_iff_ne]; omega
      have g1 : ((hw.toNat : Int) % 3 == 1) = true := by rw [beq_iff_eq]; omega
      have hd : Hid (t0 = sa ++ t8) := by show _ = _; rw [Hdef.out, if_neg h0, if_pos h1]
      have z3 : (⟨sa.toArray⟩ : ByteArray) ++ ⟨t8.toArray⟩ = ⟨t0.toArray⟩ := by rw [hd.out]; exact cat4 _ _
      clear h0 h1 Hdef
      go_enter Tryz.func4, Tryz.ntmps4
      go_wp2_with fail
      refine (HR.out _ (by exact Hcc.out) _).mono ?_
      rintro e w1 ⟨rfl, hc⟩
      have ht1 := Lib.hid (Ht.out.below hc)
      go_wp2_with fail
      refine (H8.out _ ht1.out).mono ?_
      rintro e w2 ⟨rfl, hc2⟩
      go_wp2
      go_ret
      exact ⟨rfl, hc.trans (hc2.mono hc.size)⟩
    · have g0 : ((hw.toNat : Int) % 3 == 0) = false := by rw [beq_eq_false_iff_ne]; omega
      have g1 : ((hw.toNat : Int) % 3 == 1) = false := by rw [beq_eq_false_iff_ne]; omega
      have hd : Hid (t0 = sb ++ tu) := by show _ = _; rw [Hdef.out, if_neg h0, if_neg h1]
      have z3 : (⟨sb.toArray⟩ : ByteArray) ++ ⟨tu.toArray⟩ = ⟨t0.toArray⟩ := by rw [hd.out]; exact cat4 _ _
      clear h0 h1 Hdef
      go_enter Tryz.func4, Tryz.ntmps4
      go_wp2_with fail
      refine (HR.out _ (by exact Hcc.out) _).mono ?_
      rintro e w1 ⟨rfl, hc⟩
      have ht1 := Lib.hid (Ht.out.below hc)
      go_wp2_with fail
      refine (H16.out _ ht1.out).mono ?_
      rintro e w2 ⟨rfl, hc2⟩
      go_wp2_with fail
      refine (HU.out _).mono ?_
      rintro e w3 ⟨rfl, hc3⟩
      go_wp2
      go_ret
      exact ⟨rfl, (hc.trans (hc2.mono hc.size)).trans (hc3.mono (Nat.le_trans hc.size hc2.size))⟩
#print axioms written_any
end Go.Proofs.YtmobeppmdakjmaaGreatDoor
