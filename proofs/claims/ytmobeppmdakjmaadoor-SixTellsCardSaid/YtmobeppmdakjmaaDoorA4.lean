/- Walk: internal/strconv.ParseUint of a text that has none but digits of base 16, at 16 bits; strconv.ParseUint on it. (Printed by pu.py.) -/
import Derived.Test.YtmobeppmdakjmaaDoorP0
import Derived.Test.YtmobeppmdakjmaaDoorM1
import Derived.Test.YtmobeppmdakjmaaDoorS0
import Derived.Test.YtmobeppmdakjmaaDoorChecked
import Derived.Lib.ConvBytes
import Derived.Lib.Strings
import Derived.Lib.Walk
import Derived.Laws.Strings3
import Derived.Laws.Closers25
import Derived.Laws.Closers25b
import Derived.BigCall
import Derived.BigGuard
import Derived.Test.YtmobeppmdakjmaaDoorA3
namespace Go.Proofs.YtmobeppmdakjmaaDoor
open Go.RowKit

/-- What it hands back. -/
def puV_b16_16 (n : Nat) : Value := if n ≤ 65535 then .tuple #[.int .u64 n, .nilIface] else .tuple #[.int .u64 65535, .iface 132 (.int .i64 1)]

set_option maxHeartbeats 32000000 in
set_option maxRecDepth 100000 in
theorem pu_b16_16 (l : List UInt8) (hne : l ≠ []) (hdig : digitsB 16 l = true) (hmax : l.length ≤ 1000000) (w : World) :
    Calls Tryd.prog 89 #[.string ⟨l.toArray⟩, .int .i64 16, .int .i64 16] w fun e w' => e = .returned (puV_b16_16 (numB 16 0 l)) ∧ Below w.heap.size w w' := by
  obtain ⟨t, ht⟩ : ∃ t : ByteArray, t = ⟨l.toArray⟩ := ⟨_, rfl⟩
  have htl : t.data.toList = l := by rw [ht]
  have htn : t.size = l.length := by rw [ht]; exact size_str l
  have h0 : l.length ≠ 0 := fun e => hne (List.eq_nil_of_length_eq_zero e)
  rw [← ht]
  clear ht
  have hemp : t.toList.isEmpty = false := by
    rw [← decide_eq_emptyBytes]
    exact decide_eq_false (fun h => h0 (by rw [← htn, h]; rfl))
  have hcv := Lib.run_convert_string_bytes (P := Tryd.prog) w 9 41 5 t (u := .string) Tryd.underlying9 Tryd.underlying41 Tryd.underlying5
  have hB : ∀ j, j < t.size → (Lib.bytesWorld w 5 t).cell? ⟨w.heap.size, j, none⟩ = some (.int .u8 (t.data.toList.getD j 0).toNat) := fun j hj => Lib.bytesWorld_cell w 5 t j hj
  have hbw := Lib.hid (Lib.bytesWorld_below w 5 t)
  obtain ⟨W1, hW1⟩ : ∃ W1, W1 = Lib.bytesWorld w 5 t := ⟨_, rfl⟩
  rw [← hW1] at hcv hB hbw
  clear hW1
  rw [htl] at hB
  have hmv : IntKind.u64.wrap (IntKind.u64.wrap 65536 - 1) = 65535 := by
    rw [IntKind.wrap_u64, IntKind.wrap_u64]
    decide
  have Hdig : Hid (∀ c ∈ l, worth c < 16) := by
    show ∀ c ∈ l, _
    intro c hc
    have := List.all_eq_true.1 hdig c hc
    simpa using this
  clear hdig htl hne
  go_enter Tryd.func89, Tryd.ntmps89
  go_wp2
  go_loop [12, 13, 101] (fun vu vn vi => ∃ (k acc : Nat) (a : Int), vu = .bool false ∧ vn = .int .u64 a ∧ vi = .int .i64 k ∧ k ≤ t.size ∧ Hid (a = (acc : Int) ∧ acc ≤ 65535 ∧ numB 16 0 l = numB 16 acc (l.drop k)))
    (fun _ _ vi => t.size - (intOf vi).toNat)
  case atStart => exact ⟨0, 0, 0, rfl, rfl, rfl, by omega, rfl, by omega, rfl⟩
  case round =>
    obtain ⟨k, acc, a, rfl, rfl, rfl, hk, hh⟩ := hrel
    obtain ⟨ha, hacc, hdec⟩ := hh.out
    clear hh
    have a0 : 0 ≤ a := by omega
    have a1 : a ≤ 65535 := by omega
    by_cases hkn : k < t.size
    · have hc := hB k hkn
      have hkl : k < l.length := by omega
      have hdrop : l.drop k = l[k] :: l.drop (k + 1) := List.drop_eq_getElem_cons hkl
      have hget : l.getD k 0 = l[k] := by simp [List.getD, List.getElem?_eq_getElem hkl]
      have hwc := Hdig.out l[k] (List.getElem_mem hkl)
      rw [hdrop] at hdec
      rw [hget] at hc
      generalize l[k] = c at hc hdec hwc
      have hc256 : c.toNat < 256 := c.toNat_lt
      clear hB hdrop hget
      have hstep : numB 16 0 l = numB 16 (acc * 16 + worth c) (l.drop (k + 1)) := hdec
      have HR : Hid (65535 < acc * 16 + worth c → puV_b16_16 (numB 16 0 l) = .tuple #[.int .u64 65535, .iface 132 (.int .i64 1)]) := by
        intro h
        have := numB_ge 16 (by decide) (l.drop (k + 1)) (acc * 16 + worth c)
        rw [puV_b16_16, if_neg (by omega)]
      have HN : Hid (acc * 16 + worth c ≤ 65535 → ∀ b : Int, b = a * 16 + (worth c : Int) → b = ((acc * 16 + worth c : Nat) : Int) ∧ acc * 16 + worth c ≤ 65535 ∧ numB 16 0 l = numB 16 (acc * 16 + worth c) (l.drop (k + 1))) :=
        fun h b hb => ⟨by omega, h, hstep⟩
      clear hstep hdec
      by_cases hdg : 48 ≤ c.toNat ∧ c.toNat ≤ 57
      · obtain ⟨hd0, hd1⟩ := hdg
        have hw : worth c = c.toNat - 48 := by unfold worth; rw [if_pos ⟨hd0, hd1⟩]
        rw [hw] at hwc HR HN
        have hdb : (c.toNat : Int) - 48 < 16 := by omega
        by_cases hov : 65535 < acc * 16 + (c.toNat - 48)
        · have hR := HR.out hov
          have HR2 := Lib.hid hR
          have iov : 65535 < a * 16 + ((c.toNat : Int) - 48) := by omega
          clear hacc hR HR HN hov ha hw hwc
          go_wp2
          go_ret2
          exact ⟨HR2.out.symm ▸ rfl, hbw.out⟩
        · have HN2 := Lib.hid (HN.out (by omega))
          have iov : a * 16 + ((c.toNat : Int) - 48) ≤ 65535 := by omega
          have ecast : ((c.toNat - 48 : Nat) : Int) = (c.toNat : Int) - 48 := by omega
          rw [ecast] at HN2
          clear hacc HR HN hov ha hw hwc ecast
          go_wp2
          refine ⟨⟨k + 1, acc * 16 + (c.toNat - 48), a * 16 + ((c.toNat : Int) - 48), rfl, (by first | rfl | (congr 1; omega)), (by first | rfl | (congr 1; omega)), by omega, HN2.out _ rfl⟩, by simp [intOf]; omega⟩
      · obtain ⟨y, hy0, hy1, hw, hor, h57, h95⟩ := letter_low c (by omega) hdg
        rw [hw] at hwc HR HN
        have hgt : ¬ (c.toNat : Int) ≤ 57 := by omega
        by_cases hov : 65535 < acc * 16 + (y - 87)
        · have hR := HR.out hov
          have HR2 := Lib.hid hR
          have iov : 65535 < a * 16 + ((y : Int) - 87) := by omega
          clear hacc hR HR HN hov ha hw hwc hdg h57
          go_wp2_with (go_at_call 118; refine (Tryd.internal_strconv_lower _ _).mono ?_; rintro e w' ⟨rfl, rfl⟩; rw [hor])
          go_ret2
          exact ⟨HR2.out.symm ▸ rfl, hbw.out⟩
        · have HN2 := Lib.hid (HN.out (by omega))
          have iov : a * 16 + ((y : Int) - 87) ≤ 65535 := by omega
          have ecast : ((y - 87 : Nat) : Int) = (y : Int) - 87 := by omega
          rw [ecast] at HN2
          clear hacc HR HN hov ha hw hwc ecast hdg h57
          go_wp2_with (go_at_call 118; refine (Tryd.internal_strconv_lower _ _).mono ?_; rintro e w' ⟨rfl, rfl⟩; rw [hor])
          refine ⟨⟨k + 1, acc * 16 + (y - 87), a * 16 + ((y : Int) - 87), rfl, (by first | rfl | (congr 1; omega)), (by first | rfl | (congr 1; omega)), by omega, HN2.out _ rfl⟩, by simp [intOf]; omega⟩
    · have hkk : k = t.size := by omega
      have hfin : numB 16 0 l = acc := by rw [hdec, List.drop_of_length_le (by omega)]; rfl
      have HF : Hid (puV_b16_16 (numB 16 0 l) = .tuple #[.int .u64 a, .nilIface]) := by
        show _ = _
        rw [hfin, puV_b16_16, if_pos hacc, ha]
      clear hdec hfin hacc ha
      have f0 : ¬ (k : Int) < (t.size : Int) := by omega
      clear hkn hkk
      go_wp2
      go_ret2
      exact ⟨HF.out.symm ▸ rfl, hbw.out⟩
#print axioms pu_b16_16
end Go.Proofs.YtmobeppmdakjmaaDoor
