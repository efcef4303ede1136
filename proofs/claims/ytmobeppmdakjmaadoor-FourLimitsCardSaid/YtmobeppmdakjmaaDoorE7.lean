/- Walk: the reference's Show. -/
import Derived.Test.YtmobeppmdakjmaaDoorE5
import Derived.Test.YtmobeppmdakjmaaDoorE1
namespace Go.Proofs.YtmobeppmdakjmaaDoor
open Go.RowKit

/-- What is yet to be shown: n more bytes, k having been shown. -/
def rest : Nat → Nat → Nat → List UInt8 → List UInt8
  | 0, _, _, out => out
  | n + 1, k, y, out => rest n (k + 1) (y * 256 % 4294967296) ((if 0 < k then out ++ [46] else out) ++ dec (y / 16777216))
theorem mul_step (y : Nat) (_m : Nat) (_h : y < 4294967296) : y * 256 % 4294967296 = (y % 16777216) * 256 := by omega
theorem rest_show (x : Nat) (h : x < 4294967296) : show4 x = rest 4 0 x [] := by
  have e0 : x / 16777216 % 256 = x / 16777216 := by omega
  obtain ⟨y1, h1⟩ : ∃ y, y = x * 256 % 4294967296 := ⟨_, rfl⟩
  have g1 : y1 = (x % 16777216) * 256 := by rw [h1]; exact mul_step x 0 h
  obtain ⟨y2, h2⟩ : ∃ y, y = y1 * 256 % 4294967296 := ⟨_, rfl⟩
  have g2 : y2 = (y1 % 16777216) * 256 := by rw [h2]; exact mul_step y1 0 (by omega)
  obtain ⟨y3, h3⟩ : ∃ y, y = y2 * 256 % 4294967296 := ⟨_, rfl⟩
  have g3 : y3 = (y2 % 16777216) * 256 := by rw [h3]; exact mul_step y2 0 (by omega)
  have e1 : y1 / 16777216 = x / 65536 % 256 := by omega
  have e2 : y2 / 16777216 = x / 256 % 256 := by omega
  have e3 : y3 / 16777216 = x % 256 := by omega
  simp only [rest, ← h1, ← h2, ← h3, e1, e2, e3, show4, e0]
  simp [Lib.join]

/-- string([]byte{v}) of one byte. -/
theorem conv1 (W : World) (b : UInt8) (B : Nat) (hB : B = W.heap.size) (v : Int) (hv : v = (b.toNat : Int)) :
    Sem.run Tryd.prog (convert 41 9 (.slice (some ⟨B, 0, none⟩) 1 1)) (W.alloc (.cells #[.int .u8 v] 5)) = .ok (.string ⟨#[b]⟩) (W.alloc (.cells #[.int .u8 v] 5)) := by
  subst hB; subst hv
  refine run_convert_bytes_back (P := Tryd.prog) (W.alloc (.cells #[.int .u8 (b.toNat : Int)] 5)) 41 9 5 ⟨W.heap.size, 0, none⟩ 1 [b] Tryd.underlying41 Tryd.underlying5 Tryd.underlying9 (fun j hj => ?_)
  obtain rfl : j = 0 := by simp at hj; omega
  rw [addr_add, World.cell?_alloc_at _ _ _ _ rfl]; rfl
theorem byte_nat (n : Nat) (h : n < 256) (v : Int) (hv : v = (n : Int)) : v = ((n.toUInt8).toNat : Int) := by
  subst hv
  have : (n.toUInt8).toNat = n % 256 := by simp [Nat.toUInt8]
  rw [this]; omega
set_option maxHeartbeats 4000000 in
set_option maxRecDepth 100000 in
theorem refShow_any (x : Nat) (hx : x < 4294967296) (w : World) :
    Calls Tryd.prog 20 #[.int .u32 (x : Int)] w fun e w' => e = .returned (.string ⟨(show4 x).toArray⟩) ∧ Below w.heap.size w w' := by
  go_enter Tryd.func20, Tryd.ntmps20
  go_wp2
  go_loopw [0, 3, 4] (fun x0 o i wr => ∃ (k y : Nat) (out : List UInt8), k ≤ 4 ∧ y < 4294967296 ∧ out.length ≤ 4 * k ∧ x0 = .int .u32 (y : Int) ∧ o = .string ⟨out.toArray⟩ ∧ i = .int .i64 (k : Int) ∧ Below w.heap.size w wr ∧ Hid (show4 x = rest (4 - k) k y out)) (fun _ _ i _ => 4 - (intOf i).toNat)
  case atStart => exact ⟨0, x, [], Nat.zero_le _, hx, Nat.zero_le _, rfl, rfl, rfl, Below.refl _ _, rest_show x hx⟩
  case round =>
    obtain ⟨k, y, out, hk, hy, hol, rfl, rfl, rfl, hbw, hr⟩ := hrel
    by_cases hlt : k < 4
    · have i1 : (k : Int) < 4 := by omega
      have hos := size_str out
      obtain ⟨d, hd⟩ : ∃ d : Nat, y / 16777216 = d := ⟨_, rfl⟩
      have hd2 : (y : Int) / 16777216 = (d : Int) := by omega
      have hd3 : d < 256 := by omega
      have hd4 : (d : Int) % 256 = (d : Int) := by omega
      have hsb := hbw.size
      have hnext : Hid (show4 x = rest (4 - (k + 1)) (k + 1) (y * 256 % 4294967296) ((if 0 < k then out ++ [46] else out) ++ dec d)) := by
        show _ = _
        rw [hr.out, show 4 - k = (4 - (k + 1)) + 1 from by omega, rest, hd]
      have hdl := dec_len d
      obtain ⟨b3, hb3⟩ : ∃ b : UInt8, b = (48 + d % 10).toUInt8 := ⟨_, rfl⟩
      have v3 := Lib.hid (byte_nat (48 + d % 10) (by omega) (48 + (d : Int) % 10) (by omega))
      rw [← hb3] at v3
      have hcast : (y : Int) * 256 % 4294967296 = ((y * 256 % 4294967296 : Nat) : Int) := by omega
      by_cases h100 : 100 ≤ d
      · have j1 : (100 : Int) ≤ (d : Int) := by omega
        have j2 : (10 : Int) ≤ (d : Int) := by omega
        obtain ⟨b1, hb1⟩ : ∃ b : UInt8, b = (48 + d / 100).toUInt8 := ⟨_, rfl⟩
        have v1 := Lib.hid (byte_nat (48 + d / 100) (by omega) (48 + (d : Int) / 100) (by omega))
        rw [← hb1] at v1
        obtain ⟨b2, hb2⟩ : ∃ b : UInt8, b = (48 + d / 10 % 10).toUInt8 := ⟨_, rfl⟩
        have v2 := Lib.hid (byte_nat (48 + d / 10 % 10) (by omega) (48 + (d : Int) / 10 % 10) (by omega))
        rw [← hb2] at v2
        have hdec : Hid (dec d = [b1, b2, b3]) := by
          show _ = _
          unfold dec
          rw [if_pos h100, if_pos (by omega), hb1, hb2, hb3]; rfl
        have c1 := conv1 wr b1 wr.heap.size rfl (48 + (d : Int) / 100) v1.out
        have c2 := conv1 (wr.alloc (.cells #[.int .u8 (48 + (d : Int) / 100)] 5)) b2 (wr.heap.size + 1) (by simp) (48 + (d : Int) / 10 % 10) v2.out
        have c3 := conv1 ((wr.alloc (.cells #[.int .u8 (48 + (d : Int) / 100)] 5)).alloc (.cells #[.int .u8 (48 + (d : Int) / 10 % 10)] 5)) b3 (wr.heap.size + 1 + 1) (by simp) (48 + (d : Int) % 10) v3.out
        clear h100 hb1 hb2 hb3 hd
        rcases Nat.lt_or_ge 0 k with hk0 | hk0'
        · have i2 : (0 : Int) < (k : Int) := by omega
          have hn2 : Hid (show4 x = rest (4 - (k + 1)) (k + 1) (y * 256 % 4294967296) ((out ++ [46]) ++ [b1, b2, b3])) := by
            show _ = _
            rw [hnext.out, if_pos hk0, hdec.out]
          clear hk0
          go_wp2
          exact ⟨⟨k + 1, y * 256 % 4294967296, (out ++ [46]) ++ [b1, b2, b3], by omega, by omega, (by simp only [List.length_append, List.length_cons, List.length_nil]; omega), (by first | rfl | (congr 1; omega)), (by first | rfl | (congr 1; apply ByteArray.ext; apply Array.toList_inj.1; simp)), by go_num, ((hbw.alloc (by omega) _).alloc (by simp; omega) _).alloc (by simp; omega) _, hn2.out⟩, by simp [intOf]; omega⟩
        · have hk0 : ¬ 0 < k := by omega
          have i2 : ¬ (0 : Int) < (k : Int) := by omega
          have hn2 : Hid (show4 x = rest (4 - (k + 1)) (k + 1) (y * 256 % 4294967296) (out ++ [b1, b2, b3])) := by
            show _ = _
            rw [hnext.out, if_neg hk0, hdec.out]
          clear hk0 hk0'
          go_wp2
          exact ⟨⟨k + 1, y * 256 % 4294967296, out ++ [b1, b2, b3], by omega, by omega, (by simp only [List.length_append, List.length_cons, List.length_nil]; omega), (by first | rfl | (congr 1; omega)), (by first | rfl | (congr 1; apply ByteArray.ext; apply Array.toList_inj.1; simp)), by go_num, ((hbw.alloc (by omega) _).alloc (by simp; omega) _).alloc (by simp; omega) _, hn2.out⟩, by simp [intOf]; omega⟩
      · have j1 : ¬ (100 : Int) ≤ (d : Int) := by omega
        by_cases h10 : 10 ≤ d
        · have j2 : (10 : Int) ≤ (d : Int) := by omega
          obtain ⟨b2, hb2⟩ : ∃ b : UInt8, b = (48 + d / 10 % 10).toUInt8 := ⟨_, rfl⟩
          have v2 := Lib.hid (byte_nat (48 + d / 10 % 10) (by omega) (48 + (d : Int) / 10 % 10) (by omega))
          rw [← hb2] at v2
          have hdec : Hid (dec d = [b2, b3]) := by
            show _ = _
            unfold dec
            rw [if_neg h100, if_pos h10, hb2, hb3]; rfl
          have c2 := conv1 wr b2 wr.heap.size rfl (48 + (d : Int) / 10 % 10) v2.out
          have c3 := conv1 (wr.alloc (.cells #[.int .u8 (48 + (d : Int) / 10 % 10)] 5)) b3 (wr.heap.size + 1) (by simp) (48 + (d : Int) % 10) v3.out
          clear h100 h10 hb2 hb3 hd
          rcases Nat.lt_or_ge 0 k with hk0 | hk0'
          · have i2 : (0 : Int) < (k : Int) := by omega
            have hn2 : Hid (show4 x = rest (4 - (k + 1)) (k + 1) (y * 256 % 4294967296) ((out ++ [46]) ++ [b2, b3])) := by
              show _ = _
              rw [hnext.out, if_pos hk0, hdec.out]
            clear hk0
            go_wp2
            exact ⟨⟨k + 1, y * 256 % 4294967296, (out ++ [46]) ++ [b2, b3], by omega, by omega, (by simp only [List.length_append, List.length_cons, List.length_nil]; omega), (by first | rfl | (congr 1; omega)), (by first | rfl | (congr 1; apply ByteArray.ext; apply Array.toList_inj.1; simp)), by go_num, (hbw.alloc (by omega) _).alloc (by simp; omega) _, hn2.out⟩, by simp [intOf]; omega⟩
          · have hk0 : ¬ 0 < k := by omega
            have i2 : ¬ (0 : Int) < (k : Int) := by omega
            have hn2 : Hid (show4 x = rest (4 - (k + 1)) (k + 1) (y * 256 % 4294967296) (out ++ [b2, b3])) := by
              show _ = _
              rw [hnext.out, if_neg hk0, hdec.out]
            clear hk0 hk0'
            go_wp2
            exact ⟨⟨k + 1, y * 256 % 4294967296, out ++ [b2, b3], by omega, by omega, (by simp only [List.length_append, List.length_cons, List.length_nil]; omega), (by first | rfl | (congr 1; omega)), (by first | rfl | (congr 1; apply ByteArray.ext; apply Array.toList_inj.1; simp)), by go_num, (hbw.alloc (by omega) _).alloc (by simp; omega) _, hn2.out⟩, by simp [intOf]; omega⟩
        · have j2 : ¬ (10 : Int) ≤ (d : Int) := by omega
          have hdec : Hid (dec d = [b3]) := by
            show _ = _
            unfold dec
            rw [if_neg h100, if_neg h10, hb3]; rfl
          have c3 := conv1 wr b3 wr.heap.size rfl (48 + (d : Int) % 10) v3.out
          clear h100 h10 hb3 hd
          rcases Nat.lt_or_ge 0 k with hk0 | hk0'
          · have i2 : (0 : Int) < (k : Int) := by omega
            have hn2 : Hid (show4 x = rest (4 - (k + 1)) (k + 1) (y * 256 % 4294967296) ((out ++ [46]) ++ [b3])) := by
              show _ = _
              rw [hnext.out, if_pos hk0, hdec.out]
            clear hk0
            go_wp2
            exact ⟨⟨k + 1, y * 256 % 4294967296, (out ++ [46]) ++ [b3], by omega, by omega, (by simp only [List.length_append, List.length_cons, List.length_nil]; omega), (by first | rfl | (congr 1; omega)), (by first | rfl | (congr 1; apply ByteArray.ext; apply Array.toList_inj.1; simp)), by go_num, hbw.alloc (by omega) _, hn2.out⟩, by simp [intOf]; omega⟩
          · have hk0 : ¬ 0 < k := by omega
            have i2 : ¬ (0 : Int) < (k : Int) := by omega
            have hn2 : Hid (show4 x = rest (4 - (k + 1)) (k + 1) (y * 256 % 4294967296) (out ++ [b3])) := by
              show _ = _
              rw [hnext.out, if_neg hk0, hdec.out]
            clear hk0 hk0'
            go_wp2
            exact ⟨⟨k + 1, y * 256 % 4294967296, out ++ [b3], by omega, by omega, (by simp only [List.length_append, List.length_cons, List.length_nil]; omega), (by first | rfl | (congr 1; omega)), (by first | rfl | (congr 1; apply ByteArray.ext; apply Array.toList_inj.1; simp)), by go_num, hbw.alloc (by omega) _, hn2.out⟩, by simp [intOf]; omega⟩
    · have hkk : k = 4 := by omega
      have i1 : ¬ (k : Int) < 4 := by omega
      have hf : Hid (show4 x = out) := by show _ = _; rw [hr.out, hkk]; rfl
      go_wp2
      go_ret
      rw [hf.out]
      exact ⟨rfl, hbw⟩
#print axioms refShow_any
end Go.Proofs.YtmobeppmdakjmaaDoor
