/- Walks: the base of a number's text; has a text none but digits of a base. -/
import Derived.Test.YtmobeppmdakjmaaDoorP0
import Derived.Test.YtmobeppmdakjmaaDoorGA
import Derived.Test.YtmobeppmdakjmaaDoorGB
import Derived.Test.YtmobeppmdakjmaaDoorGC
import Derived.Test.YtmobeppmdakjmaaDoorS1
import Derived.Laws.NewBlocks
import Derived.Maps.AppendAt
namespace Go.Proofs.YtmobeppmdakjmaaDoor
open Go.RowKit

def hexL : List UInt8 := [48, 49, 50, 51, 52, 53, 54, 55, 56, 57, 97, 98, 99, 100, 101, 102, 65, 66, 67, 68, 69, 70]
set_option maxRecDepth 100000 in
theorem digs_16 : ∀ n : Fin 256, hexL.contains n.val.toUInt8 = decide (worth n.val.toUInt8 < 16) := by decide
set_option maxRecDepth 100000 in
theorem digs_10 : ∀ n : Fin 256, (hexL.take 10).contains n.val.toUInt8 = decide (worth n.val.toUInt8 < 10) := by decide
set_option maxRecDepth 100000 in
theorem digs_8 : ∀ n : Fin 256, (hexL.take 8).contains n.val.toUInt8 = decide (worth n.val.toUInt8 < 8) := by decide
theorem u8_fin (c : UInt8) : ∃ n : Fin 256, c = n.val.toUInt8 := ⟨⟨c.toNat, c.toNat_lt⟩, by simp⟩
theorem digsOf_16 (l : List UInt8) : l.all (fun c => hexL.contains c) = digitsB 16 l := by
  unfold digitsB; congr 1; funext c; obtain ⟨n, rfl⟩ := u8_fin c; exact digs_16 n
theorem digsOf_10 (l : List UInt8) : l.all (fun c => (hexL.take 10).contains c) = digitsB 10 l := by
  unfold digitsB; congr 1; funext c; obtain ⟨n, rfl⟩ := u8_fin c; exact digs_10 n
theorem digsOf_8 (l : List UInt8) : l.all (fun c => (hexL.take 8).contains c) = digitsB 8 l := by
  unfold digitsB; congr 1; funext c; obtain ⟨n, rfl⟩ := u8_fin c; exact digs_8 n

/-- Is a rune none of a row's bytes? -/
def notR (D : List UInt8) (x : Nat) : Bool := !hasR D x
theorem decode_low {s : ByteArray} {pos : Nat} (h : pos < s.size) (ha : (s[pos]'h).toNat < 128) : Utf8.decode s pos = ((s[pos]'h).toNat, 1) := by
  simp only [Utf8.decode, get_at s pos h, ha, if_true]
theorem notR_low {D : List UInt8} {c : UInt8} (hc : c.toNat < 128) : notR D c.toNat = !D.contains c := by
  have e : ((c.toNat : Int)).toNat.toUInt8 = c := by simp
  simp only [notR, hasR, e]
  have h1 : decide ((0 : Int) ≤ (c.toNat : Int)) = true := by simp
  have h2 : decide ((c.toNat : Int) < 128) = true := by simp; omega
  rw [h1, h2]; rfl
theorem notR_high {D : List UInt8} {x : Nat} (hx : 128 ≤ x) : notR D x = true := by
  have h2 : decide ((x : Int) < 128) = false := by simp; omega
  simp [notR, hasR, h2]
theorem idx_all (D : List UInt8) (hD : ∀ c ∈ D, c.toNat < 128) (s : ByteArray) : ∀ (f pos : Nat), s.size ≤ pos + f →
    (decide (0 ≤ Lib.idxFuncFrom (notR D) true s f pos)) = !((s.data.toList.drop pos).all fun c => D.contains c)
  | 0, pos, h => by
    rw [List.drop_of_length_le (by simp; omega)]
    simp [Lib.idxFuncFrom]
  | f + 1, pos, h => by
    rw [Lib.idxFuncFrom]
    by_cases hp : pos < s.size
    · rw [if_pos hp, drop_bytes s pos hp, List.all_cons]
      by_cases ha : (s[pos]'hp).toNat < 128
      · rw [decode_low hp ha]
        dsimp only
        rw [notR_low ha]
        cases hc : D.contains (s[pos]'hp) with
        | false =>
          rw [if_pos (by rfl)]
          simp
        | true =>
          rw [if_neg (by decide), idx_all D hD s f (pos + 1) (by omega)]
          simp
      · have hh := (decode_high s pos hp (by omega)).1
        rw [notR_high hh, if_pos rfl]
        have hc : D.contains (s[pos]'hp) = false := by
          rw [Bool.eq_false_iff]
          intro e
          have := hD _ (by simpa using e)
          omega
        rw [hc]
        simp
    · rw [if_neg hp, List.drop_of_length_le (by simp; omega)]
      simp
theorem idx_digits (D : List UInt8) (hD : ∀ c ∈ D, c.toNat < 128) (l : List UInt8) : decide (0 ≤ Lib.idxFunc (notR D) true ⟨l.toArray⟩) = !(l.all fun c => D.contains c) := by
  have := idx_all D hD ⟨l.toArray⟩ (⟨l.toArray⟩ : ByteArray).size 0 (by omega)
  rwa [List.drop_zero] at this

set_option maxHeartbeats 1000000 in
theorem dig_hex (b : Nat) (x : Nat) (w : World) (hc : w.cell? ⟨b, 0, none⟩ = some (.string ⟨#[48, 49, 50, 51, 52, 53, 54, 55, 56, 57, 97, 98, 99, 100, 101, 102, 65, 66, 67, 68, 69, 70]⟩)) :
    Calls Tryd.prog 87 #[.int .i32 x, .pointer (some ⟨b, 0, none⟩)] w fun e w' => e = .returned (.bool (notR hexL x)) ∧ Below w.heap.size w w' := by
  go_enter Tryd.func87, Tryd.ntmps87
  go_wp2_with (go_at_call 88; refine (containsRune_hex _ _).mono ?_; rintro e w' ⟨rfl, hb⟩)
  go_ret
  exact ⟨rfl, hb⟩
set_option maxHeartbeats 1000000 in
theorem dig_ten (b : Nat) (x : Nat) (w : World) (hc : w.cell? ⟨b, 0, none⟩ = some (.string ⟨#[48, 49, 50, 51, 52, 53, 54, 55, 56, 57]⟩)) :
    Calls Tryd.prog 87 #[.int .i32 x, .pointer (some ⟨b, 0, none⟩)] w fun e w' => e = .returned (.bool (notR (hexL.take 10) x)) ∧ Below w.heap.size w w' := by
  go_enter Tryd.func87, Tryd.ntmps87
  go_wp2_with (go_at_call 88; refine (containsRune_ten _ _).mono ?_; rintro e w' ⟨rfl, hb⟩)
  go_ret
  exact ⟨rfl, hb⟩
set_option maxHeartbeats 1000000 in
theorem dig_oct (b : Nat) (x : Nat) (w : World) (hc : w.cell? ⟨b, 0, none⟩ = some (.string ⟨#[48, 49, 50, 51, 52, 53, 54, 55]⟩)) :
    Calls Tryd.prog 87 #[.int .i32 x, .pointer (some ⟨b, 0, none⟩)] w fun e w' => e = .returned (.bool (notR (hexL.take 8) x)) ∧ Below w.heap.size w w' := by
  go_enter Tryd.func87, Tryd.ntmps87
  go_wp2_with (go_at_call 88; refine (containsRune_oct _ _).mono ?_; rintro e w' ⟨rfl, hb⟩)
  go_ret
  exact ⟨rfl, hb⟩

/-- Whether a text has other runes, by the closure. -/
theorem containsFunc_digs (D : List UInt8) (hD : ∀ c ∈ D, c.toNat < 128) (S : ByteArray) (b : Nat) (l : List UInt8) (w : World) (hc : w.cell? ⟨b, 0, none⟩ = some (.string S)) (hb : b < w.heap.size)
    (hp : ∀ (x : Nat) (W : World), W.cell? ⟨b, 0, none⟩ = some (.string S) → Calls Tryd.prog 87 #[.int .i32 x, .pointer (some ⟨b, 0, none⟩)] W fun e w' => e = .returned (.bool (notR D x)) ∧ Below W.heap.size W w') :
    Calls Tryd.prog 86 #[.string ⟨l.toArray⟩, .func (.func 87) #[] #[.pointer (some ⟨b, 0, none⟩)]] w fun e w' => e = .returned (.bool (!(l.all fun c => D.contains c))) ∧ Below w.heap.size w w' := by
  refine (Tryd.strings_ContainsFunc_grows 87 _ (enters_of Tryd.func87 (by kernel_rfl) rfl) (notR D) ⟨l.toArray⟩ w ?_).mono ?_
  · intro W x _ hB
    exact hp x W ((hB.cell (p := ⟨b, 0, none⟩) hb).trans hc)
  · rintro e w' ⟨rfl, hB⟩
    exact ⟨ret_bool (idx_digits D hD l), hB⟩

theorem hexL_asc : ∀ c ∈ hexL, c.toNat < 128 := by decide
set_option maxHeartbeats 1000000 in
theorem digits16_any (l : List UInt8) (w : World) :
    Calls Tryd.prog 47 #[.string ⟨l.toArray⟩, .int .i64 16] w fun e w' => e = .returned (.bool (digitsB 16 l)) ∧ Below w.heap.size w w' := by
  have hd := Lib.hid (digsOf_16 l)
  go_enter Tryd.func47, Tryd.ntmps47
  go_wp2_with fail
  have hcf := containsFunc_digs hexL (fun c hc => hexL_asc c hc) ⟨#[48, 49, 50, 51, 52, 53, 54, 55, 56, 57, 97, 98, 99, 100, 101, 102, 65, 66, 67, 68, 69, 70]⟩ w.heap.size l (w.alloc (.cells #[.string ⟨#[48, 49, 50, 51, 52, 53, 54, 55, 56, 57, 97, 98, 99, 100, 101, 102, 65, 66, 67, 68, 69, 70]⟩] 9)) (by rw [World.cell?_alloc_at _ _ _ _ rfl]; rfl) (by simp) (fun x W h => dig_hex _ x W h)
  refine hcf.mono ?_
  rintro e w1 ⟨rfl, hb⟩
  rw [hd.out]
  go_wp2
  go_ret
  exact ⟨ret_bool (by simp), ((Below.refl _ w).alloc (Nat.le_refl _) _).trans (hb.mono (by simp))⟩
set_option maxHeartbeats 1000000 in
theorem digits10_any (l : List UInt8) (w : World) :
    Calls Tryd.prog 47 #[.string ⟨l.toArray⟩, .int .i64 10] w fun e w' => e = .returned (.bool (digitsB 10 l)) ∧ Below w.heap.size w w' := by
  have hd := Lib.hid (digsOf_10 l)
  go_enter Tryd.func47, Tryd.ntmps47
  go_wp2_with fail
  have hcf := containsFunc_digs (hexL.take 10) (fun c hc => hexL_asc c (List.mem_of_mem_take hc)) ⟨#[48, 49, 50, 51, 52, 53, 54, 55, 56, 57]⟩ w.heap.size l (w.alloc (.cells #[.string ⟨#[48, 49, 50, 51, 52, 53, 54, 55, 56, 57]⟩] 9)) (by rw [World.cell?_alloc_at _ _ _ _ rfl]; rfl) (by simp) (fun x W h => dig_ten _ x W h)
  refine hcf.mono ?_
  rintro e w1 ⟨rfl, hb⟩
  rw [hd.out]
  go_wp2
  go_ret
  exact ⟨ret_bool (by simp), ((Below.refl _ w).alloc (Nat.le_refl _) _).trans (hb.mono (by simp))⟩
set_option maxHeartbeats 1000000 in
theorem digits8_any (l : List UInt8) (w : World) :
    Calls Tryd.prog 47 #[.string ⟨l.toArray⟩, .int .i64 8] w fun e w' => e = .returned (.bool (digitsB 8 l)) ∧ Below w.heap.size w w' := by
  have hd := Lib.hid (digsOf_8 l)
  go_enter Tryd.func47, Tryd.ntmps47
  go_wp2_with fail
  have hcf := containsFunc_digs (hexL.take 8) (fun c hc => hexL_asc c (List.mem_of_mem_take hc)) ⟨#[48, 49, 50, 51, 52, 53, 54, 55]⟩ w.heap.size l (w.alloc (.cells #[.string ⟨#[48, 49, 50, 51, 52, 53, 54, 55]⟩] 9)) (by rw [World.cell?_alloc_at _ _ _ _ rfl]; rfl) (by simp) (fun x W h => dig_oct _ x W h)
  refine hcf.mono ?_
  rintro e w1 ⟨rfl, hb⟩
  rw [hd.out]
  go_wp2
  go_ret
  exact ⟨ret_bool (by simp), ((Below.refl _ w).alloc (Nat.le_refl _) _).trans (hb.mono (by simp))⟩

theorem digits_any (b : Nat) (hb : b = 8 ∨ b = 10 ∨ b = 16) (l : List UInt8) (w : World) :
    Calls Tryd.prog 47 #[.string ⟨l.toArray⟩, .int .i64 b] w fun e w' => e = .returned (.bool (digitsB b l)) ∧ Below w.heap.size w w' := by
  rcases hb with rfl | rfl | rfl
  · exact digits8_any l w
  · exact digits10_any l w
  · exact digits16_any l w
#print axioms digits_any
end Go.Proofs.YtmobeppmdakjmaaDoor
