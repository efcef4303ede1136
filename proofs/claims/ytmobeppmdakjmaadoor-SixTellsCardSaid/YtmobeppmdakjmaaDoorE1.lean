/- Walk: four.Show. -/
import Derived.Test.YtmobeppmdakjmaaDoorC1
import Derived.Lib.AppendIntMem
import Derived.Lib.ItoaMem
import Derived.Lib.VarintBits
namespace Go.Proofs.YtmobeppmdakjmaaDoor
open Go.RowKit

theorem Tryd.info9 : (Tryd.prog.info? 9).map (fun i => (i.zero, i.size, i.bytes)) = some (some (.string ⟨#[]⟩), 1, 16) := by kernel_rfl
theorem dec_itoa (n : Nat) (h : n < 256) : Lib.itoa (n : Int) = dec n := by
  rw [Lib.itoa_nonneg]
  unfold dec
  by_cases h1 : n < 10
  · rw [Lib.decDigits_one h1, if_neg (by omega), if_neg (by omega)]
    have : n % 10 = n := by omega
    rw [this]; rfl
  · by_cases h2 : n < 100
    · rw [Lib.decDigits_two h1 h2, if_neg (by omega), if_pos (by omega)]
      have : n / 10 % 10 = n / 10 := by omega
      rw [this]; rfl
    · rw [Lib.decDigits, dif_neg h1, Lib.decDigits_two (by omega) (by omega), if_pos (by omega), if_pos (by omega)]
      have : n / 10 / 10 = n / 100 := by omega
      rw [this]; rfl
theorem itoa_byte (n : Nat) (h : n < 256) (w : World) (ho : Ok w) :
    Calls Tryd.prog 24 #[.int .i64 (n : Int)] w fun e w' => e = .returned (.string ⟨(dec n).toArray⟩) ∧ Below w.heap.size w w' := by
  refine (Tryd.strconv_Itoa n (by omega) (by omega) w ho.pow).mono ?_
  rintro e w' ⟨rfl, k, os, rfl⟩
  exact ⟨by rw [dec_itoa n h], Lib.below_grow _ w (Nat.le_refl _) k os⟩

theorem itoa_val (v : Int) (n : Nat) (hv : v = (n : Int)) (h : n < 256) (w : World) (ho : Ok w) :
    Calls Tryd.prog 24 #[.int .i64 v] w fun e w' => e = .returned (.string ⟨(dec n).toArray⟩) ∧ Below w.heap.size w w' := by
  subst hv; exact itoa_byte n h w ho
theorem byte_val (y : Nat) (h : y < 4294967296) : wrap64 (bits BinOp.and IntKind.u32 (y : Int) 255) = ((y % 256 : Nat) : Int) := by
  rw [show bits BinOp.and IntKind.u32 (y : Int) 255 = (y : Int) % 256 from bits_mask .u32 32 (by decide) wraps_u32 8 (by decide) (y : Int) (by omega) (by omega)]
  unfold wrap64
  omega
theorem dec_len (n : Nat) : (dec n).length ≤ 3 := by
  unfold dec
  split <;> split <;> simp
/-- An address's four bytes. -/
def quad (x : Nat) : List (List UInt8) := [dec (x / 16777216 % 256), dec (x / 65536 % 256), dec (x / 256 % 256), dec (x % 256)]
set_option maxHeartbeats 2000000 in
set_option maxRecDepth 100000 in
theorem show_any (x : Nat) (hx : x < 4294967296) (w : World) (ho : Ok w) :
    Calls Tryd.prog 19 #[.int .u32 (x : Int)] w fun e w' => e = .returned (.string ⟨(show4 x).toArray⟩) ∧ Below w.heap.size w w' := by
  obtain ⟨i0, hi, hz0, hz1, hz2⟩ := info_parts Tryd.info9
  have Ho := Lib.hid ho
  clear ho
  go_enter Tryd.func19, Tryd.ntmps19
  go_wp2
  go_loopw [3, 4] (fun v i wr => ∃ k : Nat, k ≤ 4 ∧ i = .int .i64 (24 - 8 * (k : Int)) ∧ wr.ownsRow w.heap.size 9 1 v ((quad x).take k).length (strV ((quad x).take k)) ∧ Below w.heap.size w wr) (fun _ i _ => (intOf i + 8).toNat)
  case atStart => exact ⟨0, Nat.zero_le _, rfl, World.ownsRow_nil _ _ _ _, Below.refl _ _⟩
  case round =>
    obtain ⟨k, hk, rfl, hown, hbw⟩ := hrel
    obtain ⟨A', c', rfl, hlc⟩ := own_slice_le hown
    have q : k = 0 ∨ k = 1 ∨ k = 2 ∨ k = 3 ∨ k = 4 := by omega
    have hor := Lib.hid (Ho.out.below hbw)
    have hsz := hbw.size
    rcases q with rfl | rfl | rfl | rfl | rfl
    · have hv : Hid (wrap64 (bits BinOp.and IntKind.u32 ((x : Int) / 16777216) 255) = (((x / 16777216) % 256 : Nat) : Int)) := by
        have := byte_val (x / 16777216) (by omega)
        rwa [Int.natCast_ediv] at this
      go_wp2_with (go_at_call 24; refine (itoa_val _ ((x / 16777216) % 256) hv.out (by omega) wr hor.out).mono ?_)
      rintro e w1 ⟨rfl, hb1⟩
      have hown3 := own_below hown hb1 (Nat.le_refl _)
      have hs1 := hb1.size
      go_wp2_with (at_builtin; refine wpList_append_rd _ rfl _ _ 33 rfl w.heap.size 9 i0 (.string ⟨#[]⟩) 16 Tryd.underlying33 hi hz0 hz1 hz2 rfl (.slice A' 0 c') 0 (strV ((quad x).take 0)) rfl (hown3.alloc _) (w1.heap.size + 1) (some ⟨w1.heap.size, 0, none⟩) 1 [.string ⟨(dec ((x / 16777216) % 256)).toArray⟩] rfl (rd_new w1 [.string ⟨(dec ((x / 16777216) % 256)).toArray⟩] 9) (by simp [Value.oneCell']) (by simp only [maxLen, List.length_cons, List.length_nil]; omega) (by simp only [List.length_cons, List.length_nil]; omega) (by simp; omega) ?_; intro v' w' hown' hg' hat')
      have hbN : Below w.heap.size w w' := ((hbw.trans (hb1.mono hsz)).alloc (by omega) _).grown hg' (by simp; omega) (fun j e => (hown.lt j e).1)
      exact ⟨⟨1, by omega, by simp, hown', hbN⟩, by simp [intOf]⟩
    · have hv : Hid (wrap64 (bits BinOp.and IntKind.u32 ((x : Int) / 65536) 255) = (((x / 65536) % 256 : Nat) : Int)) := by
        have := byte_val (x / 65536) (by omega)
        rwa [Int.natCast_ediv] at this
      go_wp2_with (go_at_call 24; refine (itoa_val _ ((x / 65536) % 256) hv.out (by omega) wr hor.out).mono ?_)
      rintro e w1 ⟨rfl, hb1⟩
      have hown3 := own_below hown hb1 (Nat.le_refl _)
      have hs1 := hb1.size
      go_wp2_with (at_builtin; refine wpList_append_rd _ rfl _ _ 33 rfl w.heap.size 9 i0 (.string ⟨#[]⟩) 16 Tryd.underlying33 hi hz0 hz1 hz2 rfl (.slice A' 1 c') 1 (strV ((quad x).take 1)) rfl (hown3.alloc _) (w1.heap.size + 1) (some ⟨w1.heap.size, 0, none⟩) 1 [.string ⟨(dec ((x / 65536) % 256)).toArray⟩] rfl (rd_new w1 [.string ⟨(dec ((x / 65536) % 256)).toArray⟩] 9) (by simp [Value.oneCell']) (by simp only [maxLen, List.length_cons, List.length_nil]; omega) (by simp only [List.length_cons, List.length_nil]; omega) (by simp; omega) ?_; intro v' w' hown' hg' hat')
      have hbN : Below w.heap.size w w' := ((hbw.trans (hb1.mono hsz)).alloc (by omega) _).grown hg' (by simp; omega) (fun j e => (hown.lt j e).1)
      exact ⟨⟨2, by omega, by simp, hown', hbN⟩, by simp [intOf]⟩
    · have hv : Hid (wrap64 (bits BinOp.and IntKind.u32 ((x : Int) / 256) 255) = (((x / 256) % 256 : Nat) : Int)) := by
        have := byte_val (x / 256) (by omega)
        rwa [Int.natCast_ediv] at this
      go_wp2_with (go_at_call 24; refine (itoa_val _ ((x / 256) % 256) hv.out (by omega) wr hor.out).mono ?_)
      rintro e w1 ⟨rfl, hb1⟩
      have hown3 := own_below hown hb1 (Nat.le_refl _)
      have hs1 := hb1.size
      go_wp2_with (at_builtin; refine wpList_append_rd _ rfl _ _ 33 rfl w.heap.size 9 i0 (.string ⟨#[]⟩) 16 Tryd.underlying33 hi hz0 hz1 hz2 rfl (.slice A' 2 c') 2 (strV ((quad x).take 2)) rfl (hown3.alloc _) (w1.heap.size + 1) (some ⟨w1.heap.size, 0, none⟩) 1 [.string ⟨(dec ((x / 256) % 256)).toArray⟩] rfl (rd_new w1 [.string ⟨(dec ((x / 256) % 256)).toArray⟩] 9) (by simp [Value.oneCell']) (by simp only [maxLen, List.length_cons, List.length_nil]; omega) (by simp only [List.length_cons, List.length_nil]; omega) (by simp; omega) ?_; intro v' w' hown' hg' hat')
      have hbN : Below w.heap.size w w' := ((hbw.trans (hb1.mono hsz)).alloc (by omega) _).grown hg' (by simp; omega) (fun j e => (hown.lt j e).1)
      exact ⟨⟨3, by omega, by simp, hown', hbN⟩, by simp [intOf]⟩
    · have hv : Hid (wrap64 (bits BinOp.and IntKind.u32 (x : Int) 255) = (((x) % 256 : Nat) : Int)) := by
        have := byte_val (x) (by omega)
        rwa [] at this
      go_wp2_with (go_at_call 24; refine (itoa_val _ ((x) % 256) hv.out (by omega) wr hor.out).mono ?_)
      rintro e w1 ⟨rfl, hb1⟩
      have hown3 := own_below hown hb1 (Nat.le_refl _)
      have hs1 := hb1.size
      go_wp2_with (at_builtin; refine wpList_append_rd _ rfl _ _ 33 rfl w.heap.size 9 i0 (.string ⟨#[]⟩) 16 Tryd.underlying33 hi hz0 hz1 hz2 rfl (.slice A' 3 c') 3 (strV ((quad x).take 3)) rfl (hown3.alloc _) (w1.heap.size + 1) (some ⟨w1.heap.size, 0, none⟩) 1 [.string ⟨(dec ((x) % 256)).toArray⟩] rfl (rd_new w1 [.string ⟨(dec ((x) % 256)).toArray⟩] 9) (by simp [Value.oneCell']) (by simp only [maxLen, List.length_cons, List.length_nil]; omega) (by simp only [List.length_cons, List.length_nil]; omega) (by simp; omega) ?_; intro v' w' hown' hg' hat')
      have hbN : Below w.heap.size w w' := ((hbw.trans (hb1.mono hsz)).alloc (by omega) _).grown hg' (by simp; omega) (fun j e => (hown.lt j e).1)
      exact ⟨⟨4, by omega, by simp, hown', hbN⟩, by simp [intOf]⟩
    · have hrd := Lib.hid (Rd.of_own hown)
      obtain ⟨b, off, rfl, hb, _⟩ := hrd.out 0 _ (strV_get (List.getElem?_eq_getElem (show 0 < ((quad x).take 4).length from by simp [quad])))
      have hJ := Lib.hid (Tryd.strings_Join b off c' (((quad x).take 4).map fun l => (⟨l.toArray⟩ : ByteArray)) ⟨#[46]⟩ wr (fun j y hy => by
        rw [List.getElem?_map, Option.map_eq_some_iff] at hy
        obtain ⟨l, hl, rfl⟩ := hy
        exact hrd.out.cell (strV_get hl)) hb (by simp [quad]) (by simp [quad] at hlc ⊢; exact hlc) (by
        have h1 := dec_len (x / 16777216 % 256)
        have h2 := dec_len (x / 65536 % 256)
        have h3 := dec_len (x / 256 % 256)
        have h4 := dec_len (x % 256)
        simp [quad, Lib.join]
        omega))
      go_wp2_with (go_at_call 26; refine hJ.out.mono ?_; rintro e w' ⟨rfl, hb'⟩)
      go_ret
      exact ⟨rfl, hbw.trans (hb'.mono hsz)⟩
#print axioms show_any
end Go.Proofs.YtmobeppmdakjmaaDoor
