/- Walk: the reference's Parts. -/
import Derived.Test.YtmobeppmdakjmaaDoorE1
import Derived.Test.YtmobeppmdakjmaaDoorE3
namespace Go.Proofs.YtmobeppmdakjmaaDoor
open Go.RowKit

/-- The piece of a text from st up to k. -/
def seg (s : List UInt8) (st k : Nat) : List UInt8 := (s.drop st).take (k - st)
theorem ext_seg (s : List UInt8) (st k : Nat) : (⟨s.toArray⟩ : ByteArray).extract st k = ⟨(seg s st k).toArray⟩ := by
  apply ByteArray.ext
  rw [ByteArray.data_extract]
  apply Array.toList_inj.1
  simp [seg]
theorem seg_len (s : List UInt8) (st k : Nat) : (seg s st k).length ≤ s.length := by unfold seg; simp; omega
theorem seg_self (s : List UInt8) (k : Nat) : seg s k k = [] := by simp [seg]
theorem seg_snoc {s : List UInt8} {st k : Nat} (h : k < s.length) (hst : st ≤ k) : seg s st (k + 1) = seg s st k ++ [s[k]] := by
  unfold seg
  have e : k + 1 - st = (k - st) + 1 := by omega
  rw [e, List.take_add_one, List.getElem?_drop]
  have e2 : st + (k - st) = k := by omega
  rw [e2, List.getElem?_eq_getElem h]; rfl
/-- What stands when k bytes have been seen: the pieces done, where the next begins. -/
def Cut (s : List UInt8) (L : List (List UInt8)) (st k : Nat) : Prop :=
  (k ≤ s.length ∧ st ≤ k ∧ splitD [] s = L ++ splitD (seg s st k) (s.drop k)) ∨ (k = s.length + 1 ∧ splitD [] s = L)
theorem cut_hit {s : List UInt8} {L : List (List UInt8)} {st k : Nat} (h : Cut s L st k) (hk : k < s.length) (hc : s[k] = 46) : Cut s (L ++ [seg s st k]) (k + 1) (k + 1) := by
  rcases h with ⟨_, _, h⟩ | ⟨h, _⟩
  · left
    refine ⟨by omega, Nat.le_refl _, ?_⟩
    rw [h, List.drop_eq_getElem_cons hk, hc, splitD, if_pos rfl, seg_self]
    simp
  · omega
theorem cut_miss {s : List UInt8} {L : List (List UInt8)} {st k : Nat} (h : Cut s L st k) (hk : k < s.length) (hc : s[k] ≠ 46) : Cut s L st (k + 1) := by
  rcases h with ⟨_, hst, h⟩ | ⟨h, _⟩
  · left
    refine ⟨by omega, by omega, ?_⟩
    rw [h, List.drop_eq_getElem_cons hk, splitD, if_neg hc, seg_snoc hk hst]
  · omega
theorem cut_end {s : List UInt8} {L : List (List UInt8)} {st k : Nat} (h : Cut s L st k) (hk : k = s.length) : Cut s (L ++ [seg s st k]) (k + 1) (k + 1) := by
  rcases h with ⟨_, _, h⟩ | ⟨h, _⟩
  · right
    refine ⟨by omega, ?_⟩
    rw [h, List.drop_of_length_le (by omega)]; rfl
  · omega
theorem cut_st {s : List UInt8} {L : List (List UInt8)} {st k : Nat} (h : Cut s L st k) (hk : k ≤ s.length) : st ≤ k := by
  rcases h with ⟨_, h, _⟩ | ⟨h, _⟩
  · exact h
  · omega
theorem cut_len {s : List UInt8} {L : List (List UInt8)} {st k : Nat} (h : Cut s L st k) : L.length ≤ s.length + 1 := by
  have hlen : (splitD [] s).length ≤ s.length + 1 := by rw [← splitC_46]; exact splitC_len 46 s []
  rcases h with ⟨_, _, h⟩ | ⟨_, h⟩
  · rw [h, List.length_append] at hlen; omega
  · rw [h] at hlen; exact hlen

set_option maxHeartbeats 2000000 in
set_option maxRecDepth 100000 in
theorem refParts_any (s : List UInt8) (hl : s.length ≤ 1000000) (w : World) : Calls Tryd.prog 53 #[.string ⟨s.toArray⟩] w (MadeR (parts4 s) w) := by
  obtain ⟨i0, hi, hz0, hz1, hz2⟩ := info_parts Tryd.info9
  have hsz := size_str s
  go_enter Tryd.func53, Tryd.ntmps53
  go_wp2
  go_loopw [3, 4, 5] (fun v a i wr => ∃ (k st : Nat) (L : List (List UInt8)), k ≤ s.length + 1 ∧ i = .int .i64 (k : Int) ∧ a = .int .i64 (st : Int) ∧ wr.ownsRow w.heap.size 9 1 v L.length (strV L) ∧ Below w.heap.size w wr ∧ Hid (Cut s L st k)) (fun _ _ i _ => s.length + 1 - (intOf i).toNat)
  case atStart => exact ⟨0, 0, [], Nat.zero_le _, rfl, rfl, World.ownsRow_nil _ _ _ _, Below.refl _ _, .inl ⟨Nat.zero_le _, Nat.le_refl _, by simp [seg]⟩⟩
  case round =>
    obtain ⟨k, st, L, hk, rfl, rfl, hown, hbw, hcut⟩ := hrel
    obtain ⟨A', c', rfl, hlc⟩ := own_slice_le hown
    have hsb := hbw.size
    have hLl := cut_len hcut.out
    have hes := ext_seg s st k
    have happ := Lib.hid (fun (W : World) (v' : Value) (w' : World) (hW : W = wr) (hown' : w'.ownsRow w.heap.size 9 1 v' (L.length + 1) (strV L ++ [.string ⟨(seg s st k).toArray⟩])) (hg : (W.alloc (.cells #[.string ⟨(seg s st k).toArray⟩] 9)).grownBy w' (Value.slice A' L.length c').ownBlock) =>
      (show w'.ownsRow w.heap.size 9 1 v' (L ++ [seg s st k]).length (strV (L ++ [seg s st k])) ∧ Below w.heap.size w w' from
        ⟨by rw [strV_append, List.length_append]; exact hown', by subst hW; exact (hbw.alloc (by omega) _).grown hg (by simp; omega) (fun j e => (hown.lt j e).1)⟩))
    by_cases hlt : k < s.length
    · have f1 : (k : Int) ≤ (s.length : Int) := by omega
      have f2 : ((k : Int) == (s.length : Int)) = false := by rw [beq_eq_false_iff_ne]; omega
      have hst : st ≤ k := cut_st hcut.out (by omega)
      have hgb : (⟨s.toArray⟩ : ByteArray)[k]'(by rw [hsz]; exact hlt) = s[k] := rfl
      by_cases hc : s[k] = 46
      · have hn := Lib.hid (cut_hit hcut.out hlt hc)
        have f3 : ((((⟨s.toArray⟩ : ByteArray)[k]'(by rw [hsz]; exact hlt)).toNat : Int) == 46) = true := by rw [hgb, hc]; rfl
        clear hc hgb
        go_wp2_with (at_builtin; refine wpList_append_rd _ rfl _ _ 33 rfl w.heap.size 9 i0 (.string ⟨#[]⟩) 16 Tryd.underlying33 hi hz0 hz1 hz2 rfl (.slice A' L.length c') L.length (strV L) rfl (hown.alloc _) (wr.heap.size + 1) (some ⟨wr.heap.size, 0, none⟩) 1 [.string ⟨(seg s st k).toArray⟩] rfl (rd_new wr [.string ⟨(seg s st k).toArray⟩] 9) (by simp [Value.oneCell']) (by simp only [maxLen, List.length_cons, List.length_nil]; omega) (by simp only [List.length_cons, List.length_nil]; omega) (by simp; omega) ?_; intro v' w' hown' hg' hat')
        obtain ⟨h1, h2⟩ := happ.out _ _ _ rfl hown' hg'
        exact ⟨⟨k + 1, k + 1, _, by omega, by go_num, by go_num, h1, h2, hn.out⟩, by simp [intOf]; omega⟩
      · have hn := Lib.hid (cut_miss hcut.out hlt hc)
        have f3 : ((((⟨s.toArray⟩ : ByteArray)[k]'(by rw [hsz]; exact hlt)).toNat : Int) == 46) = false := by rw [hgb]; exact byte_ne (d := 46) hc
        clear hc hgb
        go_wp2
        exact ⟨⟨k + 1, st, L, by omega, by go_num, rfl, hown, hbw, hn.out⟩, by simp [intOf]; omega⟩
    · by_cases hke : k = s.length
      · have hst : st ≤ k := cut_st hcut.out (by omega)
        have hn := Lib.hid (cut_end hcut.out hke)
        have f1 : (k : Int) ≤ (s.length : Int) := by omega
        have f2 : ((k : Int) == (s.length : Int)) = true := by rw [beq_iff_eq]; omega
        clear hke
        go_wp2_with (at_builtin; refine wpList_append_rd _ rfl _ _ 33 rfl w.heap.size 9 i0 (.string ⟨#[]⟩) 16 Tryd.underlying33 hi hz0 hz1 hz2 rfl (.slice A' L.length c') L.length (strV L) rfl (hown.alloc _) (wr.heap.size + 1) (some ⟨wr.heap.size, 0, none⟩) 1 [.string ⟨(seg s st k).toArray⟩] rfl (rd_new wr [.string ⟨(seg s st k).toArray⟩] 9) (by simp [Value.oneCell']) (by simp only [maxLen, List.length_cons, List.length_nil]; omega) (by simp only [List.length_cons, List.length_nil]; omega) (by simp; omega) ?_; intro v' w' hown' hg' hat')
        obtain ⟨h1, h2⟩ := happ.out _ _ _ rfl hown' hg'
        exact ⟨⟨k + 1, k + 1, _, by omega, by go_num, by go_num, h1, h2, hn.out⟩, by simp [intOf]; omega⟩
      · have hkk : k = s.length + 1 := by omega
        have hP : splitD [] s = L := by
          rcases hcut.out with ⟨h, _⟩ | ⟨_, h⟩
          · omega
          · exact h
        have f1 : ¬ (k : Int) ≤ (s.length : Int) := by omega
        have hne : L ≠ [] := by rw [← hP, ← splitC_46]; exact splitC_ne 46 s []
        have hrd := Lib.hid (Rd.of_own hown)
        have hp : 0 < L.length := List.length_pos_iff.2 hne
        by_cases h1 : L.length = 1
        · have he : Hid (parts4 s = L) := by show _ = _; rw [parts4_one (by rw [hP]; exact h1), hP]
          have f4 : ¬ (1 : Int) < (L.length : Int) := by omega
          clear hne h1 happ hlt hke
          go_wp2
          go_ret
          rw [he.out]
          exact ⟨_, _, rfl, hrd.out, hlc, hbw⟩
        have f4 : (1 : Int) < (L.length : Int) := by omega
        have hk1 : L.length - 1 < L.length := by omega
        obtain ⟨b, off, rfl, hb, hcell⟩ := hrd.out (L.length - 1) _ (strV_get (List.getElem?_eq_getElem hk1))
        have hlast : L.getLast? = some L[L.length - 1] := by rw [List.getLast?_eq_getElem?, List.getElem?_eq_getElem hk1]
        by_cases h0 : L[L.length - 1] = []
        · have f5 : (L[L.length - 1] == ([] : List UInt8)) = true := by rw [h0]; rfl
          have he : Hid (parts4 s = L.dropLast) := by show _ = _; rw [parts4_drop (by rw [hP]; omega) (by rw [hP, hlast, h0]), hP]
          have hd : Hid (L.dropLast.length = L.length - 1) := List.length_dropLast
          have hrt : Hid (Rd wr wr.heap.size (some ⟨b, off, none⟩) (strV L.dropLast)) := by
            have := hrd.out.take (L.length - 1)
            rw [strV, ← List.map_take] at this
            show Rd _ _ _ _
            rw [List.dropLast_eq_take]
            exact this
          clear hne h1 happ hlt hke h0 hlast
          go_wp2
          go_ret
          rw [he.out]
          exact ⟨_, _, by rw [hd.out]; rfl, hrt.out, by rw [hd.out]; omega, hbw⟩
        · have f5 : (L[L.length - 1] == ([] : List UInt8)) = false := by rw [beq_eq_false_iff_ne]; exact h0
          have he : Hid (parts4 s = L) := by show _ = _; rw [parts4_all (by rw [hP, hlast]; intro e; injection e with e; exact h0 e), hP]
          clear hne h1 happ hlt hke h0 hlast
          go_wp2
          go_ret
          rw [he.out]
          exact ⟨_, _, rfl, hrd.out, hlc, hbw⟩
#print axioms refParts_any
end Go.Proofs.YtmobeppmdakjmaaDoor
