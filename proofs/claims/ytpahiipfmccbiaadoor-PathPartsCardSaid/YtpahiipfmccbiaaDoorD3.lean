/- Walks: the law PathParts, where both are short: is it a backslash: false; is the scheme special: true. (Printed by parts.py.) -/
import Derived.Test.YtpahiipfmccbiaaDoorC3
namespace Go.Proofs.YtpahiipfmccbiaaDoor
open Go.RowKit

set_option maxHeartbeats 2000000 in
set_option maxRecDepth 100000 in
theorem parts_main_D3 (u : UInt8) (name : List UInt8) (hname : nameAt u name) (hsp : special name = true) (hx : (name == [120]) = !true) (hnl : name.length ≤ 1048576)
    (a b : List Int) (A A' : Option Addr) (c c' : Nat) (w : World) (hm : Mx 0 w) (hA : Rd w w.heap.size A (runV a)) (hA' : Rd w w.heap.size A' (runV b)) (ha : a.length ≤ 150) (hb : b.length ≤ 150) (hc : a.length ≤ c) (hc' : b.length ≤ c') :
    Calls Tryd.prog 3 #[.int .u8 u.toNat, .slice A a.length c, .slice A' b.length c', .bool false] w fun e w' => e = .returned (.bool true) ∧ Below w.heap.size w w' := by
  unfold nameAt at hname
  have f1 : (name == [120]) = !true := hx
  rw [Bool.not_true] at f1
  have Hsp := Lib.hid hsp
  clear hsp hx
  have HA := Lib.hid hA
  have HA' := Lib.hid hA'
  have Hm := Lib.hid hm
  clear hA hA' hm
  go_enter Tryd.func3, Tryd.ntmps3
  go_wp2_with fail
  go_loop [39, 11] (fun i at_ => ∃ k p : Nat, k ≤ a.length ∧ i = .int .i64 k ∧ at_ = .int .i64 p ∧ p ≤ k ∧ Hid (tailP true [] (a.take k) = (a.take k).drop p)) (fun i _ => a.length - (intOf i).toNat)
  case atStart => exact ⟨0, 0, Nat.zero_le _, rfl, rfl, Nat.le_refl _, rfl⟩
  case round =>
    obtain ⟨k, p, hk, rfl, rfl, hp, htl⟩ := hrel
    by_cases hlt : k < a.length
    · obtain ⟨bb, off, rfl, _, hcell⟩ := HA.out k _ (runV_get (List.getElem?_eq_getElem hlt))
      have hcell2 : ∀ o : Obj, (w.alloc o).cell? ⟨bb, off + k, none⟩ = some (.int .i32 a[k]) := fun o => (HA.out.alloc (Nat.le_refl _) o).cell (runV_get (List.getElem?_eq_getElem hlt))
      have hcell3 := hcell2 (Obj.cells #[Value.string { data := #[104, 116, 116, 112] }, Value.string { data := #[102, 105, 108, 101] }, Value.string { data := #[120] }] 9)
      clear hcell2 hcell
      by_cases h47 : a[k] = 47
      · have f47 : (a[k] == (47 : Int)) = true := by simp [h47]
        have Hs : Hid (isSep true a[k] = true) := by show _ = _; simp [isSep, h47]
        clear h47
        go_wp2
        exact ⟨⟨k + 1, k + 1, by omega, by go_num, by go_num, Nat.le_refl _, tail_sep hlt Hs.out⟩, by simp [intOf]; omega⟩
      · have f47 : (a[k] == (47 : Int)) = false := by simpa using h47
        by_cases h92 : a[k] = 92
        · have f92 : (a[k] == (92 : Int)) = true := by simp [h92]
          have Hs : Hid (isSep true a[k] = true) := by show _ = _; simp [isSep, h92]
          clear h47 h92
          go_wp2
          exact ⟨⟨k + 1, k + 1, by omega, by go_num, by go_num, Nat.le_refl _, tail_sep hlt Hs.out⟩, by simp [intOf]; omega⟩
        · have f92 : (a[k] == (92 : Int)) = false := by simpa using h92
          have Hs : Hid (isSep true a[k] = false) := by show _ = _; simp [isSep, h47, h92]
          clear h47 h92
          go_wp2
          exact ⟨⟨k + 1, p, by omega, by go_num, rfl, by omega, tail_go hlt Hs.out hp htl.out⟩, by simp [intOf]; omega⟩
    · have hka : k = a.length := by omega
      have htl2 : Hid (tailP true [] a = a.drop p) := by have := htl.out; rw [hka, List.take_length] at this; exact this
      clear htl
      obtain ⟨w0, hw0⟩ : ∃ w0, w0 = w.alloc (Obj.cells #[Value.string { data := #[104, 116, 116, 112] }, Value.string { data := #[102, 105, 108, 101] }, Value.string { data := #[120] }] 9) := ⟨_, rfl⟩
      have hb0 : Below w.heap.size w w0 := by rw [hw0]; exact (Below.refl _ w).alloc (Nat.le_refl _) _
      by_cases hcp : c = p
      · subst hcp
        have henc := calls_later (encode_drop0 A a c w0 w.heap.size hb0.size (by omega)) hb0
        rw [hw0] at henc
        have Henc := Lib.hid henc
        clear henc hw0 hb0
        have hel := enc_le (a.drop c)
        have hdl : (a.drop c).length ≤ 150 := by rw [List.length_drop]; omega
        by_cases hs1 : single (enc (a.drop c)) = true
        · have Hs1 := Lib.hid hs1
          clear hs1
          go_wp2_with (first | (go_at_call 9; refine Henc.out.mono ?_; rintro e w1 ⟨rfl, hb1⟩) | (go_at_call 10; refine (calls_later (single_is _ true Hs1.out w1 (by omega) (Hm.out.below hb1)) hb1).mono ?_; rintro e w2 ⟨rfl, hb2⟩) | (go_at_call 8; refine (calls_later (awake_any w2 (Hm.out.below hb2)) hb2).mono ?_; rintro e w3 ⟨rfl, hb3⟩))
          go_ret
          exact ⟨rfl, hb3⟩
        · have Hs1 : Hid (single (enc (a.drop c)) = false) := by show _ = _; simpa using hs1
          clear hs1
          by_cases hd1 : double (enc (a.drop c)) = true
          · have Hd1 := Lib.hid hd1
            clear hd1
            go_wp2_with (first | (go_at_call 9; refine Henc.out.mono ?_; rintro e w1 ⟨rfl, hb1⟩) | (go_at_call 10; refine (calls_later (single_is _ false Hs1.out w1 (by omega) (Hm.out.below hb1)) hb1).mono ?_; rintro e w2 ⟨rfl, hb2⟩) | (go_at_call 11; refine (calls_later (double_is _ true Hd1.out w2 (by omega) (Hm.out.below hb2)) hb2).mono ?_; rintro e w3 ⟨rfl, hb3⟩) | (go_at_call 8; refine (calls_later (awake_any w3 (Hm.out.below hb3)) hb3).mono ?_; rintro e w4 ⟨rfl, hb4⟩))
            go_ret
            exact ⟨rfl, hb4⟩
          · have Hd1 : Hid (double (enc (a.drop c)) = false) := by show _ = _; simpa using hd1
            clear hd1
            go_wp2_with (first | (go_at_call 9; refine Henc.out.mono ?_; rintro e w1 ⟨rfl, hb1⟩) | (go_at_call 10; refine (calls_later (single_is _ false Hs1.out w1 (by omega) (Hm.out.below hb1)) hb1).mono ?_; rintro e w2 ⟨rfl, hb2⟩) | (go_at_call 11; refine (calls_later (double_is _ false Hd1.out w2 (by omega) (Hm.out.below hb2)) hb2).mono ?_; rintro e w3 ⟨rfl, hb3⟩) | (at_builtin; refine wpList_append_runs rfl _ _ rfl w.heap.size _ [] rfl (World.ownsRow_lit w3 #[] 0 hb3.size (by decide) rfl) w.heap.size A c a rfl (HA.out.below (hb3.alloc hb3.size _)) (by simp; omega) (hb3.alloc hb3.size _).size ?_; intro v4 w4 hown4 hb4'; have hb4 := (hb3.alloc hb3.size _).trans hb4') | (at_builtin; refine wpList_append_runs rfl _ _ rfl w.heap.size _ ([] ++ a) rfl (hown4.alloc _) (w4.heap.size + 1) (some ⟨w4.heap.size, 0, none⟩) 1 [47] rfl (rd_new w4 [.int .i32 47] 21) (by simp; omega) (hb4.alloc hb4.size _).size ?_; intro v5 w5 hown5 hb5'; have hb5 := (hb4.alloc hb4.size _).trans hb5') | (at_builtin; refine wpList_append_runs rfl _ _ rfl w.heap.size _ ([] ++ a ++ [47]) rfl hown5 w.heap.size A' c' b rfl (HA'.out.below hb5) (by simp; omega) hb5.size ?_; intro v6 w6 hown6 hb6'; have hb6 := hb5.trans hb6'))
            obtain ⟨both, hbo⟩ : ∃ both, both = [] ++ a ++ [47] ++ b := ⟨_, rfl⟩
            rw [← hbo] at hown6
            obtain ⟨A6, c6, rfl, hc6⟩ := own_slice_le hown6
            have hbl : both.length ≤ 301 := by rw [hbo]; simp; omega
            have heq : walk name [] both = walk name (walk name [] a) b := by
              have h1 : single (enc (tailP (special name) [] a)) = false := by rw [Hsp.out, htl2.out]; exact Hs1.out
              have h2 : double (enc (tailP (special name) [] a)) = false := by rw [Hsp.out, htl2.out]; exact Hd1.out
              rw [hbo, ← walk_split name 47 (by rw [Hsp.out]; decide) a b h1 h2]
              simp
            have hwl := walk_len name [] a
            simp only [List.length_nil] at hwl
            have hwm := walkGo_mem name (special name) 1800 (by omega) a [] [] (by simp) (by have := enc_le a; have : (enc []).length = 0 := rfl; omega)
            have hwl2 := walk_len name [] both
            simp only [List.length_nil] at hwl2
            have Hwm : Hid (∀ s ∈ walk name [] a, s.length ≤ 1800) := hwm
            have Heq := Lib.hid heq
            clear hbo heq hwm Henc
            have hT6 := Rd.of_own hown6
            refine (walk_from name [] none 0 A c a hb6 (Rd.nil _ _ _) ((HA.out.below hb6).more hb6.size) (by simp) (by omega) hc hnl (by simp) Hm.out).mono ?_
            rintro e w7 ⟨A7, c7, rfl, hown7, hb7, hb76⟩
            have hT7 := hT6.below hb76
            go_wp2_with fail
            refine (walk_from name (walk name [] a) A7 c7 A' c' b hb7 (Rd.of_own hown7) ((HA'.out.below hb7).more hb7.size) (by omega) (by omega) hc' hnl (fun s h => by have := Hwm.out s h; omega) Hm.out).mono ?_
            rintro e w8 ⟨A8, c8, rfl, hown8, hb8, hb87⟩
            have hT8 := (hT7.more hb76.size).below hb87
            go_wp2_with fail
            refine (walk_from name [] none 0 A6 c6 both hb8 (Rd.nil _ _ _) (hT8.more hb87.size) (by simp) (by omega) hc6 hnl (by simp) Hm.out).mono ?_
            rintro e w9 ⟨A9, c9, rfl, hown9, hb9, hb98⟩
            go_wp2_with fail
            refine (texts_same A9 A8 c9 c8 _ _ Heq.out hb9 (Rd.of_own hown9) (((Rd.of_own hown8).below hb98).more hb98.size) (by omega)).mono ?_
            rintro e w10 ⟨rfl, hb10⟩
            go_wp2_with fail
            refine (calls_later (awake_any w10 (Hm.out.below hb10)) hb10).mono ?_
            rintro e w11 ⟨rfl, hb11⟩
            go_wp2
            go_ret
            exact ⟨rfl, hb11⟩
      · have henc := calls_later (encode_drop A c a p w0 w.heap.size (HA.out.below hb0) hb0.size (by omega) hc hcp) hb0
        rw [hw0] at henc
        have Henc := Lib.hid henc
        clear henc hw0 hb0
        have hel := enc_le (a.drop p)
        have hdl : (a.drop p).length ≤ 150 := by rw [List.length_drop]; omega
        by_cases hs1 : single (enc (a.drop p)) = true
        · have Hs1 := Lib.hid hs1
          clear hs1
          go_wp2_with (first | (go_at_call 9; refine Henc.out.mono ?_; rintro e w1 ⟨rfl, hb1⟩) | (go_at_call 10; refine (calls_later (single_is _ true Hs1.out w1 (by omega) (Hm.out.below hb1)) hb1).mono ?_; rintro e w2 ⟨rfl, hb2⟩) | (go_at_call 8; refine (calls_later (awake_any w2 (Hm.out.below hb2)) hb2).mono ?_; rintro e w3 ⟨rfl, hb3⟩))
          go_ret
          exact ⟨rfl, hb3⟩
        · have Hs1 : Hid (single (enc (a.drop p)) = false) := by show _ = _; simpa using hs1
          clear hs1
          by_cases hd1 : double (enc (a.drop p)) = true
          · have Hd1 := Lib.hid hd1
            clear hd1
            go_wp2_with (first | (go_at_call 9; refine Henc.out.mono ?_; rintro e w1 ⟨rfl, hb1⟩) | (go_at_call 10; refine (calls_later (single_is _ false Hs1.out w1 (by omega) (Hm.out.below hb1)) hb1).mono ?_; rintro e w2 ⟨rfl, hb2⟩) | (go_at_call 11; refine (calls_later (double_is _ true Hd1.out w2 (by omega) (Hm.out.below hb2)) hb2).mono ?_; rintro e w3 ⟨rfl, hb3⟩) | (go_at_call 8; refine (calls_later (awake_any w3 (Hm.out.below hb3)) hb3).mono ?_; rintro e w4 ⟨rfl, hb4⟩))
            go_ret
            exact ⟨rfl, hb4⟩
          · have Hd1 : Hid (double (enc (a.drop p)) = false) := by show _ = _; simpa using hd1
            clear hd1
            go_wp2_with (first | (go_at_call 9; refine Henc.out.mono ?_; rintro e w1 ⟨rfl, hb1⟩) | (go_at_call 10; refine (calls_later (single_is _ false Hs1.out w1 (by omega) (Hm.out.below hb1)) hb1).mono ?_; rintro e w2 ⟨rfl, hb2⟩) | (go_at_call 11; refine (calls_later (double_is _ false Hd1.out w2 (by omega) (Hm.out.below hb2)) hb2).mono ?_; rintro e w3 ⟨rfl, hb3⟩) | (at_builtin; refine wpList_append_runs rfl _ _ rfl w.heap.size _ [] rfl (World.ownsRow_lit w3 #[] 0 hb3.size (by decide) rfl) w.heap.size A c a rfl (HA.out.below (hb3.alloc hb3.size _)) (by simp; omega) (hb3.alloc hb3.size _).size ?_; intro v4 w4 hown4 hb4'; have hb4 := (hb3.alloc hb3.size _).trans hb4') | (at_builtin; refine wpList_append_runs rfl _ _ rfl w.heap.size _ ([] ++ a) rfl (hown4.alloc _) (w4.heap.size + 1) (some ⟨w4.heap.size, 0, none⟩) 1 [47] rfl (rd_new w4 [.int .i32 47] 21) (by simp; omega) (hb4.alloc hb4.size _).size ?_; intro v5 w5 hown5 hb5'; have hb5 := (hb4.alloc hb4.size _).trans hb5') | (at_builtin; refine wpList_append_runs rfl _ _ rfl w.heap.size _ ([] ++ a ++ [47]) rfl hown5 w.heap.size A' c' b rfl (HA'.out.below hb5) (by simp; omega) hb5.size ?_; intro v6 w6 hown6 hb6'; have hb6 := hb5.trans hb6'))
            obtain ⟨both, hbo⟩ : ∃ both, both = [] ++ a ++ [47] ++ b := ⟨_, rfl⟩
            rw [← hbo] at hown6
            obtain ⟨A6, c6, rfl, hc6⟩ := own_slice_le hown6
            have hbl : both.length ≤ 301 := by rw [hbo]; simp; omega
            have heq : walk name [] both = walk name (walk name [] a) b := by
              have h1 : single (enc (tailP (special name) [] a)) = false := by rw [Hsp.out, htl2.out]; exact Hs1.out
              have h2 : double (enc (tailP (special name) [] a)) = false := by rw [Hsp.out, htl2.out]; exact Hd1.out
              rw [hbo, ← walk_split name 47 (by rw [Hsp.out]; decide) a b h1 h2]
              simp
            have hwl := walk_len name [] a
            simp only [List.length_nil] at hwl
            have hwm := walkGo_mem name (special name) 1800 (by omega) a [] [] (by simp) (by have := enc_le a; have : (enc []).length = 0 := rfl; omega)
            have hwl2 := walk_len name [] both
            simp only [List.length_nil] at hwl2
            have Hwm : Hid (∀ s ∈ walk name [] a, s.length ≤ 1800) := hwm
            have Heq := Lib.hid heq
            clear hbo heq hwm Henc
            have hT6 := Rd.of_own hown6
            refine (walk_from name [] none 0 A c a hb6 (Rd.nil _ _ _) ((HA.out.below hb6).more hb6.size) (by simp) (by omega) hc hnl (by simp) Hm.out).mono ?_
            rintro e w7 ⟨A7, c7, rfl, hown7, hb7, hb76⟩
            have hT7 := hT6.below hb76
            go_wp2_with fail
            refine (walk_from name (walk name [] a) A7 c7 A' c' b hb7 (Rd.of_own hown7) ((HA'.out.below hb7).more hb7.size) (by omega) (by omega) hc' hnl (fun s h => by have := Hwm.out s h; omega) Hm.out).mono ?_
            rintro e w8 ⟨A8, c8, rfl, hown8, hb8, hb87⟩
            have hT8 := (hT7.more hb76.size).below hb87
            go_wp2_with fail
            refine (walk_from name [] none 0 A6 c6 both hb8 (Rd.nil _ _ _) (hT8.more hb87.size) (by simp) (by omega) hc6 hnl (by simp) Hm.out).mono ?_
            rintro e w9 ⟨A9, c9, rfl, hown9, hb9, hb98⟩
            go_wp2_with fail
            refine (texts_same A9 A8 c9 c8 _ _ Heq.out hb9 (Rd.of_own hown9) (((Rd.of_own hown8).below hb98).more hb98.size) (by omega)).mono ?_
            rintro e w10 ⟨rfl, hb10⟩
            go_wp2_with fail
            refine (calls_later (awake_any w10 (Hm.out.below hb10)) hb10).mono ?_
            rintro e w11 ⟨rfl, hb11⟩
            go_wp2
            go_ret
            exact ⟨rfl, hb11⟩
end Go.Proofs.YtpahiipfmccbiaaDoor
