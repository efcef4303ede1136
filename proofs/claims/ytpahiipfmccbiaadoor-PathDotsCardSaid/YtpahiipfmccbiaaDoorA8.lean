/- Walk: a part behind a path (put). -/
import Derived.Test.YtpahiipfmccbiaaDoorA5
import Derived.Test.YtpahiipfmccbiaaDoorA6
namespace Go.Proofs.YtpahiipfmccbiaaDoor
open Go.RowKit

theorem Tryd.info9 : (Tryd.prog.info? 9).map (fun i => (i.zero, i.size, i.bytes)) = some (some (.string ⟨#[]⟩), 1, 16) := by kernel_rfl
theorem own_slice_le {w : World} {base n : Nat} {e : TypeId} {v : Value} {xs : List Value} (h : w.ownsRow base e 1 v n xs) : ∃ A c, v = .slice A n c ∧ n ≤ c := by
  rcases h.2 with ⟨rfl, rfl⟩ | ⟨g, cap, cur, rfl, _, _, hc, _⟩
  · exact ⟨none, 0, rfl, Nat.le_refl _⟩
  · exact ⟨_, _, rfl, hc⟩
theorem strV_append (a b : List (List UInt8)) : strV (a ++ b) = strV a ++ strV b := by simp [strV]
theorem Mx.drew {g : Nat} {w : World} (h : Mx g w) : Mx g w.drew := h
theorem Mx.alloc {g : Nat} {w : World} (h : Mx g w) (o : Obj) : Mx g (w.alloc o) := h.below ((Below.refl _ _).alloc (Nat.le_refl _) _)

/-- append of one text onto a row of the call's own. -/
theorem Grew.push {base : Nat} {v : Value} {ls : List (List UInt8)} {s : List UInt8} {w W w' : World} {v' : Value} (hk : Kp (fun k => v.ownBlock = some k) w W)
    (hown : w'.ownsRow base 9 1 v' (ls.length + [(Value.string ⟨s.toArray⟩)].length) (strV ls ++ [.string ⟨s.toArray⟩])) (hg : W.grownBy w' v.ownBlock) (hat : v'.ownBlock = v.ownBlock ∨ v'.ownBlock = some W.heap.size) :
    Grew base 9 v (strV (ls ++ [s])) w (.returned v') w' := Grew.of hk hown hg hat (by simp [strV])

theorem own_below {w w' : World} {B base n : Nat} {e : TypeId} {size : Nat} {v : Value} {xs : List Value} (h : w.ownsRow base e size v n xs) (hb : Below B w w') (hB : w.heap.size ≤ B) : w'.ownsRow base e size v n xs :=
  (Kp.of_below hb).own h (fun k hk hs => by have := (h.lt k hk).2; omega)
theorem kp_below {w w' : World} {v : Value} (hb : Below w.heap.size w w') : Kp (fun k => v.ownBlock = some k) w w' := (Kp.of_below hb).mono (fun k hk h => by omega)
theorem double_is (l : List UInt8) (b : Bool) (h : double l = b) (w : World) (hs : l.length ≤ 1073741824) (hm : Mx 0 w) :
    Calls Tryd.prog 11 #[.string ⟨l.toArray⟩] w fun e w' => e = .returned (.bool b) ∧ Below w.heap.size w w' := by
  subst h; exact double_any ⟨l.toArray⟩ w (by rw [size_str]; exact hs) hm
theorem single_is (l : List UInt8) (b : Bool) (h : single l = b) (w : World) (hs : l.length ≤ 1073741824) (hm : Mx 0 w) :
    Calls Tryd.prog 10 #[.string ⟨l.toArray⟩] w fun e w' => e = .returned (.bool b) ∧ Below w.heap.size w w' := by
  subst h; exact single_any ⟨l.toArray⟩ w (by rw [size_str]; exact hs) hm

set_option maxHeartbeats 1000000 in
set_option maxRecDepth 100000 in
theorem put_plain (name : List UInt8) (base : Nat) (v : Value) (ls : List (List UInt8)) (A : Option Addr) (c : Nat) (rs : List Int) (last : Bool) (w : World) (B : Nat)
    (hown : w.ownsRow base 9 1 v ls.length (strV ls)) (hr : Rd w B A (runV rs)) (hB : B ≤ w.heap.size) (hm : Mx 0 w) (hb : base ≤ w.heap.size) (hl : ls.length ≤ 1048576) (hrl : rs.length ≤ 1048576)
    (hd : double (enc rs) = false) (hs : single (enc rs) = false) (hn : (name == fileN && ls.isEmpty) = false) :
    Calls Tryd.prog 39 #[.string ⟨name.toArray⟩, v, .agg #[.slice A rs.length c, .bool last]] w (Grew base 9 v (strV (ls ++ [enc rs])) w) := by
  obtain ⟨i0, hi, hz0, hz1, hz2⟩ := info_parts Tryd.info9
  have hel := enc_le rs
  have hc0 : (w.alloc (.cells #[.slice A rs.length c, .bool last] 63)).cell? ⟨w.heap.size, 0, none⟩ = some (.slice A rs.length c) := by rw [World.cell?_alloc_at _ _ _ _ rfl]; rfl
  obtain ⟨A', c', rfl, hlc⟩ := own_slice_le hown
  have Hd := Lib.hid hd
  have Hs := Lib.hid hs
  have Hn : Hid ((name == [102, 105, 108, 101]) = false ∨ ((ls.length : Int) == 0) = false) := by
    show _ ∨ _
    rw [Bool.and_eq_false_iff] at hn
    rcases hn with h | h
    · exact .inl h
    · right; rw [beq_eq_false_iff_ne]; simp at h; intro e; exact h (List.eq_nil_of_length_eq_zero (by omega))
  clear hd hs hn
  go_enter Tryd.func39, Tryd.ntmps39
  go_wp2_with (go_at_call 9; refine (pctEncode_any A c rs _ B (hr.alloc hB _) (by simp; omega) hrl).mono ?_)
  rintro e w1 ⟨rfl, hb1⟩
  have hm1 := (hm.alloc (.cells #[.slice A rs.length c, .bool last] 63)).below hb1
  go_wp2_with (go_at_call 11; refine (double_is (enc rs) false Hd.out w1 (by omega) hm1).mono ?_)
  rintro e w2 ⟨rfl, hb2⟩
  have hm2 := hm1.below hb2
  go_wp2_with (go_at_call 10; refine (single_is (enc rs) false Hs.out w2 (by omega) hm2).mono ?_)
  rintro e w3 ⟨rfl, hb3⟩
  have hbw : Below w.heap.size w w3 := ((((Below.refl _ w).alloc (Nat.le_refl _) _).trans (hb1.mono (by simp))).trans (hb2.mono (by have := hb1.size; simp at this; omega))).trans (hb3.mono (by have := hb1.size; have := hb2.size; simp at *; omega))
  have hown3 := own_below hown hbw (Nat.le_refl _)
  have hk3 := Lib.hid (kp_below (v := .slice A' ls.length c') hbw)
  have hsz := hbw.size
  clear hbw hown hb1 hb2 hb3 hm1 hm2 hm hr hc0
  rcases Hn.out with h | h
  all_goals
    go_wp2_with (at_builtin; refine wpList_append_rd _ rfl _ _ 24 rfl base 9 i0 (.string ⟨#[]⟩) 16 Tryd.underlying24 hi hz0 hz1 hz2 rfl (.slice A' ls.length c') ls.length (strV ls) rfl (hown3.alloc _) (w3.heap.size + 1) (some ⟨w3.heap.size, 0, none⟩) 1 [.string ⟨(enc rs).toArray⟩] rfl (rd_new w3 [.string ⟨(enc rs).toArray⟩] 9) (by simp [Value.oneCell']) (by simp only [maxLen, List.length_cons, List.length_nil]; omega) (by simp only [List.length_cons, List.length_nil]; omega) (by simp; omega) ?_; intro v' w' hown' hg' hat')
    all_goals
      go_ret
      exact Grew.push (hk3.out.alloc _) hown' hg' hat'

theorem pctEncode_is (A : Option Addr) (c : Nat) (rs : List Int) (s : List UInt8) (he : enc rs = s) (w : World) (B : Nat) (hr : Rd w B A (runV rs)) (hB : B ≤ w.heap.size) (hl : rs.length ≤ 1048576) :
    Calls Tryd.prog 9 #[.int .u8 5, .slice A rs.length c] w fun e w' => e = .returned (.tuple #[.string ⟨s.toArray⟩, .int .i64 0]) ∧ Below w.heap.size w w' := by
  subst he; exact pctEncode_any A c rs w B hr hB hl
theorem drive_is (A : Option Addr) (c : Nat) (rs : List Int) (b : Bool) (h : drive rs = b) (w : World) (B : Nat) (hr : Rd w B A (runV rs)) :
    Calls Tryd.prog 15 #[.slice A rs.length c] w fun e w' => e = .returned (.bool b) ∧ w = w' := by
  subst h; exact drive_any A c rs w B hr

set_option maxHeartbeats 1000000 in
set_option maxRecDepth 100000 in
theorem put_nodrive (base : Nat) (v : Value) (A : Option Addr) (c : Nat) (rs : List Int) (last : Bool) (w : World) (B : Nat)
    (hown : w.ownsRow base 9 1 v ([] : List (List UInt8)).length (strV [])) (hr : Rd w B A (runV rs)) (hB : B ≤ w.heap.size) (hm : Mx 0 w) (hb : base ≤ w.heap.size) (hrl : rs.length ≤ 1048576)
    (hd : double (enc rs) = false) (hs : single (enc rs) = false) (hv : drive (runes (enc rs)) = false) :
    Calls Tryd.prog 39 #[.string ⟨#[102, 105, 108, 101]⟩, v, .agg #[.slice A rs.length c, .bool last]] w (Grew base 9 v (strV ([] ++ [enc rs])) w) := by
  obtain ⟨i0, hi, hz0, hz1, hz2⟩ := info_parts Tryd.info9
  have hel := enc_le rs
  have hc0 : (w.alloc (.cells #[.slice A rs.length c, .bool last] 63)).cell? ⟨w.heap.size, 0, none⟩ = some (.slice A rs.length c) := by rw [World.cell?_alloc_at _ _ _ _ rfl]; rfl
  obtain ⟨A', c', rfl, hlc⟩ := own_slice_le hown
  have Hd := Lib.hid hd
  have Hs := Lib.hid hs
  have Hv := Lib.hid hv
  clear hd hs hv
  go_enter Tryd.func39, Tryd.ntmps39
  go_wp2_with (go_at_call 9; refine (pctEncode_any A c rs _ B (hr.alloc hB _) (by simp; omega) hrl).mono ?_)
  rintro e w1 ⟨rfl, hb1⟩
  have hm1 := (hm.alloc (.cells #[.slice A rs.length c, .bool last] 63)).below hb1
  go_wp2_with (go_at_call 11; refine (double_is (enc rs) false Hd.out w1 (by omega) hm1).mono ?_)
  rintro e w2 ⟨rfl, hb2⟩
  have hm2 := hm1.below hb2
  go_wp2_with (go_at_call 10; refine (single_is (enc rs) false Hs.out w2 (by omega) hm2).mono ?_)
  rintro e w3 ⟨rfl, hb3⟩
  have hbw : Below w.heap.size w w3 := ((((Below.refl _ w).alloc (Nat.le_refl _) _).trans (hb1.mono (by simp))).trans (hb2.mono (by have := hb1.size; simp at this; omega))).trans (hb3.mono (by have := hb1.size; have := hb2.size; simp at *; omega))
  have hown3 := own_below hown hbw (Nat.le_refl _)
  have hk3 := Lib.hid (kp_below (v := .slice A' ([] : List (List UInt8)).length c') hbw)
  have hsz := hbw.size
  obtain ⟨cap, row, hrun, hrd⟩ := conv_runes ⟨(enc rs).toArray⟩ w3 (by rw [size_str]; omega)
  have hsd : (⟨(enc rs).toArray⟩ : ByteArray).data.toList = enc rs := rfl
  rw [hsd] at hrun hrd
  clear hbw hown hb1 hb2 hb3 hm1 hm2 hm hr hc0 hsd
  go_wp2_with (first | (go_at_call 15; refine (drive_is _ _ _ false Hv.out _ _ hrd).mono ?_; rintro e w' ⟨rfl, rfl⟩) | (at_builtin; refine wpList_append_rd _ rfl _ _ 24 rfl base 9 i0 (.string ⟨#[]⟩) 16 Tryd.underlying24 hi hz0 hz1 hz2 rfl (.slice A' ([] : List (List UInt8)).length c') ([] : List (List UInt8)).length (strV []) rfl (by exact (hown3.alloc _).alloc _) (w3.heap.size + 2) (some ⟨w3.heap.size + 1, 0, none⟩) 1 [.string ⟨(enc rs).toArray⟩] rfl (by exact rd_new2 w3 _ [.string ⟨(enc rs).toArray⟩] 9) (by simp [Value.oneCell']) (by simp only [maxLen, List.length_cons, List.length_nil]; omega) (by simp only [List.length_cons, List.length_nil]; omega) (by simp; omega) ?_; intro v' w' hown' hg' hat'))
  go_ret
  exact Grew.push ((hk3.out.alloc _).alloc _).drew hown' hg' hat'
set_option maxHeartbeats 1000000 in
set_option maxRecDepth 100000 in
theorem put_drive (base : Nat) (v : Value) (A : Option Addr) (c : Nat) (rs : List Int) (last : Bool) (x y : UInt8) (he : enc rs = [x, y]) (w : World) (B : Nat)
    (hown : w.ownsRow base 9 1 v ([] : List (List UInt8)).length (strV [])) (hr : Rd w B A (runV rs)) (hB : B ≤ w.heap.size) (hm : Mx 0 w) (hb : base ≤ w.heap.size) (hrl : rs.length ≤ 1048576)
    (hd : double [x, y] = false) (hs : single [x, y] = false) (hv : drive (runes [x, y]) = true) :
    Calls Tryd.prog 39 #[.string ⟨#[102, 105, 108, 101]⟩, v, .agg #[.slice A rs.length c, .bool last]] w (Grew base 9 v (strV ([] ++ [[x, 58]])) w) := by
  obtain ⟨i0, hi, hz0, hz1, hz2⟩ := info_parts Tryd.info9
  have He := Lib.hid he
  clear he
  have hc0 : (w.alloc (.cells #[.slice A rs.length c, .bool last] 63)).cell? ⟨w.heap.size, 0, none⟩ = some (.slice A rs.length c) := by rw [World.cell?_alloc_at _ _ _ _ rfl]; rfl
  obtain ⟨A', c', rfl, hlc⟩ := own_slice_le hown
  have Hd := Lib.hid hd
  have Hs := Lib.hid hs
  have Hv := Lib.hid hv
  clear hd hs hv
  go_enter Tryd.func39, Tryd.ntmps39
  go_wp2_with (go_at_call 9; refine (pctEncode_is A c rs [x, y] He.out _ B (hr.alloc hB _) (by simp; omega) hrl).mono ?_)
  rintro e w1 ⟨rfl, hb1⟩
  have hm1 := (hm.alloc (.cells #[.slice A rs.length c, .bool last] 63)).below hb1
  go_wp2_with (go_at_call 11; refine (double_is [x, y] false Hd.out w1 (by simp) hm1).mono ?_)
  rintro e w2 ⟨rfl, hb2⟩
  have hm2 := hm1.below hb2
  go_wp2_with (go_at_call 10; refine (single_is [x, y] false Hs.out w2 (by simp) hm2).mono ?_)
  rintro e w3 ⟨rfl, hb3⟩
  have hbw : Below w.heap.size w w3 := ((((Below.refl _ w).alloc (Nat.le_refl _) _).trans (hb1.mono (by simp))).trans (hb2.mono (by have := hb1.size; simp at this; omega))).trans (hb3.mono (by have := hb1.size; have := hb2.size; simp at *; omega))
  have hown3 := own_below hown hbw (Nat.le_refl _)
  have hk3 := Lib.hid (kp_below (v := .slice A' ([] : List (List UInt8)).length c') hbw)
  have hsz := hbw.size
  obtain ⟨cap, row, hrun, hrd⟩ := conv_runes ⟨[x, y].toArray⟩ w3 (by rw [size_str]; simp)
  have hsd : (⟨[x, y].toArray⟩ : ByteArray).data.toList = [x, y] := rfl
  rw [hsd] at hrun hrd
  clear hbw hown hb1 hb2 hb3 hm1 hm2 hm hr hc0 hsd
  go_wp2_with (first | (go_at_call 15; refine (drive_is _ _ _ true Hv.out _ _ hrd).mono ?_; rintro e w' ⟨rfl, rfl⟩) | (at_builtin; refine wpList_append_rd _ rfl _ _ 24 rfl base 9 i0 (.string ⟨#[]⟩) 16 Tryd.underlying24 hi hz0 hz1 hz2 rfl (.slice A' ([] : List (List UInt8)).length c') ([] : List (List UInt8)).length (strV []) rfl (by exact (hown3.alloc _).alloc _) (w3.heap.size + 2) (some ⟨w3.heap.size + 1, 0, none⟩) 1 [.string ⟨([x, 58]).toArray⟩] rfl (by exact rd_new2 w3 _ [.string ⟨([x, 58]).toArray⟩] 9) (by simp [Value.oneCell']) (by simp only [maxLen, List.length_cons, List.length_nil]; omega) (by simp only [List.length_cons, List.length_nil]; omega) (by simp; omega) ?_; intro v' w' hown' hg' hat'))
  go_ret
  exact Grew.push ((hk3.out.alloc _).alloc _).drew hown' hg' hat'

/-- A path, and behind it a segment that is empty, if the part was the last. -/
def lastP (last : Bool) (l : List (List UInt8)) : List (List UInt8) := if last then l ++ [[]] else l
/-- What put leaves. -/
def Went (base : Nat) (v : Value) (ls : List (List UInt8)) (w : World) (en : Ending) (w' : World) : Prop :=
  ∃ v', en = .returned v' ∧ w'.ownsRow base 9 1 v' ls.length (strV ls) ∧ Kp (fun k => v.ownBlock = some k) w w' ∧ ∀ g, v'.ownBlock = some g → v.ownBlock = some g ∨ w.heap.size ≤ g
theorem Grew.went {base : Nat} {v : Value} {ls : List (List UInt8)} {w : World} {en : Ending} {w' : World} (h : Grew base 9 v (strV ls) w en w') : Went base v ls w en w' := by
  obtain ⟨v', e, ho, hk, hat⟩ := h
  rw [strV_length] at ho
  refine ⟨v', e, ho, hk, fun g hg => ?_⟩
  rcases hat with h | ⟨g', h, hle⟩
  · exact .inl (by rw [← h]; exact hg)
  · right
    rw [h] at hg
    injection hg with hg
    omega

set_option maxHeartbeats 1000000 in
set_option maxRecDepth 100000 in
theorem put_single (name : List UInt8) (base : Nat) (v : Value) (ls : List (List UInt8)) (A : Option Addr) (c : Nat) (rs : List Int) (last : Bool) (w : World) (B : Nat)
    (hown : w.ownsRow base 9 1 v ls.length (strV ls)) (hr : Rd w B A (runV rs)) (hB : B ≤ w.heap.size) (hm : Mx 0 w) (hb : base ≤ w.heap.size) (hl : ls.length ≤ 1048576) (hrl : rs.length ≤ 1048576)
    (hd : double (enc rs) = false) (hs : single (enc rs) = true) :
    Calls Tryd.prog 39 #[.string ⟨name.toArray⟩, v, .agg #[.slice A rs.length c, .bool last]] w (Went base v (lastP last ls) w) := by
  obtain ⟨i0, hi, hz0, hz1, hz2⟩ := info_parts Tryd.info9
  have hel := enc_le rs
  have hc0 : (w.alloc (.cells #[.slice A rs.length c, .bool last] 63)).cell? ⟨w.heap.size, 0, none⟩ = some (.slice A rs.length c) := by rw [World.cell?_alloc_at _ _ _ _ rfl]; rfl
  have hblk : (w.alloc (.cells #[.slice A rs.length c, .bool last] 63)).cell? ⟨w.heap.size, 1, none⟩ = some (.bool last) := by rw [World.cell?_alloc_at _ _ _ _ rfl]; rfl
  obtain ⟨A', c', rfl, hlc⟩ := own_slice_le hown
  have Hd := Lib.hid hd
  have Hs := Lib.hid hs
  clear hd hs
  go_enter Tryd.func39, Tryd.ntmps39
  go_wp2_with (go_at_call 9; refine (pctEncode_any A c rs _ B (hr.alloc hB _) (by simp; omega) hrl).mono ?_)
  rintro e w1 ⟨rfl, hb1⟩
  have hm1 := (hm.alloc (.cells #[.slice A rs.length c, .bool last] 63)).below hb1
  go_wp2_with (go_at_call 11; refine (double_is (enc rs) false Hd.out w1 (by omega) hm1).mono ?_)
  rintro e w2 ⟨rfl, hb2⟩
  have hm2 := hm1.below hb2
  go_wp2_with (go_at_call 10; refine (single_is (enc rs) true Hs.out w2 (by omega) hm2).mono ?_)
  rintro e w3 ⟨rfl, hb3⟩
  have hbw : Below w.heap.size w w3 := ((((Below.refl _ w).alloc (Nat.le_refl _) _).trans (hb1.mono (by simp))).trans (hb2.mono (by have := hb1.size; simp at this; omega))).trans (hb3.mono (by have := hb1.size; have := hb2.size; simp at *; omega))
  have hlast : w3.cell? ⟨w.heap.size, 1, none⟩ = some (.bool last) := by
    rw [(hb3.cell (p := ⟨w.heap.size, 1, none⟩) (by have := hb1.size; have := hb2.size; simp at *; omega)), (hb2.cell (p := ⟨w.heap.size, 1, none⟩) (by have := hb1.size; simp at *; omega)), (hb1.cell (p := ⟨w.heap.size, 1, none⟩) (by simp))]
    exact hblk
  have hown3 := own_below hown hbw (Nat.le_refl _)
  have hk3 := Lib.hid (kp_below (v := .slice A' ls.length c') hbw)
  have hsz := hbw.size
  clear hbw hown hb1 hb2 hb3 hm1 hm2 hm hr hc0 hblk
  cases last
  · go_wp2
    go_ret
    exact (Grew.same hk3.out (by rw [strV_length]; exact hown3)).went
  · go_wp2_with (at_builtin; refine wpList_append_rd _ rfl _ _ 24 rfl base 9 i0 (.string ⟨#[]⟩) 16 Tryd.underlying24 hi hz0 hz1 hz2 rfl (.slice A' ls.length c') ls.length (strV ls) rfl (hown3.alloc _) (w3.heap.size + 1) (some ⟨w3.heap.size, 0, none⟩) 1 [.string ⟨#[]⟩] rfl (rd_new w3 [.string ⟨#[]⟩] 9) (by simp [Value.oneCell']) (by simp only [maxLen, List.length_cons, List.length_nil]; omega) (by simp only [List.length_cons, List.length_nil]; omega) (by simp; omega) ?_; intro v' w' hown' hg' hat')
    go_ret
    exact (Grew.push (s := []) (hk3.out.alloc _) hown' hg' hat').went

set_option maxHeartbeats 1000000 in
set_option maxRecDepth 100000 in
theorem put_double (name : List UInt8) (base : Nat) (v : Value) (ls : List (List UInt8)) (A : Option Addr) (c : Nat) (rs : List Int) (last : Bool) (w : World) (B : Nat)
    (hown : w.ownsRow base 9 1 v ls.length (strV ls)) (hr : Rd w B A (runV rs)) (hB : B ≤ w.heap.size) (hm : Mx 0 w) (hb : base ≤ w.heap.size) (hl : ls.length ≤ 1048576) (hrl : rs.length ≤ 1048576)
    (hd : double (enc rs) = true) (hls : ∀ s ∈ ls, s.length ≤ 70368744177664) :
    Calls Tryd.prog 39 #[.string ⟨name.toArray⟩, v, .agg #[.slice A rs.length c, .bool last]] w (Went base v (lastP last (shorten name ls)) w) := by
  obtain ⟨i0, hi, hz0, hz1, hz2⟩ := info_parts Tryd.info9
  have hel := enc_le rs
  have hc0 : (w.alloc (.cells #[.slice A rs.length c, .bool last] 63)).cell? ⟨w.heap.size, 0, none⟩ = some (.slice A rs.length c) := by rw [World.cell?_alloc_at _ _ _ _ rfl]; rfl
  have hblk : (w.alloc (.cells #[.slice A rs.length c, .bool last] 63)).cell? ⟨w.heap.size, 1, none⟩ = some (.bool last) := by rw [World.cell?_alloc_at _ _ _ _ rfl]; rfl
  obtain ⟨A', c', rfl, hlc⟩ := own_slice_le hown
  have Hd := Lib.hid hd
  clear hd
  go_enter Tryd.func39, Tryd.ntmps39
  go_wp2_with (go_at_call 9; refine (pctEncode_any A c rs _ B (hr.alloc hB _) (by simp; omega) hrl).mono ?_)
  rintro e w1 ⟨rfl, hb1⟩
  have hm1 := (hm.alloc (.cells #[.slice A rs.length c, .bool last] 63)).below hb1
  go_wp2_with (go_at_call 11; refine (double_is (enc rs) true Hd.out w1 (by omega) hm1).mono ?_)
  rintro e w2 ⟨rfl, hb2⟩
  have hbw2 : Below w.heap.size w w2 := (((Below.refl _ w).alloc (Nat.le_refl _) _).trans (hb1.mono (by simp))).trans (hb2.mono (by have := hb1.size; simp at this; omega))
  have hown2 := own_below hown hbw2 (Nat.le_refl _)
  have hsz2 := hbw2.size
  go_wp2_with (go_at_call 16; refine (shorten_any name A' c' ls w2 w2.heap.size (Rd.of_own hown2) (Nat.le_refl _) (by omega) hlc hls).mono ?_)
  rintro e w3 ⟨v1, rfl, hown3', hb3⟩
  have hown3 := own_base hown3' (Nat.le_trans hb hsz2)
  have hnew : Hid (∀ g, v1.ownBlock = some g → w.heap.size ≤ g) := fun g hg => Nat.le_trans hsz2 (hown3'.lt g hg).1
  have hbw : Below w.heap.size w w3 := hbw2.trans (hb3.mono hsz2)
  have hlast : w3.cell? ⟨w.heap.size, 1, none⟩ = some (.bool last) := by
    rw [(hb3.cell (p := ⟨w.heap.size, 1, none⟩) (by have := hb1.size; have := hb2.size; simp at *; omega)), (hb2.cell (p := ⟨w.heap.size, 1, none⟩) (by have := hb1.size; simp at *; omega)), (hb1.cell (p := ⟨w.heap.size, 1, none⟩) (by simp))]
    exact hblk
  have hk3 := Lib.hid (kp_below (v := .slice A' ls.length c') hbw)
  have Hbw := Lib.hid hbw
  have hsz := hbw.size
  have hshl : (shorten name ls).length ≤ ls.length := by
    unfold shorten
    split
    · simp
    · split <;> simp
    · simp
  clear hbw hown hb1 hb2 hb3 hm1 hm hr hc0 hblk hbw2 hown2 hown3'
  cases last
  · go_wp2
    go_ret
    exact ⟨_, rfl, hown3, hk3.out, fun g hg => .inr (hnew.out g hg)⟩
  · go_wp2_with (at_builtin; refine wpList_append_rd _ rfl _ _ 24 rfl base 9 i0 (.string ⟨#[]⟩) 16 Tryd.underlying24 hi hz0 hz1 hz2 rfl v1 (shorten name ls).length (strV (shorten name ls)) rfl (hown3.alloc _) (w3.heap.size + 1) (some ⟨w3.heap.size, 0, none⟩) 1 [.string ⟨#[]⟩] rfl (rd_new w3 [.string ⟨#[]⟩] 9) (by simp [Value.oneCell']) (by simp only [maxLen, List.length_cons, List.length_nil]; omega) (by simp only [List.length_cons, List.length_nil]; omega) (by simp; omega) ?_; intro v' w' hown' hg' hat')
    go_ret
    refine ⟨v', rfl, ?_, ?_, ?_⟩
    · simpa [strV, lastP] using hown'
    · exact kp_below ((Hbw.out.alloc hsz _).grown hg' (by simp; omega) (fun k hk => hnew.out k hk))
    · intro g hg
      right
      rcases hat' with h | h
      · exact hnew.out g (by rw [← h]; exact hg)
      · rw [h] at hg; injection hg with hg; simp at hg; omega

theorem putP_eq (name : List UInt8) (l : List (List UInt8)) (p : List Int) (last : Bool) : putP name l p last =
    if double (enc p) then lastP last (shorten name l) else if single (enc p) then lastP last l
    else if name == fileN && l.isEmpty && drive (runes (enc p)) then l ++ [(enc p).take 1 ++ [58]] else l ++ [enc p] := rfl

/-- put, whatever the part. -/
theorem put_all (name : List UInt8) (base : Nat) (v : Value) (ls : List (List UInt8)) (A : Option Addr) (c : Nat) (rs : List Int) (last : Bool) (w : World) (B : Nat)
    (hown : w.ownsRow base 9 1 v ls.length (strV ls)) (hr : Rd w B A (runV rs)) (hB : B ≤ w.heap.size) (hm : Mx 0 w) (hb : base ≤ w.heap.size) (hl : ls.length ≤ 1048576) (hrl : rs.length ≤ 1048576)
    (hls : ∀ s ∈ ls, s.length ≤ 70368744177664) :
    Calls Tryd.prog 39 #[.string ⟨name.toArray⟩, v, .agg #[.slice A rs.length c, .bool last]] w (Went base v (putP name ls rs last) w) := by
  rw [putP_eq]
  cases hd : double (enc rs) with
  | true => exact put_double name base v ls A c rs last w B hown hr hB hm hb hl hrl hd hls
  | false =>
    rw [if_neg (by decide)]
    cases hs : single (enc rs) with
    | true => exact put_single name base v ls A c rs last w B hown hr hB hm hb hl hrl hd hs
    | false =>
      rw [if_neg (by decide)]
      cases hn : (name == fileN && ls.isEmpty) with
      | false =>
        rw [Bool.false_and, if_neg (by decide)]
        exact (put_plain name base v ls A c rs last w B hown hr hB hm hb hl hrl hd hs hn).mono fun _ _ h => h.went
      | true =>
        rw [Bool.true_and]
        rw [Bool.and_eq_true] at hn
        obtain ⟨h1, h2⟩ := hn
        have e1 : name = [102, 105, 108, 101] := eq_of_beq h1
        have e2 : ls = [] := by simpa using h2
        subst e1 e2
        cases hv : drive (runes (enc rs)) with
        | false =>
          rw [if_neg (by decide)]
          exact (put_nodrive base v A c rs last w B hown hr hB hm hb hrl hd hs hv).mono fun _ _ h => h.went
        | true =>
          rw [if_pos rfl]
          obtain ⟨x, y, he, _, _⟩ := drive_bytes hv
          rw [he] at hd hs hv ⊢
          exact (put_drive base v A c rs last x y he w B hown hr hB hm hb hrl hd hs hv).mono fun _ _ h => h.went
end Go.Proofs.YtpahiipfmccbiaaDoor
