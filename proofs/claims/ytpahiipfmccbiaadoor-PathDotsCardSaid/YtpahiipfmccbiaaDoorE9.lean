/- Walks: the law PathDots. -/
import Derived.Test.YtpahiipfmccbiaaDoorC3
import Derived.Test.YtpahiipfmccbiaaDoorS2
import Derived.Test.YtpahiipfmccbiaaDoorP8
import Derived.Test.YtpahiipfmccbiaaDoorG4
namespace Go.Proofs.YtpahiipfmccbiaaDoor
open Go.RowKit

/-- The ways to say a dot, as the law's row holds them. -/
def dotV : List Value := [Value.string ⟨#[46]⟩, Value.string ⟨#[37, 50, 101]⟩, Value.string ⟨#[37, 50, 69]⟩]
theorem dot_at (u : UInt8) : ∃ x ∈ dotL, dotV[u.toNat % 3]? = some (.string ⟨x.toArray⟩) := by
  have h3 : u.toNat % 3 = 0 ∨ u.toNat % 3 = 1 ∨ u.toNat % 3 = 2 := by omega
  rcases h3 with h | h | h
  · rw [h]; exact ⟨[46], by decide, rfl⟩
  · rw [h]; exact ⟨[37, 50, 101], by decide, rfl⟩
  · rw [h]; exact ⟨[37, 50, 69], by decide, rfl⟩

theorem single_of (s : ByteArray) (l : List UInt8) (hl : s.data.toList = l) (b : Bool) (h : single l = b) {w0 w : World} (hb : Below w0.heap.size w0 w) (hs : l.length ≤ 1000) (hm : Mx 0 w0) :
    Calls Tryd.prog 10 #[.string s] w fun e w' => e = .returned (.bool b) ∧ Below w0.heap.size w0 w' := by
  subst hl h
  exact calls_later (single_any s w (by have : s.size = s.data.toList.length := rfl; omega) (hm.below hb)) hb
theorem double_of (s : ByteArray) (l : List UInt8) (hl : s.data.toList = l) (b : Bool) (h : double l = b) {w0 w : World} (hb : Below w0.heap.size w0 w) (hs : l.length ≤ 1000) (hm : Mx 0 w0) :
    Calls Tryd.prog 11 #[.string s] w fun e w' => e = .returned (.bool b) ∧ Below w0.heap.size w0 w' := by
  subst hl h
  exact calls_later (double_any s w (by have : s.size = s.data.toList.length := rfl; omega) (hm.below hb)) hb
theorem dot_len {x : List UInt8} (h : x ∈ dotL) : x.length ≤ 3 := by
  simp only [dotL, List.mem_cons, List.not_mem_nil, or_false] at h
  rcases h with rfl | rfl | rfl <;> simp
theorem conv_one (c : UInt8) (W : World) (n : Nat) (hn : W.heap.size = n) : (convert 40 9 (.slice (some ⟨n, 0, none⟩) 1 1)).run Tryd.prog (W.alloc (.cells #[.int .u8 c.toNat] 5)) = .ok (.string ⟨#[c]⟩) (W.alloc (.cells #[.int .u8 c.toNat] 5)) := by
  subst hn
  have h := World.ownsRow_lit (base := 0) (e := 5) (size := 1) W #[.int .u8 c.toNat] 1 (Nat.zero_le _) (by decide) rfl
  exact conv_bytes (bs := [c]) h
theorem mapD_len (f : Int → Int) : ∀ (n : Nat) (l : List UInt8), l.length ≤ n → (Lib.mapD f l).length ≤ 4 * l.length := by
  intro n
  induction n with
  | zero => intro l h; have : l = [] := List.eq_nil_of_length_eq_zero (by omega); subst this; simp [Lib.mapD_nil]
  | succ n ih =>
    intro l h
    by_cases hl : l = []
    · subst hl; simp [Lib.mapD_nil]
    · rw [Lib.mapD_step f l hl, List.length_append]
      obtain ⟨a, t, rfl⟩ := List.exists_cons_of_ne_nil hl
      have hw := Lib.decodeL_width (a :: t)
      have h1 : (if 0 ≤ f ((Lib.decodeL (a :: t)).1 : Int) then Lib.encodeRune (f (Lib.decodeL (a :: t)).1) else []).length ≤ 4 := by
        split
        · have := (Lib.runeCells_le (f (Lib.decodeL (a :: t)).1)).2
          rwa [Lib.runeCells_length] at this
        · simp
      have h2 := ih ((a :: t).drop (Lib.decodeL (a :: t)).2) (by rw [List.length_drop]; simp at h ⊢; omega)
      rw [List.length_drop] at h2
      simp only [List.length_cons] at h2 ⊢
      omega
theorem lower_len (l : List UInt8) : (Lib.toLowerD l).length ≤ 4 * l.length := mapD_len _ _ l (Nat.le_refl _)
theorem countB_le3' (s : ByteArray) : Lib.countB s ⟨#[37, 50, 101]⟩ ≤ s.size := countB_le3 s 101

set_option maxHeartbeats 8000000 in
set_option maxRecDepth 100000 in
theorem dots_main (a b c : UInt8) (s : List UInt8) (w : World) (hm : Mx 0 w) (hV : Lib.CaseVar 1 Lib.caseA w) (hT : Lib.Utf8Tabs 2 3 w) (hs : s.length ≤ 9223372036854775807) :
    Calls Tryd.prog 7 #[.int .u8 a.toNat, .int .u8 b.toNat, .int .u8 c.toNat, .string ⟨s.toArray⟩] w fun e w' => e = .returned (.bool true) ∧ Below w.heap.size w w' := by
  obtain ⟨x, hx, hxv⟩ := dot_at a
  obtain ⟨y, hy, hyv⟩ := dot_at b
  have hsz := size_arr s
  have hszx := size_arr x
  have hszy := size_arr y
  have hlx := dot_len hx
  have hly := dot_len hy
  have Hm := Lib.hid hm
  have HV := Lib.hid hV
  have HT := Lib.hid hT
  have hxy := dot_all x hx y hy
  have Hxy := Lib.hid hxy
  have Hodd := Lib.hid (fun hc => odd_all c hc x y hx hy)
  have cx : ∀ k, (w.alloc (.cells dotV.toArray 9)).cell? ⟨w.heap.size, k, none⟩ = dotV[k]? := fun k => by rw [World.cell?_alloc_at _ _ _ _ rfl]; simp
  have hcx := (cx (a.toNat % 3)).trans hxv
  have hcy := (cx (b.toNat % 3)).trans hyv
  have ha : a.toNat % 3 < 3 := by omega
  have hb : b.toNat % 3 < 3 := by omega
  unfold dotV at hcx hcy
  clear cx hxv hyv hm hV hT hx hy hxy
  go_enter Tryd.func7, Tryd.ntmps7
  go_wp2_with fail
  go_quiet (fail)
  clear hcx hcy ha hb
  have hb1 : Below w.heap.size w (((w.alloc (.cells #[Value.string ⟨#[46]⟩, Value.string ⟨#[37, 50, 101]⟩, Value.string ⟨#[37, 50, 69]⟩] 9)).drewN nq).alloc (.cells #[.int .u8 c.toNat] 5)) :=
    (below_drewN ((Below.refl _ w).alloc (Nat.le_refl _) _) nq).alloc (by simp) _
  have hcv := conv_one c ((w.alloc (.cells #[Value.string ⟨#[46]⟩, Value.string ⟨#[37, 50, 101]⟩, Value.string ⟨#[37, 50, 69]⟩] 9)).drewN nq) (w.heap.size + 1) (by simp)
  have hszc : (⟨#[c]⟩ : ByteArray).size = 1 := rfl
  go_wp2_with fail
  generalize (((w.alloc (.cells #[Value.string ⟨#[46]⟩, Value.string ⟨#[37, 50, 101]⟩, Value.string ⟨#[37, 50, 69]⟩] 9)).drewN nq).alloc (.cells #[.int .u8 c.toNat] 5)) = w1 at *
  clear hcv
  refine (single_of _ x rfl true Hxy.out.1 hb1 (by omega) Hm.out).mono ?_
  rintro e w2 ⟨rfl, hb2⟩
  clear hb1
  go_wp2_with fail
  refine (double_of _ x rfl false Hxy.out.2.1 hb2 (by omega) Hm.out).mono ?_
  rintro e w3 ⟨rfl, hb3⟩
  clear hb2
  go_wp2_with fail
  refine (double_of _ (x ++ y) (by simp) true Hxy.out.2.2.1 hb3 (by simp; omega) Hm.out).mono ?_
  rintro e w4 ⟨rfl, hb4⟩
  clear hb3
  go_wp2_with fail
  refine (single_of _ (x ++ y) (by simp) false Hxy.out.2.2.2.1 hb4 (by simp; omega) Hm.out).mono ?_
  rintro e w5 ⟨rfl, hb5⟩
  clear hb4
  go_wp2_with fail
  refine (single_of _ [] rfl false dots_nil.1 hb5 (by simp) Hm.out).mono ?_
  rintro e w6 ⟨rfl, hb6⟩
  clear hb5
  go_wp2_with fail
  refine (double_of _ [] rfl false dots_nil.2 hb6 (by simp) Hm.out).mono ?_
  rintro e w7 ⟨rfl, hb7⟩
  clear hb6
  go_wp2_with fail
  refine (double_of _ (x ++ y ++ x) (by simp) false Hxy.out.2.2.2.2 hb7 (by simp; omega) Hm.out).mono ?_
  rintro e w8 ⟨rfl, hb8⟩
  clear hb7
  by_cases hc : c = 46
  · have fc : ((c.toNat : Int) != 46) = false := by rw [bne, show ((c.toNat : Int) == 46) = true from byte_eq (d := 46) hc]; rfl
    clear hc Hodd Hxy
    by_cases hlong : 100 < s.length
    · have f1 : (100 : Int) < (s.length : Int) := by omega
      clear hlong
      go_wp2_with fail
      refine (calls_later (awake_any w8 (Hm.out.below hb8)) hb8).mono ?_
      rintro e v1 ⟨rfl, hv1⟩
      go_wp2
      go_ret
      exact ⟨rfl, hv1⟩
    · have f1 : ¬ (100 : Int) < (s.length : Int) := by omega
      have hll := lower_len s
      have hl100 : s.length ≤ 100 := by omega
      clear hlong
      go_wp2_with fail
      have hlow := calls_later (Tryd.strings_ToLower_any ⟨s.toArray⟩ w8 (by omega) (Lib.CaseVar_below HV.out hb8) (Utf8Tabs_below HT.out hb8)) hb8
      have e0 : (⟨s.toArray⟩ : ByteArray).data.toList = s := rfl
      rw [e0] at hlow
      refine hlow.mono ?_
      rintro e v1 ⟨rfl, hv1⟩
      clear hlow e0
      obtain ⟨m, hmc⟩ := (Hm.out.below hv1).2
      have hz := size_arr (Lib.toLowerD s)
      have hcnt := countB_le3' ⟨(Lib.toLowerD s).toArray⟩
      go_wp2_with fail
      have hrep := calls_later (Tryd.strings_ReplaceAll ⟨(Lib.toLowerD s).toArray⟩ ⟨#[37, 50, 101]⟩ ⟨#[46]⟩ m v1 (by omega) hmc (by decide) (by show _ + _ * 1 ≤ _; omega)) hv1
      refine hrep.mono ?_
      rintro e v2 ⟨rfl, hv2⟩
      have e1 : Lib.replaceAll (⟨(Lib.toLowerD s).toArray⟩ : ByteArray).data.toList (⟨#[37, 50, 101]⟩ : ByteArray).data.toList (⟨#[46]⟩ : ByteArray).data.toList = Lib.replaceAll (Lib.toLowerD s) [37, 50, 101] [46] := rfl
      rw [e1]
      have hS1 := single_lower (l := s)
      have hS2 := double_lower (l := s)
      generalize Lib.replaceAll (Lib.toLowerD s) [37, 50, 101] [46] = P at hS1 hS2 ⊢
      clear hrep e1 hmc hcnt hz hll hv1
      cases hbs : single s with
      | false =>
        cases hbd : double s with
        | false =>
          have Hs := Lib.hid hbs
          have Hd := Lib.hid hbd
          clear hbs hbd hS1 hS2
          go_wp2_with (first | (go_at_call 10; refine (single_of _ s rfl false Hs.out hv2 (by omega) Hm.out).mono ?_; rintro e v3 ⟨rfl, hv3⟩) | (go_at_call 11; refine (double_of _ s rfl false Hd.out hv3 (by omega) Hm.out).mono ?_; rintro e v4 ⟨rfl, hv4⟩) | (go_at_call 8; refine (calls_later (awake_any v4 (Hm.out.below hv4)) hv4).mono ?_; rintro e v5 ⟨rfl, hv5⟩))
          go_ret
          exact ⟨rfl, hv5⟩
        | true =>
          have hP2 : (P == [46, 46]) = true := by rw [hS2 hbd]; rfl
          have Hs := Lib.hid hbs
          have Hd := Lib.hid hbd
          clear hbs hbd hS1 hS2
          go_wp2_with (first | (go_at_call 10; refine (single_of _ s rfl false Hs.out hv2 (by omega) Hm.out).mono ?_; rintro e v3 ⟨rfl, hv3⟩) | (go_at_call 11; refine (double_of _ s rfl true Hd.out hv3 (by omega) Hm.out).mono ?_; rintro e v4 ⟨rfl, hv4⟩) | (go_at_call 8; refine (calls_later (awake_any v4 (Hm.out.below hv4)) hv4).mono ?_; rintro e v5 ⟨rfl, hv5⟩))
          all_goals go_ret
          all_goals exact ⟨rfl, hv5⟩
      | true =>
        have hP1 : (P == [46]) = true := by rw [hS1 hbs]; rfl
        have hbd : double s = false := by
          rw [double_dots]
          rw [single_dots] at hbs
          rw [beq_eq_false_iff_ne]
          rw [beq_iff_eq] at hbs
          omega
        have Hs := Lib.hid hbs
        have Hd := Lib.hid hbd
        clear hbs hbd hS1 hS2
        go_wp2_with (first | (go_at_call 10; refine (single_of _ s rfl true Hs.out hv2 (by omega) Hm.out).mono ?_; rintro e v3 ⟨rfl, hv3⟩) | (go_at_call 11; refine (double_of _ s rfl false Hd.out hv3 (by omega) Hm.out).mono ?_; rintro e v4 ⟨rfl, hv4⟩) | (go_at_call 8; refine (calls_later (awake_any v4 (Hm.out.below hv4)) hv4).mono ?_; rintro e v5 ⟨rfl, hv5⟩))
        all_goals go_ret
        all_goals exact ⟨rfl, hv5⟩
  · have fc : ((c.toNat : Int) != 46) = true := by rw [bne, show ((c.toNat : Int) == 46) = false from byte_ne (d := 46) hc]; rfl
    have Ho := Lib.hid (Hodd.out hc)
    clear hc Hodd Hxy
    go_wp2_with fail
    refine (single_of _ [c] rfl false Ho.out.1 hb8 (by simp) Hm.out).mono ?_
    rintro e w9 ⟨rfl, hb9⟩
    clear hb8
    go_wp2_with fail
    refine (double_of _ (x ++ [c]) (by simp) false Ho.out.2.1 hb9 (by simp; omega) Hm.out).mono ?_
    rintro e w10 ⟨rfl, hb10⟩
    clear hb9
    go_wp2_with fail
    refine (double_of _ ([c] ++ y) (by simp) false Ho.out.2.2.1 hb10 (by simp; omega) Hm.out).mono ?_
    rintro e w11 ⟨rfl, hb11⟩
    clear hb10
    go_wp2_with fail
    refine (single_of _ (x ++ [c]) (by simp) false Ho.out.2.2.2 hb11 (by simp; omega) Hm.out).mono ?_
    rintro e w12 ⟨rfl, hb12⟩
    clear hb11
    by_cases hlong : 100 < s.length
    · have f1 : (100 : Int) < (s.length : Int) := by omega
      clear hlong
      go_wp2_with fail
      refine (calls_later (awake_any w12 (Hm.out.below hb12)) hb12).mono ?_
      rintro e v1 ⟨rfl, hv1⟩
      go_wp2
      go_ret
      exact ⟨rfl, hv1⟩
    · have f1 : ¬ (100 : Int) < (s.length : Int) := by omega
      have hll := lower_len s
      have hl100 : s.length ≤ 100 := by omega
      clear hlong
      go_wp2_with fail
      have hlow := calls_later (Tryd.strings_ToLower_any ⟨s.toArray⟩ w12 (by omega) (Lib.CaseVar_below HV.out hb12) (Utf8Tabs_below HT.out hb12)) hb12
      have e0 : (⟨s.toArray⟩ : ByteArray).data.toList = s := rfl
      rw [e0] at hlow
      refine hlow.mono ?_
      rintro e v1 ⟨rfl, hv1⟩
      clear hlow e0
      obtain ⟨m, hmc⟩ := (Hm.out.below hv1).2
      have hz := size_arr (Lib.toLowerD s)
      have hcnt := countB_le3' ⟨(Lib.toLowerD s).toArray⟩
      go_wp2_with fail
      have hrep := calls_later (Tryd.strings_ReplaceAll ⟨(Lib.toLowerD s).toArray⟩ ⟨#[37, 50, 101]⟩ ⟨#[46]⟩ m v1 (by omega) hmc (by decide) (by show _ + _ * 1 ≤ _; omega)) hv1
      refine hrep.mono ?_
      rintro e v2 ⟨rfl, hv2⟩
      have e1 : Lib.replaceAll (⟨(Lib.toLowerD s).toArray⟩ : ByteArray).data.toList (⟨#[37, 50, 101]⟩ : ByteArray).data.toList (⟨#[46]⟩ : ByteArray).data.toList = Lib.replaceAll (Lib.toLowerD s) [37, 50, 101] [46] := rfl
      rw [e1]
      have hS1 := single_lower (l := s)
      have hS2 := double_lower (l := s)
      generalize Lib.replaceAll (Lib.toLowerD s) [37, 50, 101] [46] = P at hS1 hS2 ⊢
      clear hrep e1 hmc hcnt hz hll hv1
      cases hbs : single s with
      | false =>
        cases hbd : double s with
        | false =>
          have Hs := Lib.hid hbs
          have Hd := Lib.hid hbd
          clear hbs hbd hS1 hS2
          go_wp2_with (first | (go_at_call 10; refine (single_of _ s rfl false Hs.out hv2 (by omega) Hm.out).mono ?_; rintro e v3 ⟨rfl, hv3⟩) | (go_at_call 11; refine (double_of _ s rfl false Hd.out hv3 (by omega) Hm.out).mono ?_; rintro e v4 ⟨rfl, hv4⟩) | (go_at_call 8; refine (calls_later (awake_any v4 (Hm.out.below hv4)) hv4).mono ?_; rintro e v5 ⟨rfl, hv5⟩))
          go_ret
          exact ⟨rfl, hv5⟩
        | true =>
          have hP2 : (P == [46, 46]) = true := by rw [hS2 hbd]; rfl
          have Hs := Lib.hid hbs
          have Hd := Lib.hid hbd
          clear hbs hbd hS1 hS2
          go_wp2_with (first | (go_at_call 10; refine (single_of _ s rfl false Hs.out hv2 (by omega) Hm.out).mono ?_; rintro e v3 ⟨rfl, hv3⟩) | (go_at_call 11; refine (double_of _ s rfl true Hd.out hv3 (by omega) Hm.out).mono ?_; rintro e v4 ⟨rfl, hv4⟩) | (go_at_call 8; refine (calls_later (awake_any v4 (Hm.out.below hv4)) hv4).mono ?_; rintro e v5 ⟨rfl, hv5⟩))
          all_goals go_ret
          all_goals exact ⟨rfl, hv5⟩
      | true =>
        have hP1 : (P == [46]) = true := by rw [hS1 hbs]; rfl
        have hbd : double s = false := by
          rw [double_dots]
          rw [single_dots] at hbs
          rw [beq_eq_false_iff_ne]
          rw [beq_iff_eq] at hbs
          omega
        have Hs := Lib.hid hbs
        have Hd := Lib.hid hbd
        clear hbs hbd hS1 hS2
        go_wp2_with (first | (go_at_call 10; refine (single_of _ s rfl true Hs.out hv2 (by omega) Hm.out).mono ?_; rintro e v3 ⟨rfl, hv3⟩) | (go_at_call 11; refine (double_of _ s rfl false Hd.out hv3 (by omega) Hm.out).mono ?_; rintro e v4 ⟨rfl, hv4⟩) | (go_at_call 8; refine (calls_later (awake_any v4 (Hm.out.below hv4)) hv4).mono ?_; rintro e v5 ⟨rfl, hv5⟩))
        all_goals go_ret
        all_goals exact ⟨rfl, hv5⟩
#print axioms dots_main
end Go.Proofs.YtpahiipfmccbiaaDoor
