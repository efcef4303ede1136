/- Walk: six.piece: the number of a piece. Plain law and walk: a number of an inner address as the library parses it. Walk: six.inner: the two pieces of an inner address. -/
import Derived.Test.YtmobeppmdakjmaaDoorQ4
namespace Go.Proofs.YtmobeppmdakjmaaDoor
open Go.RowKit

theorem numB_lt (b : Nat) : ∀ (l : List UInt8) (n : Nat), digitsB b l = true → numB b n l < (n + 1) * b ^ l.length
  | [], n, _ => by simp [numB]
  | c :: t, n, h => by
    simp only [digitsB, List.all_cons, Bool.and_eq_true, decide_eq_true_eq] at h
    have ih := numB_lt b t (n * b + worth c) h.2
    rw [numB, List.length_cons, Nat.pow_succ]
    have h1 : n * b + worth c + 1 ≤ (n + 1) * b := by
      have := h.1
      rw [Nat.add_mul]
      omega
    have h2 := Nat.mul_le_mul_right (b ^ t.length) h1
    have h3 : (n + 1) * b * b ^ t.length = (n + 1) * (b ^ t.length * b) := by rw [Nat.mul_assoc, Nat.mul_comm b]
    omega
theorem piece_lt {p : List UInt8} (hl : p.length ≤ 4) (hd : digitsB 16 p = true) : numB 16 0 p < 65536 := by
  have h1 := numB_lt 16 p 0 hd
  have h2 : 16 ^ p.length ≤ 16 ^ 4 := Nat.pow_le_pow_right (by decide) hl
  simp only [Nat.zero_add, Nat.one_mul] at h1
  omega
set_option maxHeartbeats 1000000 in
theorem pub16s_ok (l : List UInt8) (hne : l ≠ []) (hdig : digitsB 16 l = true) (hmax : l.length ≤ 1000000) (n : Nat) (hn : numB 16 0 l = n) (h : n ≤ 65535) (w : World) :
    Calls Tryd.prog 49 #[.string ⟨l.toArray⟩, .int .i64 16, .int .i64 16] w fun e w' => e = .returned (.tuple #[.int .u64 (n : Int), .nilIface]) ∧ Below w.heap.size w w' := by
  have Hp := Lib.hid (pu_b16_16 l hne hdig hmax w)
  have hv : puV_b16_16 (numB 16 0 l) = .tuple #[.int .u64 (n : Int), .nilIface] := by rw [hn, puV_b16_16, if_pos h]
  rw [hv] at Hp
  clear hne hdig h hv hn
  go_enter Tryd.func49, Tryd.ntmps49
  go_wp2_with (go_at_call 89; refine Hp.out.mono ?_; rintro e w' ⟨rfl, hb⟩)
  go_ret2
  exact ⟨rfl, hb⟩
/-- What six.piece hands back. -/
def pieceV : Option Nat → Value
  | some n => .tuple #[.int .u16 (n : Int), .bool true]
  | none => .tuple #[.int .u16 0, .bool false]
set_option maxHeartbeats 2000000 in
set_option maxRecDepth 100000 in
theorem piece_any (p : List UInt8) (hl : p.length ≤ 1000000) (w : World) :
    Calls Tryd.prog 103 #[.string ⟨p.toArray⟩] w fun e w' => e = .returned (pieceV (piece6 p)) ∧ Below w.heap.size w w' := by
  have Hd := Lib.hid (digs6_at 16 4 p ⟨#[48, 49, 50, 51, 52, 53, 54, 55, 56, 57, 97, 98, 99, 100, 101, 102, 65, 66, 67, 68, 69, 70]⟩ (fun w => trim_hex p hl w) (by decide) w)
  by_cases h : p ≠ [] ∧ p.length ≤ 4 ∧ digitsB 16 p = true
  · obtain ⟨h1, h2, h3⟩ := h
    have e : digs6 16 4 p = true := by
      unfold digs6
      rw [h3, decide_eq_true h2]
      simp [h1]
    have hr : Hid (piece6 p = some (numB 16 0 p)) := by show _ = _; unfold piece6; rw [if_pos ⟨h1, h2, h3⟩]
    obtain ⟨n, hn⟩ : ∃ n, numB 16 0 p = n := ⟨_, rfl⟩
    have hlt := piece_lt h2 h3
    rw [hn] at hr hlt
    have Hp := Lib.hid (fun W => pub16s_ok p h1 h3 hl n hn (by omega) W)
    have hwr : IntKind.u16.wrap (n : Int) = (n : Int) := by rw [IntKind.wrap_u16]; omega
    rw [e] at Hd
    clear h1 h2 h3 e hn hlt
    go_enter Tryd.func103, Tryd.ntmps103
    go_wp2_with fail
    refine Hd.out.mono ?_
    rintro e w1 ⟨rfl, hc⟩
    go_wp2_with fail
    refine (Hp.out _).mono ?_
    rintro e w2 ⟨rfl, hc2⟩
    go_wp2
    go_region
    go_wp2
    go_ret2
    rw [hr.out]
    exact ⟨rfl, (hc.trans (hc2.mono hc.size)).drew⟩
  · have e : digs6 16 4 p = false := by
      unfold digs6
      rw [Bool.eq_false_iff]
      intro hh
      simp only [Bool.and_eq_true, decide_eq_true_eq, bne_iff_ne] at hh
      exact h hh
    have hr : Hid (piece6 p = none) := by show _ = _; unfold piece6; rw [if_neg h]
    rw [e] at Hd
    clear h e
    go_enter Tryd.func103, Tryd.ntmps103
    go_wp2_with fail
    refine Hd.out.mono ?_
    rintro e w1 ⟨rfl, hc⟩
    go_wp2
    go_ret2
    rw [hr.out]
    exact ⟨rfl, hc⟩
#print axioms piece_any
end Go.Proofs.YtmobeppmdakjmaaDoor
namespace Go.Proofs.YtmobeppmdakjmaaDoor
open Go.RowKit

theorem ten_of_worth {c : UInt8} (h : 48 ≤ c.toNat ∧ c.toNat ≤ 57) : worth c = c.toNat - 48 := by unfold worth; rw [if_pos h]
theorem worth_not_ten {c : UInt8} (h : ¬ (48 ≤ c.toNat ∧ c.toNat ≤ 57)) : ¬ worth c < 10 := by
  intro hw
  have := worth_ten hw
  exact h ⟨this.1, this.2.1⟩
/-- What the library's parse says at base ten, below some bound. -/
theorem parseM_digits (M : Nat) (hM : M ≤ 4294967295) : ∀ (l : List UInt8) (acc : Nat), acc ≤ M → (Lib.parseUintM M acc l = .ok (numB 10 acc l) ∧ digitsB 10 l = true ∧ numB 10 acc l ≤ M) ∨ ((Lib.parseUintM M acc l = .range ∨ Lib.parseUintM M acc l = (Lib.parseUintB 8 [])) ∧ ¬ (digitsB 10 l = true ∧ numB 10 acc l ≤ M))
  | [], acc, h => .inl ⟨rfl, rfl, h⟩
  | c :: t, acc, h => by
    by_cases hc : 48 ≤ c.toNat ∧ c.toNat ≤ 57
    · have hw := ten_of_worth hc
      have hd : digitsB 10 (c :: t) = digitsB 10 t := by
        unfold digitsB
        rw [List.all_cons, hw, decide_eq_true (by omega)]
        rfl
      rw [Lib.parseUintM, if_pos hc, numB, hw, hd, if_neg (by omega)]
      by_cases h1 : M < acc * 10 + (c.toNat - 48)
      · right
        have hge := numB_ge 10 (by decide) t (acc * 10 + (c.toNat - 48))
        rw [if_pos h1]
        exact ⟨.inl rfl, fun hh => by omega⟩
      · rw [if_neg h1]
        exact parseM_digits M hM t _ (by omega)
    · right
      rw [Lib.parseUintM, if_neg hc]
      refine ⟨.inr rfl, fun hh => ?_⟩
      have := hh.1
      unfold digitsB at this
      simp only [List.all_cons, Bool.and_eq_true, decide_eq_true_eq] at this
      exact worth_not_ten hc this.1
/-- strconv.ParseUint at base ten and eight bits. -/
theorem pu8_any (p : List UInt8) (hl : p.length ≤ 1000000) (w : World) (ho : Ok w) :
    Calls Tryd.prog 49 #[.string ⟨p.toArray⟩, .int .i64 10, .int .i64 8] w fun e w' =>
      ((p ≠ [] ∧ digitsB 10 p = true ∧ numB 10 0 p ≤ 255 ∧ e = .returned (.tuple #[.int .u64 (numB 10 0 p : Int), .nilIface])) ∨
       (¬ (p ≠ [] ∧ digitsB 10 p = true ∧ numB 10 0 p ≤ 255) ∧ ∃ (u : Int) (te : TypeId) (pe : Value), e = .returned (.tuple #[.int .u64 u, .iface te pe]))) ∧ Below w.heap.size w w' := by
  have hsz := size_str p
  obtain ⟨te, pe, hes⟩ := ho.es
  obtain ⟨te', pe', her⟩ := ho.er
  have bad : ∀ (hB : Lib.parseUintB 8 p = .range ∨ Lib.parseUintB 8 p = (Lib.parseUintB 8 [])), Calls Tryd.prog 49 #[.string ⟨p.toArray⟩, .int .i64 10, .int .i64 8] w fun e w' => (∃ (u : Int) (te : TypeId) (pe : Value), e = .returned (.tuple #[.int .u64 u, .iface te pe])) ∧ Below w.heap.size w w' := by
    rintro (hB | hB)
    · refine (Tryd.strconv_ParseUint_10_at8_range ⟨p.toArray⟩ (by omega) hB _ w her (.inr ⟨te', pe', rfl⟩)).mono ?_
      rintro e w' ⟨N, rfl, _, _, hb⟩
      exact ⟨⟨_, _, _, rfl⟩, hb⟩
    · refine (Tryd.strconv_ParseUint_10_at8_syntax ⟨p.toArray⟩ (by omega) hB _ w hes (.inr ⟨te, pe, rfl⟩)).mono ?_
      rintro e w' ⟨N, rfl, _, _, hb⟩
      exact ⟨⟨_, _, _, rfl⟩, hb⟩
  by_cases hne : p = []
  · refine (bad (.inr (by rw [hne]))).mono ?_
    rintro e w' ⟨h, hb⟩
    exact ⟨.inr ⟨fun hh => hh.1 hne, h⟩, hb⟩
  · have hB : Lib.parseUintB 8 p = Lib.parseUintM 255 0 p := by rw [Lib.parseUintB, if_neg hne]
    rcases parseM_digits 255 (by decide) p 0 (by decide) with ⟨h1, h2, h3⟩ | ⟨h1, h2⟩
    · refine (Tryd.strconv_ParseUint_10_at8_ok ⟨p.toArray⟩ (by omega) (numB 10 0 p) (by rw [← h1, ← hB]) w).mono ?_
      rintro e w' ⟨rfl, hw⟩
      refine ⟨.inl ⟨hne, h2, h3, rfl⟩, ?_⟩
      rcases hw with rfl | rfl
      · exact Below.refl _ _
      · exact Lib.bytesWorld_below w 5 ⟨p.toArray⟩
    · refine (bad (by rw [hB]; exact h1)).mono ?_
      rintro e w' ⟨h, hb⟩
      exact ⟨.inr ⟨fun hh => h2 hh.2, h⟩, hb⟩
#print axioms pu8_any
end Go.Proofs.YtmobeppmdakjmaaDoor
namespace Go.Proofs.YtmobeppmdakjmaaDoor
open Go.RowKit

/-- What a call leaves that hands back some numbers of sixteen bits, or none. -/
def PartV (o : Option (List Nat)) (w : World) (e : Ending) (w' : World) : Prop :=
  match o with
  | none => e = .returned (.tuple #[.slice none 0 0, .bool false]) ∧ Below w.heap.size w w'
  | some l => ∃ A c, e = .returned (.tuple #[.slice A l.length c, .bool true]) ∧ Rd w' w'.heap.size A (u16V l) ∧ l.length ≤ c ∧ Below w.heap.size w w'
theorem digs6_ten (p : List UInt8) (hl : p.length ≤ 1000000) (w : World) :
    Calls Tryd.prog 132 #[.string ⟨p.toArray⟩, .int .i64 3, .string ⟨#[48, 49, 50, 51, 52, 53, 54, 55, 56, 57]⟩] w fun e w' => e = .returned (.bool (digs6 10 3 p)) ∧ Below w.heap.size w w' :=
  digs6_at 10 3 p _ (fun w => trim_any p hl w) (by decide) w
theorem inner_none {s : List UInt8} {k : Nat} (h4 : (splitC 46 [] s).length = 4) (hk : k < (splitC 46 [] s).length) (h : dig4 (splitC 46 [] s)[k] = none) : inner6 s = none := by
  unfold inner6
  generalize splitC 46 [] s = P at *
  match P, h4 with
  | [a, b, c, d], _ =>
    have q : k = 0 ∨ k = 1 ∨ k = 2 ∨ k = 3 := by simp only [List.length_cons, List.length_nil] at hk; omega
    rcases q with rfl | rfl | rfl | rfl
    all_goals
      simp only [List.getElem_cons_zero, List.getElem_cons_succ] at h
      simp only [h]
      try rfl
    · cases dig4 a <;> rfl
    · cases dig4 a <;> cases dig4 b <;> rfl
    · cases dig4 a <;> cases dig4 b <;> cases dig4 c <;> rfl
theorem inner_some {s : List UInt8} {a b c d : Nat} (h4 : (splitC 46 [] s).length = 4) (h : ∀ (j : Nat) (hj : j < (splitC 46 [] s).length), dig4 (splitC 46 [] s)[j] = [a, b, c, d][j]?) : inner6 s = some [a * 256 + b, c * 256 + d] := by
  unfold inner6
  generalize splitC 46 [] s = P at *
  match P, h4 with
  | [p0, p1, p2, p3], _ =>
    have h0 := h 0 (by simp)
    have h1 := h 1 (by simp)
    have h2 := h 2 (by simp)
    have h3 := h 3 (by simp)
    simp at h0 h1 h2 h3
    simp only [h0, h1, h2, h3]
theorem inner_len {s : List UInt8} (h4 : (splitC 46 [] s).length ≠ 4) : inner6 s = none := by
  unfold inner6
  split
  · rename_i h; rw [h] at h4; simp at h4
  · rfl
theorem or_bytes (a b : Nat) (ha : a < 256) (hb : b < 256) : bits BinOp.or IntKind.u16 ((a : Int) * 256) (b : Int) = ((a * 256 + b : Nat) : Int) := by
  have h1 : (BitVec.ofInt 16 ((a : Int) * 256)).toNat = a * 256 := by
    rw [show (a : Int) * 256 = ((a * 256 : Nat) : Int) from by omega, BitVec.ofInt_natCast, BitVec.toNat_ofNat]; exact Nat.mod_eq_of_lt (by omega)
  have h2 : (BitVec.ofInt 16 (b : Int)).toNat = b := by
    rw [BitVec.ofInt_natCast, BitVec.toNat_ofNat]; exact Nat.mod_eq_of_lt (by omega)
  show IntKind.u16.wrap ((BitVec.ofInt 16 ((a : Int) * 256) ||| BitVec.ofInt 16 (b : Int)).toNat : Int) = _
  have h3 : a * 256 ||| b = a * 256 + b := by
    have := Nat.shiftLeft_add_eq_or_of_lt (show b < 2 ^ 8 from hb) a
    rw [Nat.shiftLeft_eq] at this
    exact this.symm
  rw [BitVec.toNat_or, h1, h2, h3, IntKind.wrap_u16]
  omega
theorem put_at (vs : List Nat) (k v : Nat) (hl : vs.length = k) (hk : k < 4) : (u16V (vs ++ List.replicate (4 - k) 0)).set k (.int .u16 (v : Int)) = u16V ((vs ++ [v]) ++ List.replicate (4 - (k + 1)) 0) := by
  rw [show 4 - k = (4 - (k + 1)) + 1 by omega, List.replicate_succ]
  unfold u16V
  rw [List.map_append, List.map_cons, List.set_append_right _ _ (by simp [hl]), List.length_map, hl, Nat.sub_self, List.set_cons_zero]
  simp
theorem next_at {P : List (List UInt8)} {vs : List Nat} {k v : Nat} (h : ∀ (j : Nat) (hj : j < P.length), j < k → dig4 P[j] = vs[j]?) (hl : vs.length = k) (hk : k < P.length) (hv : dig4 P[k] = some v) :
    ∀ (j : Nat) (hj : j < P.length), j < k + 1 → dig4 P[j] = (vs ++ [v])[j]? := by
  intro j hj hjk
  by_cases e : j = k
  · subst e
    rw [hv, List.getElem?_append_right (by omega), hl, Nat.sub_self]
    rfl
  · rw [h j hj (by omega), List.getElem?_append_left (by omega)]
set_option maxHeartbeats 8000000 in
set_option maxRecDepth 100000 in
theorem inner_any (s : List UInt8) (hl : s.length ≤ 1000000) (w : World) (ho : Ok w) :
    Calls Tryd.prog 102 #[.string ⟨s.toArray⟩] w (PartV (inner6 s) w) := by
  have Hs := Lib.hid (split_any 46 s hl w ho)
  have hmem : ∀ p ∈ splitC 46 [] s, p.length ≤ 1000000 := fun p hp => by
    have := splitC_mem 46 s [] p hp
    simp only [List.length_nil] at this
    omega
  have HN := Lib.hid (fun k h4 hk h => inner_none (s := s) (k := k) h4 hk h)
  have HS := Lib.hid (fun a b c d h4 h => inner_some (s := s) (a := a) (b := b) (c := c) (d := d) h4 h)
  have HL := Lib.hid (fun h4 => inner_len (s := s) h4)
  generalize splitC 46 [] s = P at *
  have hrd := Lib.hid (rd_new w (strV P) 9)
  have hb : Below w.heap.size w (w.alloc (.cells (strV P).toArray 9)) := (Below.refl _ w).alloc (Nat.le_refl _) _
  have Hb := Lib.hid hb
  have Ho := Lib.hid (ho.below hb)
  have Hmem := Lib.hid hmem
  clear hb ho hmem
  by_cases h4 : P.length = 4
  · have f1 : ((P.length : Int) == 4) = true := by rw [beq_iff_eq]; omega
    have H4 := Lib.hid h4
    rw [h4] at Hs
    have hsz : w.heap.size + 1 = (w.alloc (.cells (strV P).toArray 9)).heap.size := by simp
    generalize hW1 : w.alloc (.cells (strV P).toArray 9) = W1 at *
    have hown0 := World.ownsRow_lit (base := w.heap.size) (e := 147) (size := 1) W1 #[.int .u16 0, .int .u16 0, .int .u16 0, .int .u16 0] 4 (by omega) (by decide) rfl
    have hb0 : Below w.heap.size w (W1.alloc (.cells #[.int .u16 0, .int .u16 0, .int .u16 0, .int .u16 0] 147)) := Hb.out.alloc (by omega) _
    have hrd1 : Rd (W1.alloc (.cells #[.int .u16 0, .int .u16 0, .int .u16 0, .int .u16 0] 147)) (w.heap.size + 1) (some ⟨w.heap.size, 0, none⟩) (strV P) := hrd.out.alloc (by omega) _
    have Hown0 := Lib.hid hown0
    have Hb0 := Lib.hid hb0
    have Hrd1 := Lib.hid hrd1
    have HW1 := Lib.hid hW1
    clear hown0 hb0 hrd1 hW1 f1
    go_enter Tryd.func102, Tryd.ntmps102
    go_wp2_with fail
    refine Hs.out.mono ?_
    rintro e w' ⟨rfl, hw⟩
    subst w'
    go_wp2
    go_loopw [17] (fun i wr => ∃ (k : Nat) (vs : List Nat), k ≤ 4 ∧ vs.length = k ∧ i = .int .i64 (k : Int) ∧ Hid (∀ (j : Nat) (hj : j < P.length), j < k → dig4 P[j] = vs[j]?) ∧ Hid (wr.ownsRow w.heap.size 147 1 (.slice (some ⟨W1.heap.size, 0, none⟩) 4 4) 4 (u16V (vs ++ List.replicate (4 - k) 0))) ∧ Below w.heap.size w wr ∧ Hid (Below (w.heap.size + 1) W1 wr)) (fun i _ => (4 - intOf i).toNat)
    case atStart => exact ⟨0, [], Nat.zero_le _, rfl, rfl, (fun j _ h => absurd h (Nat.not_lt_zero _)), Hown0.out, Hb0.out, (Below.refl _ _).alloc (by omega) _⟩
    case round =>
      obtain ⟨k, vs, hk, hvl, rfl, hvs, hown, hbw, hbW⟩ := hrel
      have hor := Lib.hid (Ho.out.below ((hbW.out.mono (by omega) : Below W1.heap.size W1 wr)))
      by_cases hlt : k < 4
      · have i1 : (k : Int) < 4 := by omega
        have hkP : k < P.length := by have := H4.out; omega
        obtain ⟨p, hp⟩ : ∃ p, P[k] = p := ⟨_, rfl⟩
        have HP := Lib.hid hp
        have hp6 : p.length ≤ 1000000 := by rw [← hp]; exact Hmem.out _ (List.getElem_mem hkP)
        have hcell : wr.cell? ⟨w.heap.size, k, none⟩ = some (.string ⟨p.toArray⟩) := by
          have := hrd.out.cell (strV_get (List.getElem?_eq_getElem hkP))
          rw [Nat.zero_add, hp] at this
          exact (hbW.out.cell (p := ⟨w.heap.size, k, none⟩) (Nat.lt_succ_self _)).trans this
        have hszp := size_str p
        clear hp
        go_wp2_with fail
        refine (pu8_any p hp6 wr hor.out).mono ?_
        rintro e w2 ⟨hpu, hc⟩
        have hownB := Lib.hid (own_below hown.out hc (Nat.le_refl _))
        have hbw2 := hbw.trans (hc.mono hbw.size)
        have hbW2 := Lib.hid (hbW.out.trans (hc.mono (by have := hbW.out.size; omega)))
        have hsw2 : W1.heap.size ≤ w2.heap.size := hbW2.out.size
        have Hd := Lib.hid (digs6_ten p hp6 w2)
        clear hcell hor hown hbw hbW hc
        rcases hpu with ⟨h1, h2, h3, rfl⟩ | ⟨hbad, u, te, pe, rfl⟩
        · obtain ⟨v, hv⟩ : ∃ v, numB 10 0 p = v := ⟨_, rfl⟩
          rw [hv] at h3 ⊢
          have hwr : IntKind.u16.wrap (v : Int) = (v : Int) := by rw [IntKind.wrap_u16]; omega
          have Hv := Lib.hid hv
          have H2 := Lib.hid h2
          have H3 := Lib.hid h3
          clear hv h2 h3
          by_cases hl3 : p.length ≤ 3
          · have hd6 : digs6 10 3 p = true := by unfold digs6; rw [H2.out, decide_eq_true hl3]; simp [h1]
            rw [hd6] at Hd
            have HL3 := Lib.hid hl3
            clear hd6 hl3
            obtain ⟨c, t, hct⟩ := List.exists_cons_of_ne_nil h1
            have H1 := Lib.hid h1
            clear h1
            subst hct
            have hbt : ∀ h, (⟨(c :: t).toArray⟩ : ByteArray)[0]'h = c := fun _ => rfl
            by_cases h1l : 1 < (c :: t).length
            · have f2 : (1 : Int) < (t.length : Int) + 1 := by simp only [List.length_cons] at h1l; omega
              by_cases hc48 : c = 48
              · have f3 : ((c.toNat : Int) == 48) = true := by rw [hc48]; rfl
                have HC := Lib.hid hc48
                clear hc48
                go_wp2_with fail
                refine Hd.out.mono ?_
                rintro e w3 ⟨rfl, hc2⟩
                have hr := Lib.hid (HN.out k H4.out hkP (by rw [HP.out]; unfold dig4; rw [if_neg (fun hh => hh.2.2.2.1 ⟨h1l, by rw [HC.out]; rfl⟩)]))
                go_wp2
                go_ret2
                rw [hr.out]
                exact ⟨rfl, hbw2.trans (hc2.mono hbw2.size)⟩
              · have f3 : ((c.toNat : Int) == 48) = false := by
                  rw [beq_eq_false_iff_ne]
                  intro e
                  exact hc48 (UInt8.toNat_inj.1 (by have : (48 : UInt8).toNat = 48 := rfl; omega))
                have HC := Lib.hid hc48
                clear hc48
                go_wp2_with fail
                refine Hd.out.mono ?_
                rintro e w3 ⟨rfl, hc2⟩
                have hdg : Hid (dig4 (c :: t) = some v) := by show _ = _; unfold dig4; rw [if_pos ⟨H1.out, HL3.out, H2.out, fun hh => HC.out (by simpa using hh.2), by rw [Hv.out]; have := H3.out; omega⟩, Hv.out]
                have hcl := (own_below hownB.out hc2 (Nat.le_refl _)).cellAt k (by omega)
                have hfz := (own_below hownB.out hc2 (Nat.le_refl _)).frozenAt k
                rw [u16V_get (n := 0) (by rw [List.getElem?_append_right (by omega), hvl, Nat.sub_self, List.getElem?_replicate, if_pos (by omega)])] at hcl
                obtain ⟨hst, hgs⟩ := (own_below hownB.out hc2 (Nat.le_refl _)).stored k (.int .u16 (v : Int))
                rw [show (u16V (vs ++ List.replicate (4 - k) 0)).set k (.int .u16 (v : Int)) = u16V ((vs ++ [v]) ++ List.replicate (4 - (k + 1)) 0) from put_at vs k v hvl hlt] at hst
                have hbw3 : Below w.heap.size w (w3.setCell ⟨W1.heap.size, k, none⟩ (.int .u16 (v : Int))) := (hbw2.trans (hc2.mono hbw2.size)).setCell (by simp only; omega) _
                have hbW3 : Hid (Below (w.heap.size + 1) W1 (w3.setCell ⟨W1.heap.size, k, none⟩ (.int .u16 (v : Int)))) := (hbW2.out.trans (hc2.mono (by have := hbW2.out.size; omega))).setCell (by simp only; omega) _
                have hvs3 : Hid (∀ (j : Nat) (hj : j < P.length), j < k + 1 → dig4 P[j] = (vs ++ [v])[j]?) := next_at hvs.out hvl hkP (by rw [HP.out]; exact hdg.out)
                clear hgs
                go_wp2
                exact ⟨⟨k + 1, vs ++ [v], by omega, by simp [hvl], rfl, hvs3.out, hst, hbw3, hbW3.out⟩, by simp [intOf]; omega⟩
            · have f2 : ¬ (1 : Int) < (t.length : Int) + 1 := by simp only [List.length_cons] at h1l; omega
              go_wp2_with fail
              refine Hd.out.mono ?_
              rintro e w3 ⟨rfl, hc2⟩
              have hdg : Hid (dig4 (c :: t) = some v) := by show _ = _; unfold dig4; rw [if_pos ⟨H1.out, HL3.out, H2.out, fun hh => h1l hh.1, by rw [Hv.out]; have := H3.out; omega⟩, Hv.out]
              have hcl := (own_below hownB.out hc2 (Nat.le_refl _)).cellAt k (by omega)
              have hfz := (own_below hownB.out hc2 (Nat.le_refl _)).frozenAt k
              rw [u16V_get (n := 0) (by rw [List.getElem?_append_right (by omega), hvl, Nat.sub_self, List.getElem?_replicate, if_pos (by omega)])] at hcl
              obtain ⟨hst, hgs⟩ := (own_below hownB.out hc2 (Nat.le_refl _)).stored k (.int .u16 (v : Int))
              rw [show (u16V (vs ++ List.replicate (4 - k) 0)).set k (.int .u16 (v : Int)) = u16V ((vs ++ [v]) ++ List.replicate (4 - (k + 1)) 0) from put_at vs k v hvl hlt] at hst
              have hbw3 : Below w.heap.size w (w3.setCell ⟨W1.heap.size, k, none⟩ (.int .u16 (v : Int))) := (hbw2.trans (hc2.mono hbw2.size)).setCell (by simp only; omega) _
              have hbW3 : Hid (Below (w.heap.size + 1) W1 (w3.setCell ⟨W1.heap.size, k, none⟩ (.int .u16 (v : Int)))) := (hbW2.out.trans (hc2.mono (by have := hbW2.out.size; omega))).setCell (by simp only; omega) _
              have hvs3 : Hid (∀ (j : Nat) (hj : j < P.length), j < k + 1 → dig4 P[j] = (vs ++ [v])[j]?) := next_at hvs.out hvl hkP (by rw [HP.out]; exact hdg.out)
              clear hgs
              go_wp2
              exact ⟨⟨k + 1, vs ++ [v], by omega, by simp [hvl], rfl, hvs3.out, hst, hbw3, hbW3.out⟩, by simp [intOf]; omega⟩
          · have hd6 : digs6 10 3 p = false := by unfold digs6; rw [decide_eq_false hl3]; simp
            rw [hd6] at Hd
            clear hd6
            go_wp2_with fail
            refine Hd.out.mono ?_
            rintro e w3 ⟨rfl, hc2⟩
            have hr := Lib.hid (HN.out k H4.out hkP (by rw [HP.out]; unfold dig4; rw [if_neg (fun hh => hl3 hh.2.1)]))
            go_wp2
            go_ret2
            rw [hr.out]
            exact ⟨rfl, hbw2.trans (hc2.mono hbw2.size)⟩
        · have Hbad := Lib.hid hbad
          clear hbad
          cases hd6 : digs6 10 3 p
          · rw [hd6] at Hd
            clear hd6
            go_wp2_with fail
            refine Hd.out.mono ?_
            rintro e w3 ⟨rfl, hc2⟩
            have hr := Lib.hid (HN.out k H4.out hkP (by rw [HP.out]; unfold dig4; rw [if_neg (fun hh => Hbad.out ⟨hh.1, hh.2.2.1, by have := hh.2.2.2.2; omega⟩)]))
            go_wp2
            go_ret2
            rw [hr.out]
            exact ⟨rfl, hbw2.trans (hc2.mono hbw2.size)⟩
          · rw [hd6] at Hd
            clear hd6
            go_wp2_with fail
            refine Hd.out.mono ?_
            rintro e w3 ⟨rfl, hc2⟩
            have hr := Lib.hid (HN.out k H4.out hkP (by rw [HP.out]; unfold dig4; rw [if_neg (fun hh => Hbad.out ⟨hh.1, hh.2.2.1, by have := hh.2.2.2.2; omega⟩)]))
            go_wp2
            go_ret2
            rw [hr.out]
            exact ⟨rfl, hbw2.trans (hc2.mono hbw2.size)⟩
      · obtain rfl : k = 4 := by omega
        obtain ⟨a, b, c, d, hv4⟩ : ∃ a b c d, vs = [a, b, c, d] := by
          match vs, hvl with
          | [a, b, c, d], _ => exact ⟨a, b, c, d, rfl⟩
        subst hv4
        have hr := Lib.hid (HS.out a b c d H4.out (fun j hj => hvs.out j hj (by have := H4.out; omega)))
        have hlt : ∀ (j n : Nat), [a, b, c, d][j]? = some n → n < 256 := fun j n hjn => by
          have hj : j < 4 := (List.getElem?_eq_some_iff.1 hjn).1
          have hjP : j < P.length := by have := H4.out; omega
          have e := hvs.out j hjP hj
          rw [hjn] at e
          unfold dig4 at e
          split at e
          · rename_i hh
            injection e with e
            omega
          · cases e
        have ha := hlt 0 a rfl
        have hb := hlt 1 b rfl
        have hc := hlt 2 c rfl
        have hd := hlt 3 d rfl
        have c0 := hown.out.cellAt 0 (by decide)
        have c1 := hown.out.cellAt 1 (by decide)
        have c2 := hown.out.cellAt 2 (by decide)
        have c3 := hown.out.cellAt 3 (by decide)
        simp only [Nat.sub_self, List.replicate_zero, List.append_nil, u16V, List.map_cons, List.map_nil, List.getElem?_cons_zero, List.getElem?_cons_succ] at c0 c1 c2 c3
        have e1 := Lib.hid (or_bytes a b ha hb)
        have e2 := Lib.hid (or_bytes c d hc hd)
        clear hlt hvs hown
        go_wp2
        go_ret2
        rw [hr.out]
        have hrd2 := rd_new wr (u16V [a * 256 + b, c * 256 + d]) 43
        refine ⟨some ⟨wr.heap.size, 0, none⟩, 2, rfl, ?_, Nat.le_refl _, hbw.alloc hbw.size _⟩
        rw [e1.out, e2.out]
        rw [World.size_alloc]
        exact hrd2
  · have f1 : ((P.length : Int) == 4) = false := by rw [beq_eq_false_iff_ne]; omega
    have hr := Lib.hid (HL.out h4)
    clear h4
    go_enter Tryd.func102, Tryd.ntmps102
    go_wp2_with fail
    refine Hs.out.mono ?_
    rintro e w' ⟨rfl, rfl⟩
    go_wp2
    go_ret2
    rw [hr.out]
    exact ⟨rfl, Hb.out⟩
#print axioms inner_any
end Go.Proofs.YtmobeppmdakjmaaDoor
