/- Walk: code points, coded by the set of a path (pct.Encode). -/
import Derived.Test.YtpahiipfmccbiaaDoorA4
import Derived.Test.YtpahiipfmccbiaaDoorM2
namespace Go.Proofs.YtpahiipfmccbiaaDoor
open Go.RowKit

def digs : ByteArray := ⟨#[48, 49, 50, 51, 52, 53, 54, 55, 56, 57, 65, 66, 67, 68, 69, 70]⟩
theorem digs_at : ∀ n : Fin 16, digs[n.val]'n.2 = hexB n.val := by decide
theorem dig_at (n : Nat) (h : n < 16) (h' : n < (⟨#[48, 49, 50, 51, 52, 53, 54, 55, 56, 57, 65, 66, 67, 68, 69, 70]⟩ : ByteArray).size) :
    (⟨#[48, 49, 50, 51, 52, 53, 54, 55, 56, 57, 65, 66, 67, 68, 69, 70]⟩ : ByteArray)[n]'h' = hexB n := digs_at ⟨n, h⟩
theorem code_cells (xs : List UInt8) (bs : List UInt8) (j : Nat) (hj : j < bs.length) (a b : Int) (ha : a = (hexB (bs[j].toNat / 16)).toNat) (hb : b = (hexB (bs[j].toNat % 16)).toNat) :
    Lib.byteCells (xs ++ (bs.take j).flatMap codeB) ++ [.int .u8 37] ++ [.int .u8 a] ++ [.int .u8 b] = Lib.byteCells (xs ++ (bs.take (j + 1)).flatMap codeB) := by
  subst ha hb
  rw [List.take_succ_eq_append_getElem hj, List.flatMap_append, ← List.append_assoc, Lib.byteCells, Lib.byteCells, List.map_append (l₂ := List.flatMap codeB [bs[j]])]
  simp [codeB]
theorem codes_le (bs : List UInt8) (j : Nat) : ((bs.take j).flatMap codeB).length ≤ 3 * bs.length := by
  induction bs generalizing j with
  | nil => simp
  | cons b t ih =>
    cases j with
    | zero => simp
    | succ j => have := ih j; simp only [List.take_succ_cons, List.flatMap_cons, List.length_append, List.length_cons, codeB, List.length_nil] at this ⊢; omega
theorem wb_below {w : World} {base b : Nat} {v : Value} {bs : List Value} (h : Bld w base b v bs) : ∀ k, k < base → ¬ (k = b ∨ v.ownBlock = some k) := by
  rintro k hk (rfl | e)
  · have := h.hB; omega
  · have := (h.own.lt k e).1; omega
theorem byteCells_append (a b : List UInt8) : Lib.byteCells (a ++ b) = Lib.byteCells a ++ Lib.byteCells b := by simp [Lib.byteCells]
theorem byteCells_length (a : List UInt8) : (Lib.byteCells a).length = a.length := by simp [Lib.byteCells]
theorem encR_le (r : Int) : (encR r).length ≤ 12 := by
  unfold encR
  split
  · have := Lib.runeCells_le r
    rw [Lib.runeCells_length] at this
    generalize Lib.encodeRune r = l at this
    have h : (l.flatMap codeB).length = 3 * l.length := by
      clear this
      induction l with
      | nil => rfl
      | cons a t ih => simp only [List.flatMap_cons, List.length_append, ih, List.length_cons, codeB, List.length_nil]; omega
    omega
  · simp
theorem enc_le (rs : List Int) : (enc rs).length ≤ 12 * rs.length := by
  induction rs with
  | nil => simp [enc]
  | cons r t ih =>
    have := encR_le r
    simp only [enc, List.flatMap_cons, List.length_append, List.length_cons] at ih ⊢
    omega
theorem enc_snoc (rs : List Int) (r : Int) : enc (rs ++ [r]) = enc rs ++ encR r := by simp [enc]
theorem enc_append (rs ts : List Int) : enc (rs ++ ts) = enc rs ++ enc ts := by simp [enc]

set_option maxHeartbeats 1000000 in
set_option maxRecDepth 100000 in
theorem pctEncode_any (A : Option Addr) (c : Nat) (rs : List Int) (w : World) (B : Nat) (hr : Rd w B A (runV rs)) (hB : B ≤ w.heap.size) (hl : rs.length ≤ 1048576) :
    Calls Tryd.prog 9 #[.int .u8 5, .slice A rs.length c] w fun e w' => e = .returned (.tuple #[.string ⟨(enc rs).toArray⟩, .int .i64 0]) ∧ Below w.heap.size w w' := by
  go_enter Tryd.func9, Tryd.ntmps9
  go_wp2_with (first | (go_at_call 29; refine (more_any _).mono ?_; rintro e w' ⟨rfl, rfl⟩))
  go_loopw [22] (fun i wr => ∃ (k : Nat) (v : Value), k ≤ rs.length ∧ i = .int .i64 k ∧ Bld wr w.heap.size w.heap.size v (Lib.byteCells (enc (rs.take k))) ∧ Below w.heap.size w wr) (fun i _ => rs.length - (intOf i).toNat)
  case atStart => exact ⟨0, _, Nat.zero_le _, rfl, Bld.new w w.heap.size (Nat.le_refl _), (Below.refl _ _).alloc (Nat.le_refl _) _⟩
  case round =>
    obtain ⟨k, v, hk, rfl, hbld, hbw⟩ := hrel
    by_cases hlt : k < rs.length
    · have hr2 := hr.below (hbw.mono hB)
      obtain ⟨b, off, rfl, _, hc⟩ := hr2 k _ (runV_get (List.getElem?_eq_getElem hlt))
      have Hr := Lib.hid hr
      have hsz := hbw.size
      have hlen := enc_le (rs.take k)
      have hlen2 : (rs.take k).length ≤ k := List.length_take_le _ _
      have hsn : Hid (enc (rs.take (k + 1)) = enc (rs.take k) ++ encR rs[k]) := by show _ = _; rw [runV_take_succ hlt, enc_snoc]
      clear hr hr2
      by_cases hs : inP rs[k] = true
      · have hfin : Hid (enc (rs.take (k + 1)) = enc (rs.take k) ++ (Lib.encodeRune rs[k]).flatMap codeB) := by
          show _ = _
          rw [hsn.out, encR, if_pos hs]
        have hcnt := Lib.runeCells_le rs[k]
        rw [Lib.runeCells_length] at hcnt
        have hcells : Hid (encCells [rs[k]] = Lib.byteCells (Lib.encodeRune rs[k])) := by show _ = _; simp [encCells, Lib.byteCells_encodeRune]
        have hrd := rd_new wr [.int .i32 rs[k]] 21
        go_wp2_with (first | (go_at_call 30; refine (in_any _ _).mono ?_; rintro e w' ⟨rfl, rfl⟩) | (go_at_call 32; refine (utfEncode_any _ 1 [rs[k]] _ (wr.heap.size + 1) hrd (by simp) (by simp)).mono ?_))
        rintro e w1 ⟨vb, rfl, hownb, hbb⟩
        rw [hcells.out, World.size_alloc, byteCells_length] at hownb
        rw [World.size_alloc] at hbb
        have kk : Kp (fun i => wr.heap.size + 1 ≤ i) wr w1 := ((Kp.refl _ wr).alloc _).then (Kp.of_below hbb) (fun i _ h => h)
        have hltb := hbld.lt
        have htwo : Two w1 w.heap.size w.heap.size v (Lib.byteCells (enc (rs.take k) ++ ((Lib.encodeRune rs[k]).take 0).flatMap codeB)) (wr.heap.size + 1) vb (Lib.encodeRune rs[k]).length (Lib.byteCells (Lib.encodeRune rs[k])) := by
          refine ⟨by simpa using hbld.kept kk (by omega) (fun g hg => by have := (hbld.own.lt g hg).2; omega), hownb, ?_, ?_⟩
          · intro e; have := (hownb.lt _ e).1; omega
          · intro g hg e; have := (hownb.lt _ e).1; have := (hbld.own.lt g hg).2; omega
        have hbw1 : Below w.heap.size w w1 := hbw.trans (kk.below hsz (fun i hi h => by omega))
        obtain ⟨Ab, cb, rfl⟩ := own_slice hownb
        generalize hbs : Lib.encodeRune rs[k] = bs at htwo hcnt hfin
        clear hownb kk hbb hrd hbld hbw hltb hs
        have Hbs := Lib.hid hbs
        clear hbs hcells hc
        generalize hqb : wr.heap.size + 1 = qb at htwo
        have Hqb := Lib.hid hqb
        clear hqb
        go_wp2
        go_loopw [37] (fun i wi => ∃ (j : Nat) (v' : Value), j ≤ bs.length ∧ i = .int .i64 j ∧ Two wi w.heap.size w.heap.size v' (Lib.byteCells (enc (rs.take k) ++ (bs.take j).flatMap codeB)) qb (.slice Ab bs.length cb) bs.length (Lib.byteCells bs) ∧ Below w.heap.size w wi) (fun i _ => bs.length - (intOf i).toNat)
        case atStart => exact ⟨0, v, Nat.zero_le _, rfl, htwo, hbw1⟩
        case round =>
          obtain ⟨j, v', hj, rfl, htw, hbi⟩ := hrel
          by_cases hjl : j < bs.length
          · obtain ⟨b', off', rfl, _, hc'⟩ := Rd.of_own htw.row j (.int .u8 bs[j].toNat) (by simp [Lib.byteCells, List.getElem?_eq_getElem hjl])
            have hc255 : (bs[j].toNat : Int) < 256 := by have := bs[j].toNat_lt; omega
            have hszi := hbi.size
            have hcl := codes_le bs j
            have hn : (Lib.byteCells (enc (rs.take k) ++ (bs.take j).flatMap codeB)).length + 3 ≤ 140737488355328 := by rw [byteCells_length, List.length_append]; omega
            have hd1 : bs[j].toNat / 16 < 16 := by omega
            have hd2 : bs[j].toNat % 16 < 16 := by omega
            go_wp2_with fail
            refine (htw.write 37 _ (by omega) hszi).mono ?_
            rintro e w2 ⟨rfl, v2, htw2, hb2⟩
            have hs2 := hb2.size
            go_wp2_with fail
            refine (htw2.write _ _ (by simp only [List.length_append, List.length_cons, List.length_nil]; omega) (by omega)).mono ?_
            rintro e w3 ⟨rfl, v3, htw3, hb3⟩
            have hs3 := hb3.size
            go_wp2_with fail
            refine (htw3.write _ _ (by simp only [List.length_append, List.length_cons, List.length_nil]; omega) (by omega)).mono ?_
            rintro e w4 ⟨rfl, v4, htw4, hb4⟩
            rw [code_cells (enc (rs.take k)) bs j hjl _ _ (by rw [dig_at _ hd1]) (by rw [dig_at _ hd2])] at htw4
            go_wp2
            exact ⟨⟨j + 1, v4, by omega, by go_num, htw4, ((hbi.trans hb2).trans hb3).trans hb4⟩, by simp [intOf]; omega⟩
          · go_wp2
            rw [List.take_of_length_le (l := bs) (by omega), ← hfin.out] at htw
            exact ⟨⟨k + 1, v', by omega, by go_num, htw.bld, hbi⟩, by simp [intOf]; omega⟩
      · have hs2 : inP rs[k] = false := by simpa using hs
        have hb : 32 ≤ rs[k] ∧ rs[k] ≤ 126 := by simp [inP] at hs2; omega
        obtain ⟨hb1, hb2⟩ := hb
        have hfin : Hid (Lib.byteCells (enc (rs.take (k + 1))) = Lib.byteCells (enc (rs.take k)) ++ [.int .u8 rs[k]]) := by
          show _ = _
          rw [hsn.out, byteCells_append, encR, if_neg (by rw [hs2]; decide)]
          simp [Lib.byteCells]
          omega
        clear hs
        go_wp2_with (first | (go_at_call 30; refine (in_any _ _).mono ?_; rintro e w' ⟨rfl, rfl⟩) | (go_at_call 31; refine (writeByte_any w.heap.size w.heap.size v _ _ _ hbld (by rw [byteCells_length]; omega) hsz).mono ?_))
        rintro e w' ⟨rfl, v', hb', -, hk'⟩
        go_wp2
        exact ⟨⟨k + 1, v', by omega, by go_num, by rw [hfin.out]; exact hb', hbw.trans (hk'.below hsz (wb_below hbld))⟩, by simp [intOf]; omega⟩
    · go_wp2_with (go_at_call 33; refine (Tryd.Builder_String_any w.heap.size w.heap.size (enc (rs.take k)) _ hbld.is hbw.size).mono ?_)
      rintro e w' ⟨rfl, hb'⟩
      go_wp2
      go_ret2
      rw [List.take_of_length_le (by omega)]
      exact ⟨rfl, hbw.trans hb'⟩
end Go.Proofs.YtpahiipfmccbiaaDoor
