/- Walk: code points, coded by the set of a path, by the reference (Encode). -/
import Derived.Test.YtpahiipfmccbiaaDoorG3
import Derived.Laws.IdiomStrings
import Derived.StillTailTactics
import Derived.Deep.RegionHeld3
import Derived.Deep.RegionWith
import Derived.Deep.AppendLies
namespace Go.Proofs.YtpahiipfmccbiaaDoor
open Go.RowKit

/-- 'string(b)', b a row of the call's own. -/
theorem conv_bytes {w : World} {base n : Nat} {A : Option Addr} {c : Nat} {bs : List UInt8} (hown : w.ownsRow base 5 1 (.slice A n c) n (Lib.byteCells bs)) :
    (convert 40 9 (.slice A n c)).run Tryd.prog w = .ok (.string ⟨bs.toArray⟩) w := by
  have hl : bs.length = n := by have := hown.1; simpa [Lib.byteCells] using this
  subst hl
  rcases hown.2 with ⟨h0, h1⟩ | ⟨g, cap, cur, hv, _⟩
  · have hb : bs = [] := List.eq_nil_of_length_eq_zero h1
    subst hb
    cases h0
    rw [run_convert_bytes_string w 40 9 5 none _ _ Tryd.underlying40 Tryd.underlying5 Tryd.underlying9]
    rfl
  · cases hv
    refine run_convert_bytes_back w 40 9 5 ⟨g, 0, none⟩ c bs Tryd.underlying40 Tryd.underlying5 Tryd.underlying9 (fun j hj => ?_)
    exact hown.cells rfl j _ (by simp [Lib.byteCells, List.getElem?_eq_getElem hj])

theorem wrap_byte (b : UInt8) : IntKind.i64.wrap (b.toNat : Int) = b.toNat := by
  have := b.toNat_lt
  rw [IntKind.wrap_i64]; omega
theorem hexQ (x : UInt8) : IntKind.i64.wrap ((IntKind.i64.wrap (x.toNat : Int)).tdiv 16) = ((x.toNat / 16 : Nat) : Int) := by
  have hb := x.toNat_lt
  rw [wrap_byte, Int.tdiv_eq_ediv_of_nonneg (by omega), IntKind.wrap_i64]; omega
theorem hexR (x : UInt8) : (IntKind.i64.wrap (x.toNat : Int)).tmod 16 = ((x.toNat % 16 : Nat) : Int) := by
  have hb := x.toNat_lt
  rw [wrap_byte, Int.tmod_eq_emod_of_nonneg (by omega)]; omega
theorem bc_one (a b : Int) : ∀ u ∈ [Value.int .u8 37, .int .u8 a, .int .u8 b], u.oneCell' = true := by simp [Value.oneCell']

set_option maxHeartbeats 2000000 in
set_option maxRecDepth 100000 in
theorem refEncode_any (A : Option Addr) (c : Nat) (rs : List Int) (w : World) (B : Nat) (hr : Rd w B A (runV rs)) (hB : B ≤ w.heap.size) (hl : rs.length ≤ 1048576) (hcap : rs.length ≤ c) :
    Calls Tryd.prog 45 #[.int .u8 5, .slice A rs.length c] w fun e w' => e = .returned (.tuple #[.string ⟨(enc rs).toArray⟩, .int .i64 0]) ∧ Below w.heap.size w w' := by
  obtain ⟨i0, hi, hz0, hz1, hz2⟩ := info_parts Tryd.info5
  go_enter Tryd.func45, Tryd.ntmps45
  go_wp2
  go_loopw [6, 7, 8, 9] (fun v i _ _ wr => ∃ (k : Nat), k ≤ rs.length ∧ i = .int .i64 k ∧ wr.ownsRow w.heap.size 5 1 v (Lib.byteCells (enc (rs.take k))).length (Lib.byteCells (enc (rs.take k))) ∧ Below w.heap.size w wr) (fun _ i _ _ _ => rs.length - (intOf i).toNat)
  case atStart => exact ⟨0, Nat.zero_le _, rfl, World.ownsRow_nil _ _ _ _, Below.refl _ _⟩
  case round =>
    obtain ⟨k, hk, rfl, hown, hbw⟩ := hrel
    by_cases hlt : k < rs.length
    · have hr2 := hr.below (hbw.mono hB)
      obtain ⟨b, off, rfl, _, hc⟩ := hr2 k _ (runV_get (List.getElem?_eq_getElem hlt))
      have Hr := Lib.hid hr
      have hsz := hbw.size
      have hlen := enc_le (rs.take k)
      have hlen2 : (rs.take k).length ≤ k := List.length_take_le _ _
      have hbl := byteCells_length (enc (rs.take k))
      have hsn : Hid (enc (rs.take (k + 1)) = enc (rs.take k) ++ encR rs[k]) := by show _ = _; rw [runV_take_succ hlt, enc_snoc]
      by_cases hs : inP rs[k] = true
      · have hfin : Hid (enc (rs.take (k + 1)) = enc (rs.take k) ++ (Lib.encodeRune rs[k]).flatMap codeB) := by
          show _ = _
          rw [hsn.out, encR, if_pos hs]
        have hcnt := Lib.runeCells_le rs[k]
        rw [Lib.runeCells_length] at hcnt
        have hcells : encCells [rs[k]] = Lib.byteCells (Lib.encodeRune rs[k]) := by simp [encCells, Lib.byteCells_encodeRune]
        have hrd1 : Rd wr wr.heap.size (some ⟨b, off + k, none⟩) (runV [rs[k]]) := by
          intro j u hu
          match j, hu with
          | 0, hu =>
            simp only [runV, List.map_cons, List.map_nil, List.getElem?_cons_zero, Option.some.injEq] at hu
            subst hu
            exact ⟨b, off + k, rfl, World.block_lt_of_cell? wr _ hc, hc⟩
        have Hu := Lib.hid (refUtf_any (some ⟨b, off + k, none⟩) (c - k) [rs[k]] wr wr.heap.size hrd1 (Nat.le_refl _) (by simp))
        clear hr hr2 hrd1
        go_wp2_with (first | (go_at_call 61; refine (refIn_any _ _).mono ?_; rintro e w' ⟨rfl, rfl⟩) | (go_at_call 62; refine Hu.out.mono ?_))
        rintro e w1 ⟨vb, rfl, hownb, hbb⟩
        rw [hcells] at hownb
        have hown1 := own_below hown hbb (Nat.le_refl _)
        have hne1 : ∀ g, u6.ownBlock = some g → vb.ownBlock ≠ some g := fun g hg e => by
          have := (hownb.lt g e).1; have := (hown.lt g hg).2; omega
        have hbw1 := hbw.trans (hbb.mono hsz)
        obtain ⟨Ab, cb, rfl⟩ := own_slice hownb
        rw [byteCells_length] at hownb hne1
        have hbll : (Lib.byteCells (Lib.encodeRune rs[k])).length = (Lib.encodeRune rs[k]).length := byteCells_length _
        generalize hbs : Lib.encodeRune rs[k] = bs at hownb hcnt hfin hbll hne1
        have Hbs := Lib.hid hbs
        clear hbs hcells hc hown hbb hs hbw
        rw [hbll]
        generalize wr.heap.size = qb at *
        go_wp2
        go_loopw [6, 9] (fun v i wi => ∃ (j : Nat), j ≤ bs.length ∧ i = .int .i64 j ∧ wi.ownsRow w.heap.size 5 1 v (Lib.byteCells (enc (rs.take k) ++ (bs.take j).flatMap codeB)).length (Lib.byteCells (enc (rs.take k) ++ (bs.take j).flatMap codeB)) ∧
          wi.ownsRow qb 5 1 (.slice Ab bs.length cb) bs.length (Lib.byteCells bs) ∧ (∀ g, v.ownBlock = some g → Value.ownBlock (.slice Ab bs.length cb) ≠ some g) ∧ Below w.heap.size w wi) (fun _ i _ => bs.length - (intOf i).toNat)
        case atStart => exact ⟨0, Nat.zero_le _, rfl, by simpa using hown1, hownb, hne1, hbw1⟩
        case round =>
          obtain ⟨j, hj, rfl, ho, hq, hne, hbi⟩ := hrel
          by_cases hjl : j < bs.length
          · obtain ⟨b', off', rfl, hblt, hc'⟩ := Rd.of_own hq j (.int .u8 bs[j].toNat) (by simp [Lib.byteCells, List.getElem?_eq_getElem hjl])
            obtain ⟨x, Hx⟩ : ∃ x, Hid (x = bs[j]) := ⟨bs[j], Lib.hid rfl⟩
            rw [← Hx.out] at hc'
            have hc255 : (x.toNat : Int) < 256 := by have := x.toNat_lt; omega
            have hszi := hbi.size
            have hcl := codes_le bs j
            have hn : (Lib.byteCells (enc (rs.take k) ++ (bs.take j).flatMap codeB)).length + 3 ≤ 140737488355328 := by rw [byteCells_length, List.length_append]; omega
            have hvn := fun e => hne b' (Eq.symm e) rfl
            have Hne := Lib.hid hne
            have Hq := Lib.hid hq
            clear hne hq
            have hq : 0 ≤ (IntKind.i64.wrap ((IntKind.i64.wrap (x.toNat : Int)).tdiv 16)) ∧ (IntKind.i64.wrap ((IntKind.i64.wrap (x.toNat : Int)).tdiv 16)) < 16 := by have := x.toNat_lt; rw [hexQ]; omega
            have hr : 0 ≤ ((IntKind.i64.wrap (x.toNat : Int)).tmod 16) ∧ ((IntKind.i64.wrap (x.toNat : Int)).tmod 16) < 16 := by have := x.toNat_lt; rw [hexR]; omega
            have hn1 : (Lib.byteCells (enc (rs.take k) ++ (bs.take j).flatMap codeB)).length + [Value.int .u8 37, .int .u8 (hexB (IntKind.i64.wrap ((IntKind.i64.wrap (x.toNat : Int)).tdiv 16)).toNat).toNat, .int .u8 (hexB ((IntKind.i64.wrap (x.toNat : Int)).tmod 16).toNat).toNat].length ≤ maxLen := by unfold maxLen; simp only [List.length_cons, List.length_nil]; omega
            have hn2 : ((Lib.byteCells (enc (rs.take k) ++ (bs.take j).flatMap codeB)).length + [Value.int .u8 37, .int .u8 (hexB (IntKind.i64.wrap ((IntKind.i64.wrap (x.toNat : Int)).tdiv 16)).toNat).toNat, .int .u8 (hexB ((IntKind.i64.wrap (x.toNat : Int)).tmod 16).toNat).toNat].length) * 1 ≤ 140737488355328 := by simp only [List.length_cons, List.length_nil]; omega
            have hn3 : w.heap.size ≤ (wr.drew.alloc (.cells #[Value.int .u8 37, .int .u8 (hexB (IntKind.i64.wrap ((IntKind.i64.wrap (x.toNat : Int)).tdiv 16)).toNat).toNat, .int .u8 (hexB ((IntKind.i64.wrap (x.toNat : Int)).tmod 16).toNat).toNat] 5)).heap.size := by simp only [World.size_alloc, World.size_drew]; omega
            go_wp2
            go_region_held3 (fun w' => w'.cell? ⟨b', off' + j, none⟩ = some (.int .u8 x.toNat)) (first | assumption | exact (World.cell?_alloc_lt _ _ ⟨b', off' + j, none⟩ hblt).trans hc')
              (first | (go_at_call 63; refine (hex_any _ _ (by first | exact hq.1 | exact hr.1) (by first | exact hq.2 | exact hr.2)).mono ?_; rintro e w' ⟨rfl, rfl⟩) | (refine step_append_rd _ rfl (.tmp 49) (.tmp 64) 40 rfl w.heap.size 5 i0 (.int .u8 0) 1 Tryd.underlying40 hi hz0 hz1 hz2 rfl u6 (Lib.byteCells (enc (rs.take k) ++ (bs.take j).flatMap codeB)).length (Lib.byteCells (enc (rs.take k) ++ (bs.take j).flatMap codeB)) rfl (by exact ho.drew.alloc _) (wr.heap.size + 1) (some ⟨wr.heap.size, 0, none⟩) 3 [.int .u8 37, .int .u8 (hexB (IntKind.i64.wrap ((IntKind.i64.wrap (x.toNat : Int)).tdiv 16)).toNat).toNat, .int .u8 (hexB ((IntKind.i64.wrap (x.toNat : Int)).tmod 16).toNat).toNat] rfl (by exact rd_new _ [.int .u8 37, .int .u8 _, .int .u8 _] 5) (bc_one _ _) (by exact hn1) (by exact hn2) (by exact hn3) ?_; intro v2 w2 hown2 hg2 hat2; have hcell' := World.grownBy.cell hg2 (a := ⟨b', off' + j, none⟩) (v := .int .u8 x.toNat) ((World.cell?_alloc_lt wr.drew _ ⟨b', off' + j, none⟩ hblt).trans hc') hvn))
            all_goals
              go_wp2
              have hxs := code_cells (enc (rs.take k)) bs j hjl _ _ rfl rfl
              rw [← Hx.out] at hxs
              rw [List.append_assoc, List.append_assoc] at hxs
              have hown3 := hown2
              rw [hexQ, hexR, Int.toNat_natCast, Int.toNat_natCast] at hown3
              rw [show (Lib.byteCells (enc (rs.take k) ++ (bs.take j).flatMap codeB) ++ [Value.int .u8 37, Value.int .u8 (hexB (x.toNat / 16)).toNat, Value.int .u8 (hexB (x.toNat % 16)).toNat]) = Lib.byteCells (enc (rs.take k) ++ (bs.take (j + 1)).flatMap codeB) from hxs] at hown3
              have hkp : Kp _ wr w2 := (((Kp.refl _ wr).drew).alloc _).then (Kp.of_grown hg2) (fun _ _ h => h)
              refine ⟨⟨j + 1, by omega, by go_num, ?_, hkp.own Hq.out (fun g hg hx => Hne.out g hx hg), ?_, hbi.trans (hkp.below hszi ?_)⟩, by simp [intOf]; omega⟩
              · have hl2 := hown3.1
                rw [Nat.mul_one] at hl2
                rw [hl2]
                exact hown3
              · intro g hg hx
                rcases hat2 with e | e
                · exact Hne.out g (e.symm.trans hg) hx
                · have h1 := (Hq.out.lt g hx).2
                  rw [e] at hg
                  injection hg with hg
                  simp at hg
                  omega
              · intro i hi2 e
                have := (ho.lt i e).1
                omega
          · go_wp2
            rw [List.take_of_length_le (l := bs) (by omega), ← hfin.out] at ho
            exact ⟨⟨k + 1, by omega, by go_num, ho, hbi⟩, by simp [intOf]; omega⟩
      · have hs2 : inP rs[k] = false := by simpa using hs
        have hb : 32 ≤ rs[k] ∧ rs[k] ≤ 126 := by simp [inP] at hs2; omega
        obtain ⟨hb1, hb2⟩ := hb
        have hfin : Hid (Lib.byteCells (enc (rs.take (k + 1))) = Lib.byteCells (enc (rs.take k)) ++ [.int .u8 rs[k]]) := by
          show _ = _
          rw [hsn.out, byteCells_append, encR, if_neg (by rw [hs2]; decide)]
          simp [Lib.byteCells]
          omega
        clear hs hr hr2
        have hm1 : ∀ u ∈ [Value.int .u8 rs[k]], u.oneCell' = true := by simp [Value.oneCell']
        have hm2 : (Lib.byteCells (enc (rs.take k))).length + [Value.int .u8 rs[k]].length ≤ maxLen := by unfold maxLen; simp only [List.length_cons, List.length_nil]; omega
        have hm3 : ((Lib.byteCells (enc (rs.take k))).length + [Value.int .u8 rs[k]].length) * 1 ≤ 140737488355328 := by simp only [List.length_cons, List.length_nil]; omega
        have hm4 : w.heap.size ≤ (wr.alloc (.cells #[.int .u8 rs[k]] 5)).heap.size := by simp only [World.size_alloc]; omega
        go_wp2_with (first | (go_at_call 61; refine (refIn_any _ _).mono ?_; rintro e w' ⟨rfl, rfl⟩) | (at_builtin; refine wpList_append_rd _ rfl _ _ 40 rfl w.heap.size 5 i0 (.int .u8 0) 1 Tryd.underlying40 hi hz0 hz1 hz2 rfl _ _ _ rfl (hown.alloc _) (wr.heap.size + 1) (some ⟨wr.heap.size, 0, none⟩) 1 [.int .u8 rs[k]] rfl (rd_new wr [.int .u8 rs[k]] 5) hm1 hm2 hm3 hm4 ?_; intro v2 w2 hown2 hg2 hat2))
        refine ⟨⟨k + 1, by omega, by go_num, by rw [hfin.out, List.length_append]; exact hown2, ?_⟩, by simp [intOf]; omega⟩
        exact (hbw.alloc hsz _).grown hg2 (by simp; omega) (fun j hj => (hown.lt j hj).1)
    · obtain ⟨A0, c0, rfl⟩ := own_slice hown
      have hcv := conv_bytes (by rw [byteCells_length] at hown; exact hown)
      rw [byteCells_length] at hown
      rw [byteCells_length]
      go_wp2
      go_ret2
      rw [List.take_of_length_le (by omega)]
      exact ⟨rfl, hbw⟩
#print axioms refEncode_any
end Go.Proofs.YtpahiipfmccbiaaDoor
