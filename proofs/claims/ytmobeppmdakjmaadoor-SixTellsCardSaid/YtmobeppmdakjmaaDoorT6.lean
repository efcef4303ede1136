/- Walk: full: eight pieces, with noughts ahead as told. (Printed by full.py.) Words for the six laws: strings.Join of a slice that reads; of the head and of the tail of a row; strings.Count of '::'. Words for SixForms: an address's block through what the call makes; rows of eight texts; a literal that an append has left as it was. -/
import Derived.Test.YtmobeppmdakjmaaDoorQD
import Derived.Test.YtmobeppmdakjmaaDoorR3
import Derived.Test.YtmobeppmdakjmaaDoorR4
namespace Go.Proofs.YtmobeppmdakjmaaDoor
open Go.RowKit

theorem repeat_noughts (c : Nat) (hc : c ≤ 100) (v : Int) (hv : v = (c : Int)) (w : World) :
    Calls Tryd.prog 43 #[.string ⟨#[48]⟩, .int .i64 v] w fun e w' => e = .returned (.string ⟨(List.replicate c (48 : UInt8)).toArray⟩) ∧ Below w.heap.size w w' := by
  subst hv
  have h := Tryd.strings_Repeat ⟨#[48]⟩ c w (by omega) (by show 1 * c ≤ _; omega)
  have e : Lib.repeatL (⟨#[48]⟩ : ByteArray).data.toList c = List.replicate c 48 := by
    have := Lib.repeatL_replicate 48 1 c
    rw [Nat.mul_one] at this
    exact this
  rw [e] at h
  exact h
theorem index8 (a b c d e f g i : Int) (k : Nat) (v : Int) (h : [a, b, c, d, e, f, g, i][k]? = some v) (w : World) :
    (Instr.index 44 (.agg #[.int .u16 a, .int .u16 b, .int .u16 c, .int .u16 d, .int .u16 e, .int .u16 f, .int .u16 g, .int .u16 i]) (.int .i64 (k : Int))).run Tryd.prog w = .ok (.int .u16 v) w := by
  have hk : k < 8 := (List.getElem?_eq_some_iff.1 h).1
  have q : k = 0 ∨ k = 1 ∨ k = 2 ∨ k = 3 ∨ k = 4 ∨ k = 5 ∨ k = 6 ∨ k = 7 := by omega
  have key0 : ∀ W, (Instr.index 44 (.agg #[.int .u16 a, .int .u16 b, .int .u16 c, .int .u16 d, .int .u16 e, .int .u16 f, .int .u16 g, .int .u16 i]) (.int .i64 0)).run Tryd.prog W = .ok (.int .u16 a) W := fun _ => by kernel_rfl
  have key1 : ∀ W, (Instr.index 44 (.agg #[.int .u16 a, .int .u16 b, .int .u16 c, .int .u16 d, .int .u16 e, .int .u16 f, .int .u16 g, .int .u16 i]) (.int .i64 1)).run Tryd.prog W = .ok (.int .u16 b) W := fun _ => by kernel_rfl
  have key2 : ∀ W, (Instr.index 44 (.agg #[.int .u16 a, .int .u16 b, .int .u16 c, .int .u16 d, .int .u16 e, .int .u16 f, .int .u16 g, .int .u16 i]) (.int .i64 2)).run Tryd.prog W = .ok (.int .u16 c) W := fun _ => by kernel_rfl
  have key3 : ∀ W, (Instr.index 44 (.agg #[.int .u16 a, .int .u16 b, .int .u16 c, .int .u16 d, .int .u16 e, .int .u16 f, .int .u16 g, .int .u16 i]) (.int .i64 3)).run Tryd.prog W = .ok (.int .u16 d) W := fun _ => by kernel_rfl
  have key4 : ∀ W, (Instr.index 44 (.agg #[.int .u16 a, .int .u16 b, .int .u16 c, .int .u16 d, .int .u16 e, .int .u16 f, .int .u16 g, .int .u16 i]) (.int .i64 4)).run Tryd.prog W = .ok (.int .u16 e) W := fun _ => by kernel_rfl
  have key5 : ∀ W, (Instr.index 44 (.agg #[.int .u16 a, .int .u16 b, .int .u16 c, .int .u16 d, .int .u16 e, .int .u16 f, .int .u16 g, .int .u16 i]) (.int .i64 5)).run Tryd.prog W = .ok (.int .u16 f) W := fun _ => by kernel_rfl
  have key6 : ∀ W, (Instr.index 44 (.agg #[.int .u16 a, .int .u16 b, .int .u16 c, .int .u16 d, .int .u16 e, .int .u16 f, .int .u16 g, .int .u16 i]) (.int .i64 6)).run Tryd.prog W = .ok (.int .u16 g) W := fun _ => by kernel_rfl
  have key7 : ∀ W, (Instr.index 44 (.agg #[.int .u16 a, .int .u16 b, .int .u16 c, .int .u16 d, .int .u16 e, .int .u16 f, .int .u16 g, .int .u16 i]) (.int .i64 7)).run Tryd.prog W = .ok (.int .u16 i) W := fun _ => by kernel_rfl
  rcases q with rfl | rfl | rfl | rfl | rfl | rfl | rfl | rfl
  · obtain rfl : a = v := by simpa using h
    exact key0 w
  · obtain rfl : b = v := by simpa using h
    exact key1 w
  · obtain rfl : c = v := by simpa using h
    exact key2 w
  · obtain rfl : d = v := by simpa using h
    exact key3 w
  · obtain rfl : e = v := by simpa using h
    exact key4 w
  · obtain rfl : f = v := by simpa using h
    exact key5 w
  · obtain rfl : g = v := by simpa using h
    exact key6 w
  · obtain rfl : i = v := by simpa using h
    exact key7 w
set_option maxHeartbeats 8000000 in
set_option maxRecDepth 100000 in
theorem full_any (x : List Nat) (h8 : x.length = 8) (hx : ∀ n ∈ x, n < 65536) (nz : List UInt8) (A : Option Addr) (cap : Nat) (w : World) (B : Nat) (hB : B ≤ w.heap.size) (hrd : Rd w B A (bytV nz)) (ho : Ok6 w) :
    Calls Tryd.prog 39 #[addrV x, .slice A nz.length cap] w fun e w' => (∃ v, e = .returned v ∧ w'.ownsRow w.heap.size 9 1 v 8 (strV (full6 (nz.map (·.toNat)) x))) ∧ Below w.heap.size w w' := by
  obtain ⟨i0, hi, hz0, hz1, hz2⟩ := info_parts Tryd.info9
  have hb0 : Below w.heap.size w (w.alloc (.cells (u16V x).toArray 44)) := (Below.refl _ w).alloc (Nat.le_refl _) _
  have Hrd := Lib.hid (hrd.more hB)
  have Ho := Lib.hid ho
  have Hx := Lib.hid hx
  have Hb0 := Lib.hid hb0
  obtain ⟨F, hF⟩ : ∃ F, full6 (nz.map (·.toNat)) x = F := ⟨_, rfl⟩
  have HF := Lib.hid hF
  have hFl : F.length = 8 := by rw [← hF, full6_len, h8]
  have HFl := Lib.hid hFl
  have HFk : Hid (∀ k n, x[k]? = some n → F.take (k + 1) = F.take k ++ [padN (nz.map (·.toNat)) k n]) := fun k n h => by rw [← hF]; exact full6_take h
  have H8 := Lib.hid h8
  rw [hF]
  obtain ⟨a, b, c, d, e, f, g, i, hxe⟩ := eight h8
  have hcx : (u16V x).toArray = #[.int .u16 (a : Int), .int .u16 (b : Int), .int .u16 (c : Int), .int .u16 (d : Int), .int .u16 (e : Int), .int .u16 (f : Int), .int .u16 (g : Int), .int .u16 (i : Int)] := by rw [hxe]; rfl
  have Hidx : Hid (∀ (k n : Nat), x[k]? = some n → ∀ W : World, (Instr.index 44 (.agg #[.int .u16 (a : Int), .int .u16 (b : Int), .int .u16 (c : Int), .int .u16 (d : Int), .int .u16 (e : Int), .int .u16 (f : Int), .int .u16 (g : Int), .int .u16 (i : Int)]) (.int .i64 (k : Int))).run Tryd.prog W = .ok (.int .u16 (n : Int)) W) := by
    show ∀ (k n : Nat), _
    intro k n hk W
    refine index8 _ _ _ _ _ _ _ _ k n ?_ W
    rw [hxe] at hk
    have hm : [(a : Int), (b : Int), (c : Int), (d : Int), (e : Int), (f : Int), (g : Int), (i : Int)] = [a, b, c, d, e, f, g, i].map (fun (n : Nat) => (n : Int)) := rfl
    rw [hm, List.getElem?_map, hk]
    rfl
  unfold addrV
  rw [hcx] at Hb0 ⊢
  clear hrd hB ho hx h8 hcx hxe hb0 hF hFl
  go_enter Tryd.func39, Tryd.ntmps39
  go_wp2
  generalize hW : w.alloc (.cells #[.int .u16 (a : Int), .int .u16 (b : Int), .int .u16 (c : Int), .int .u16 (d : Int), .int .u16 (e : Int), .int .u16 (f : Int), .int .u16 (g : Int), .int .u16 (i : Int)] 44) = W at *
  have hWs : w.heap.size < W.heap.size := by rw [← hW]; simp
  clear hW
  go_loopw [5, 10] (fun v i wr => ∃ k : Nat, k ≤ 8 ∧ i = .int .i64 (k : Int) ∧ Hid (wr.ownsRow w.heap.size 9 1 v k (strV (F.take k))) ∧ Below w.heap.size w wr) (fun _ i _ => 8 - (intOf i).toNat)
  case atStart => exact ⟨0, Nat.zero_le _, rfl, World.ownsRow_nil _ _ _ _, Hb0.out⟩
  case round =>
    obtain ⟨k, hk, rfl, hown, hbw⟩ := hrel
    obtain ⟨A', c', rfl, hlc⟩ := own_slice_le hown.out
    have hor := Lib.hid (Ho.out.below hbw)
    have hsz := hbw.size
    have HB := Lib.hid hbw
    by_cases hlt : k < 8
    · have i1 : (k : Int) < 8 := by omega
      obtain ⟨n, hn⟩ : ∃ n, x[k]? = some n := ⟨_, List.getElem?_eq_getElem (by rw [H8.out]; exact hlt)⟩
      have hidx := fun W => Hidx.out k n hn W
      have hn64 := Hx.out n (List.mem_of_getElem? hn)
      have Hf := Lib.hid (fmt16_conv n hn64 wr hor.out.tz)
      have hh4 := hex_len4 hn64
      have htk := Lib.hid (HFk.out k n hn)
      have Hpad : Hid (padN (nz.map (·.toNat)) k n = List.replicate (min ((nz.map (·.toNat)).getD k 0) (4 - (hexOf n).length)) 48 ++ hexOf n) := rfl
      have hlen : Hid ((strV (F.take k)).length = k) := by
        show _ = _
        rw [strV_length, List.length_take, HFl.out]; omega
      have hb1 : k + 1 ≤ maxLen := by unfold maxLen; omega
      have hb2 : (k + 1) * 16 ≤ 140737488355328 := by omega
      generalize hexOf n = h at *
      generalize padN (nz.map (·.toNat)) k n = t at *
      have hsh := size_str h
      clear hn hn64
      go_wp2_with fail
      refine Hf.out.mono ?_
      rintro e w1 ⟨rfl, hc⟩
      have hown3 := Lib.hid (own_below hown.out hc (Nat.le_refl _))
      have hs1 := hc.size
      have HB1 := Lib.hid (HB.out.trans (hc.mono hsz))
      clear hc hidx
      by_cases hkn : k < nz.length
      · have i2 : (k : Int) < (nz.length : Int) := by omega
        obtain ⟨z, hz⟩ : ∃ z, nz[k]? = some z := ⟨_, List.getElem?_eq_getElem hkn⟩
        obtain ⟨bb, off, rfl, hbl, hcell0⟩ := Hrd.out k _ (bytV_get hz)
        have hcell : w1.cell? ⟨bb, off + k, none⟩ = some (.int .u8 z.toNat) := (HB1.out.cell (p := ⟨bb, off + k, none⟩) hbl).trans hcell0
        have hgd : (nz.map (·.toNat)).getD k 0 = z.toNat := by simp [hz]
        rw [hgd] at Hpad
        have hzl := z.toNat_lt
        have hzw : IntKind.i64.wrap (z.toNat : Int) = (z.toNat : Int) := by rw [IntWalk.i64_in _ (by omega)]
        have hhw : IntKind.i64.wrap (4 - (h.length : Int)) = 4 - (h.length : Int) := by rw [IntWalk.i64_in _ (by omega)]
        clear hcell0 hgd hz
        obtain ⟨cz, hcz⟩ : ∃ cz, min z.toNat (4 - h.length) = cz := ⟨_, rfl⟩
        obtain ⟨rp, hrp⟩ : ∃ rp, List.replicate cz (48 : UInt8) = rp := ⟨_, rfl⟩
        have hT : Hid (t = rp ++ h) := by show _ = _; rw [Hpad.out, hcz, hrp]
        have HR := Lib.hid (fun W => repeat_noughts cz (by omega) (min (z.toNat : Int) (4 - (h.length : Int))) (by omega) W)
        have hs3 : rp.length ≤ 4 := by rw [← hrp, List.length_replicate]; omega
        rw [hrp] at HR
        have hcat := cat6 rp h
        have hs2 := size_str rp
        clear hrp
        clear Hpad hcz
        go_wp2_with fail
        refine (HR.out _).mono ?_
        rintro e w2 ⟨rfl, hc⟩
        have hown4 := Lib.hid (own_below hown3.out hc (Nat.le_refl _))
        have hs4 := hc.size
        have HB2 := Lib.hid (HB1.out.trans (hc.mono HB1.out.size))
        clear hc hcell
        have hbs : w.heap.size ≤ (w2.alloc (.cells #[.string ⟨(rp ++ h).toArray⟩] 9)).heap.size := by simp; omega
        go_wp2_with (at_builtin; refine wpList_append_rd _ rfl _ _ 33 rfl w.heap.size 9 i0 (.string ⟨#[]⟩) 16 Tryd.underlying33 hi hz0 hz1 hz2 rfl (.slice A' k c') k (strV (F.take k)) rfl (hown4.out.alloc _) (w2.heap.size + 1) (some ⟨w2.heap.size, 0, none⟩) 1 [.string ⟨(rp ++ h).toArray⟩] rfl (rd_new w2 [.string ⟨(rp ++ h).toArray⟩] 9) (by simp [Value.oneCell']) hb1 hb2 hbs ?_)
        intro v' w' hown' hg' hat'
        rw [show strV (F.take k) ++ [.string ⟨(rp ++ h).toArray⟩] = strV (F.take (k + 1)) from by rw [htk.out, hT.out, strV_append]; rfl] at hown'
        have hbN : Below w.heap.size w w' := (HB2.out.alloc (by omega) _).grown hg' (by simp; omega) (fun j e => (hown.out.lt j e).1)
        go_wp2
        exact ⟨⟨k + 1, by omega, rfl, hown', hbN⟩, by simp [intOf]; omega⟩
      · have i2 : ¬ (k : Int) < (nz.length : Int) := by omega
        have hT : Hid (t = h) := by
          show _ = _
          rw [Hpad.out, show (nz.map (·.toNat)).getD k 0 = 0 from by simp [List.getElem?_eq_none (show nz.length ≤ k by omega)]]
          simp
        clear Hpad
        have hbs : w.heap.size ≤ (w1.alloc (.cells #[.string ⟨(h).toArray⟩] 9)).heap.size := by simp; omega
        go_wp2_with (at_builtin; refine wpList_append_rd _ rfl _ _ 33 rfl w.heap.size 9 i0 (.string ⟨#[]⟩) 16 Tryd.underlying33 hi hz0 hz1 hz2 rfl (.slice A' k c') k (strV (F.take k)) rfl (hown3.out.alloc _) (w1.heap.size + 1) (some ⟨w1.heap.size, 0, none⟩) 1 [.string ⟨(h).toArray⟩] rfl (rd_new w1 [.string ⟨(h).toArray⟩] 9) (by simp [Value.oneCell']) hb1 hb2 hbs ?_)
        intro v' w' hown' hg' hat'
        rw [show strV (F.take k) ++ [.string ⟨(h).toArray⟩] = strV (F.take (k + 1)) from by rw [htk.out, hT.out, strV_append]; rfl] at hown'
        have hbN : Below w.heap.size w w' := (HB1.out.alloc (by omega) _).grown hg' (by simp; omega) (fun j e => (hown.out.lt j e).1)
        go_wp2
        exact ⟨⟨k + 1, by omega, rfl, hown', hbN⟩, by simp [intOf]; omega⟩
    · obtain rfl : k = 8 := by omega
      rw [List.take_of_length_le (by rw [HFl.out]; exact Nat.le_refl _)] at hown
      go_wp2
      go_ret
      exact ⟨⟨_, rfl, hown.out⟩, HB.out⟩
#print axioms full_any
end Go.Proofs.YtmobeppmdakjmaaDoor
namespace Go.Proofs.YtmobeppmdakjmaaDoor
open Go.RowKit

theorem join_rd (xs : List (List UInt8)) (A : Option Addr) (c : Nat) (w : World) (B : Nat) (hB : B ≤ w.heap.size) (hrd : Rd w B A (strV xs)) (hc : xs.length ≤ c) (sep : List UInt8) (hlen : (Lib.join xs sep).length ≤ 1000000) (_hs : sep.length ≤ 1000000) (hx : xs.length ≤ 1000000) :
    Calls Tryd.prog 26 #[.slice A xs.length c, .string ⟨sep.toArray⟩] w fun e w' => e = .returned (.string ⟨(Lib.join xs sep).toArray⟩) ∧ Below w.heap.size w w' := by
  by_cases h0 : xs.length = 0
  · obtain rfl : xs = [] := List.eq_nil_of_length_eq_zero h0
    refine (Tryd.strings_Join_none A c ⟨sep.toArray⟩ w).mono ?_
    rintro e w' ⟨rfl, rfl⟩
    exact ⟨rfl, Below.refl _ _⟩
  · obtain ⟨b, off, rfl, hb, _⟩ := hrd 0 _ (strV_get (List.getElem?_eq_getElem (by omega)))
    have e : xs.map (fun l => (⟨l.toArray⟩ : ByteArray).data.toList) = xs := by simp
    have hcomp : (fun (x : ByteArray) => x.data.toList) ∘ (fun (l : List UInt8) => (⟨l.toArray⟩ : ByteArray)) = fun l => (⟨l.toArray⟩ : ByteArray).data.toList := rfl
    have hJ := Tryd.strings_Join b off c (xs.map fun l => (⟨l.toArray⟩ : ByteArray)) ⟨sep.toArray⟩ w (fun j y hy => by
      rw [List.getElem?_map, Option.map_eq_some_iff] at hy
      obtain ⟨l, hl, rfl⟩ := hy
      exact hrd.cell (strV_get hl)) (by omega) (by simp; omega) (by simpa using hc) (by rw [List.map_map, hcomp, e]; exact Nat.le_trans hlen (by decide))
    rw [List.map_map, List.length_map, hcomp, e] at hJ
    exact hJ
theorem strV_take (ss : List (List UInt8)) (k : Nat) : strV (ss.take k) = (strV ss).take k := by unfold strV; rw [List.map_take]
theorem strV_drop (ss : List (List UInt8)) (k : Nat) : strV (ss.drop k) = (strV ss).drop k := by unfold strV; rw [List.map_drop]
/-- A row of texts that reads in whatever world comes behind. -/
structure Row (w1 : World) (A : Option Addr) (c : Nat) (F : List (List UInt8)) : Prop where
  rd : Rd w1 w1.heap.size A (strV F)
  cap : F.length ≤ c
  short : ∀ p ∈ F, p.length ≤ 100
  few : F.length ≤ 20
theorem Row.of_own {w1 : World} {base n : Nat} {A : Option Addr} {c : Nat} {F : List (List UInt8)} (h : w1.ownsRow base 9 1 (.slice A n c) n (strV F)) (hc : F.length ≤ c) (hs : ∀ p ∈ F, p.length ≤ 100) (hf : F.length ≤ 20) : Row w1 A c F := ⟨Rd.of_own h, hc, hs, hf⟩
theorem Row.below {w1 w2 : World} {A : Option Addr} {c : Nat} {F : List (List UInt8)} (h : Row w1 A c F) (hb : Below w1.heap.size w1 w2) : Row w2 A c F := ⟨(h.rd.below hb).more hb.size, h.cap, h.short, h.few⟩
theorem join_all {V : World} {A : Option Addr} {c : Nat} {F : List (List UInt8)} (h : Row V A c F) :
    Calls Tryd.prog 26 #[.slice A F.length c, .string ⟨#[58]⟩] V fun e w' => e = .returned (.string ⟨(Lib.join F [58]).toArray⟩) ∧ Below V.heap.size V w' :=
  join_rd F A c V V.heap.size (Nat.le_refl _) h.rd h.cap [58] (Nat.le_trans (join_small h.short h.few) (by decide)) (by decide) (Nat.le_trans h.few (by decide))
theorem join_take {V : World} {A : Option Addr} {c : Nat} {F : List (List UInt8)} (h : Row V A c F) (p : Nat) (hp : p ≤ F.length) :
    Calls Tryd.prog 26 #[.slice A p c, .string ⟨#[58]⟩] V fun e w' => e = .returned (.string ⟨(Lib.join (F.take p) [58]).toArray⟩) ∧ Below V.heap.size V w' := by
  have hl : (F.take p).length = p := by rw [List.length_take]; omega
  have h1 := h.cap
  have h2 := h.few
  have hr : Rd V V.heap.size A (strV (F.take p)) := by rw [strV_take]; exact h.rd.take p
  have := join_rd (F.take p) A c V V.heap.size (Nat.le_refl _) hr (by omega) [58] (Nat.le_trans (join_small (fun q hq => h.short q (List.mem_of_mem_take hq)) (by omega)) (by decide)) (by decide) (by omega)
  rwa [hl] at this
theorem join_drop {V : World} {A : Option Addr} {c : Nat} {F : List (List UInt8)} (h : Row V A c F) (p : Nat) (hp : p ≤ F.length) (A' : Option Addr) (hA : A' = if c = p then A else A.map (·.add p)) (n : Nat) (hn : n = F.length - p) :
    Calls Tryd.prog 26 #[.slice A' n (c - p), .string ⟨#[58]⟩] V fun e w' => e = .returned (.string ⟨(Lib.join (F.drop p) [58]).toArray⟩) ∧ Below V.heap.size V w' := by
  have hl : (F.drop p).length = n := by rw [List.length_drop]; omega
  have h1 := h.cap
  have h2 := h.few
  have hr : Rd V V.heap.size A' (strV (F.drop p)) := by rw [strV_drop, hA]; exact h.rd.drop p c (by rw [strV_length]; exact h1)
  have := join_rd (F.drop p) A' (c - p) V V.heap.size (Nat.le_refl _) hr (by omega) [58] (Nat.le_trans (join_small (fun q hq => h.short q (List.mem_of_mem_drop hq)) (by omega)) (by decide)) (by decide) (by omega)
  rwa [hl] at this
theorem count_any (s : List UInt8) (hl : s.length ≤ 100000) (n : Nat) (h : Lib.count s [58, 58] = n) (w : World) (ho : Ok w) :
    Calls Tryd.prog 41 #[.string ⟨s.toArray⟩, .string ⟨#[58, 58]⟩] w fun e w' => e = .returned (.int .i64 (n : Int)) ∧ w' = w := by
  obtain ⟨m, hm⟩ := ho.mx.2
  have := Tryd.strings_Count ⟨s.toArray⟩ ⟨#[58, 58]⟩ m w (by rw [size_str]; omega) hm (by decide)
  rw [show Lib.countB ⟨s.toArray⟩ ⟨#[58, 58]⟩ = n from h] at this
  exact this
theorem full6_short100 (nz : List Nat) {x : List Nat} (hx : ∀ n ∈ x, n < 65536) : ∀ p ∈ full6 nz x, p.length ≤ 100 := fun p hp => Nat.le_trans (full6_short nz hx p hp) (by decide)
/-- An address in a block of the call's own. -/
def Addr8 (N : Nat) (x : List Nat) (w : World) : Prop := w.heap[N]? = some (.cells (u16V x).toArray 44 (0, 0))
theorem Addr8.below {N : Nat} {x : List Nat} {w w' : World} (h : Addr8 N x w) (hb : Below w.heap.size w w') : Addr8 N x w' := (hb.block N (Array.getElem?_eq_some_iff.1 h).1).trans h
theorem Addr8.cell {N : Nat} {x : List Nat} {w : World} (h : Addr8 N x w) {k n : Nat} (hk : x[k]? = some n) : w.cell? ⟨N, k, none⟩ = some (.int .u16 (n : Int)) := by
  unfold World.cell?
  rw [show w.heap[N]? = _ from h]
  have := u16V_get hk
  simpa using this
#print axioms join_drop
end Go.Proofs.YtmobeppmdakjmaaDoor
namespace Go.Proofs.YtmobeppmdakjmaaDoor
open Go.RowKit

theorem Addr8.lt {N : Nat} {x : List Nat} {w : World} (h : Addr8 N x w) : N < w.heap.size := (Array.getElem?_eq_some_iff.1 h).1
theorem Addr8.drew {N : Nat} {x : List Nat} {w : World} (h : Addr8 N x w) : Addr8 N x w.drew := h
theorem Addr8.alloc {N : Nat} {x : List Nat} {w : World} (h : Addr8 N x w) (o : Obj) : Addr8 N x (w.alloc o) := (Below.heap_alloc _ _ _ h.lt).trans h
theorem Addr8.grown {N : Nat} {x : List Nat} {w w' : World} {row : Option Nat} (h : Addr8 N x w) (hg : w.grownBy w' row) (hne : row ≠ some N) : Addr8 N x w' := (hg.block N h.lt (fun e => hne e.symm)).trans h
/-- The eight cells of an address. -/
theorem Addr8.cells {N : Nat} {x : List Nat} {w : World} {a b c d e f g i : Nat} (h : Addr8 N x w) (hx : x = [a, b, c, d, e, f, g, i]) :
    w.cell? ⟨N, 0, none⟩ = some (.int .u16 (a : Int)) ∧ w.cell? ⟨N, 1, none⟩ = some (.int .u16 (b : Int)) ∧ w.cell? ⟨N, 2, none⟩ = some (.int .u16 (c : Int)) ∧ w.cell? ⟨N, 3, none⟩ = some (.int .u16 (d : Int)) ∧
      w.cell? ⟨N, 4, none⟩ = some (.int .u16 (e : Int)) ∧ w.cell? ⟨N, 5, none⟩ = some (.int .u16 (f : Int)) ∧ w.cell? ⟨N, 6, none⟩ = some (.int .u16 (g : Int)) ∧ w.cell? ⟨N, 7, none⟩ = some (.int .u16 (i : Int)) := by
  subst hx
  exact ⟨h.cell rfl, h.cell rfl, h.cell rfl, h.cell rfl, h.cell rfl, h.cell rfl, h.cell rfl, h.cell rfl⟩
theorem eightL {F : List (List UInt8)} (h : F.length = 8) : ∃ a b c d e f g i, F = [a, b, c, d, e, f, g, i] := by
  match F, h with
  | [a, b, c, d, e, f, g, i], _ => exact ⟨a, b, c, d, e, f, g, i, rfl⟩
theorem rd_lit {V V' : World} {N r : Nat} {u : Value} (hg : V.grownBy V' (some r)) (hne : r ≠ N) (hc : V.cell? ⟨N, 0, none⟩ = some u) : Rd V' (N + 1) (some ⟨N, 0, none⟩) [u] := by
  intro k v hv
  obtain ⟨rfl, rfl⟩ : k = 0 ∧ u = v := by
    cases k with
    | zero => exact ⟨rfl, by simpa using hv⟩
    | succ k => simp at hv
  have hN := World.block_lt_of_cell? V _ hc
  exact ⟨N, 0, rfl, Nat.lt_succ_self _, (World.cell?_of_block (hg.block N hN (fun e => hne (by injection e with e; exact e.symm)))).trans hc⟩
theorem place_of (a m : UInt8) : ∃ k mm : Nat, k < 8 ∧ 1 ≤ mm ∧ k + mm ≤ 8 ∧ (a.toNat : Int) % 8 = (k : Int) ∧ 1 + (m.toNat : Int) % (8 - (k : Int)) = (mm : Int) := by
  have h1 : a.toNat % 8 < 8 := Nat.mod_lt _ (by decide)
  have h2 : m.toNat % (8 - a.toNat % 8) < 8 - a.toNat % 8 := Nat.mod_lt _ (by omega)
  refine ⟨a.toNat % 8, 1 + m.toNat % (8 - a.toNat % 8), h1, by omega, by omega, by omega, ?_⟩
  rw [Int.natCast_add, Int.natCast_emod m.toNat, Int.natCast_sub (by omega)]
  rfl
#print axioms rd_lit
end Go.Proofs.YtmobeppmdakjmaaDoor
