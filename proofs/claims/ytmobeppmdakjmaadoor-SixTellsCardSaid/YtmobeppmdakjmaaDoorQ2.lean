/- Plain functions of the layer of IPv6 addresses: what the program's functions compute. No program in sight. Walk: six.joined: pieces as a text. Walk: six.Run: the run of noughts. -/
import Derived.Test.YtmobeppmdakjmaaDoorN0
import Derived.Test.YtmobeppmdakjmaaDoorS4
import Derived.Test.YtmobeppmdakjmaaDoorN2
import Derived.Test.YtmobeppmdakjmaaDoorJ0
namespace Go.Proofs.YtmobeppmdakjmaaDoor

/-- A piece as it is shown. -/
def hexOf (n : Nat) : List UInt8 := digs 14 n
/-- Some pieces as a text. -/
def joinH (x : List Nat) : List UInt8 := Lib.join (x.map hexOf) [58]
/-- How many noughts stand ahead. -/
def noughts : List Nat → Nat
  | [] => 0
  | n :: t => if n = 0 then noughts t + 1 else 0
/-- The run of noughts, as it is found from place i on, where some was found already. -/
def runFrom (i : Nat) (am : Nat × Nat) : List Nat → Nat × Nat
  | [] => am
  | n :: t => runFrom (i + 1) (if am.2 < noughts (n :: t) ∧ 1 < noughts (n :: t) then (i, noughts (n :: t)) else am) t
def run6 (x : List Nat) : Nat × Nat := runFrom 0 (0, 0) x
/-- An address as it is shown. -/
def show6 (x : List Nat) : List UInt8 :=
  if x = [0, 0, 0, 0, 0, 0, 0, 0] then [58, 58]
  else if (run6 x).2 = 0 then joinH x
  else joinH (x.take (run6 x).1) ++ [58, 58] ++ joinH (x.drop ((run6 x).1 + (run6 x).2))
/-- The number of a piece. -/
def piece6 (p : List UInt8) : Option Nat := if p ≠ [] ∧ p.length ≤ 4 ∧ digitsB 16 p = true then some (numB 16 0 p) else none
/-- A number of an inner address. -/
def dig4 (p : List UInt8) : Option Nat := if p ≠ [] ∧ p.length ≤ 3 ∧ digitsB 10 p = true ∧ ¬ (1 < p.length ∧ p.head? = some 48) ∧ numB 10 0 p < 256 then some (numB 10 0 p) else none
/-- The two pieces of an inner address. -/
def inner6 (s : List UInt8) : Option (List Nat) :=
  match splitC 46 [] s with
  | [a, b, c, d] => match dig4 a, dig4 b, dig4 c, dig4 d with
    | some a, some b, some c, some d => some [a * 256 + b, c * 256 + d]
    | _, _, _, _ => none
  | _ => none
/-- The pieces of a text's parts; the last one may be an inner address. -/
def pieces6 (last : Bool) : List (List UInt8) → Option (List Nat)
  | [] => some []
  | p :: t => match (if last = true ∧ t = [] then inner6 p else none) with
    | some l => some l
    | none => match piece6 p, pieces6 last t with
      | some n, some l => some (n :: l)
      | _, _ => none
def piecesOf (last : Bool) (s : List UInt8) : Option (List Nat) := if s = [] then some [] else pieces6 last (splitC 58 [] s)
/-- A text parted at the first '::'. -/
def cut6 : List UInt8 → List UInt8 × Option (List UInt8)
  | [] => ([], none)
  | c :: t => if c = 58 ∧ t.head? = some 58 then ([], some t.tail) else (c :: (cut6 t).1, (cut6 t).2)
/-- What a text says as an address. -/
def parse6 (s : List UInt8) : Option (List Nat) :=
  match cut6 s with
  | (h, none) => match piecesOf true h with
    | some a => if a.length = 8 then some a else none
    | none => none
  | (h, some t) => match piecesOf false h, piecesOf true t with
    | some a, some b => if a.length + b.length ≤ 7 then some (a ++ List.replicate (8 - (a.length + b.length)) 0 ++ b) else none
    | _, _ => none
example : parse6 [58, 58, 49] = some [0, 0, 0, 0, 0, 0, 0, 1] := by decide
example : parse6 [58, 58, 102, 102, 102, 102, 58, 49, 46, 50, 46, 51, 46, 52] = some [0, 0, 0, 0, 0, 65535, 258, 772] := by decide
example : show6 [1, 0, 0, 2, 0, 0, 0, 3] = [49, 58, 48, 58, 48, 58, 50, 58, 58, 51] := by decide +kernel
#print axioms show6
end Go.Proofs.YtmobeppmdakjmaaDoor
namespace Go.Proofs.YtmobeppmdakjmaaDoor
open Go.RowKit

/-- What the library's variables hold, for the layer of IPv6 addresses. -/
structure Ok6 (w : World) : Prop where
  ok : Ok w
  tz : Tz w
theorem Ok6.below {w w' : World} (h : Ok6 w) (hb : Below w.heap.size w w') : Ok6 w' := ⟨h.ok.below hb, h.tz.below hb⟩
/-- Numbers of sixteen bits as cells. -/
def u16V (x : List Nat) : List Value := x.map fun (n : Nat) => .int .u16 (n : Int)
theorem u16V_length (x : List Nat) : (u16V x).length = x.length := by simp [u16V]
theorem u16V_get {x : List Nat} {k n : Nat} (h : x[k]? = some n) : (u16V x)[k]? = some (.int .u16 (n : Int)) := by simp [u16V, h]
theorem u16V_one (x : List Nat) : ∀ u ∈ u16V x, u.oneCell' = true := by
  intro u hu; simp only [u16V, List.mem_map] at hu; obtain ⟨n, _, rfl⟩ := hu; rfl
theorem hex_len {n : Nat} (h : n < 65536) : (hexOf n).length ≤ 16 := digs_len 14 15 n h
theorem joinH_len (x : List Nat) (hx : ∀ n ∈ x, n < 65536) (h8 : x.length ≤ 8) : (joinH x).length ≤ 1000 := by
  unfold joinH
  cases hc : x with
  | nil => simp [Lib.join_nil]
  | cons a t =>
    rw [List.map_cons, Lib.join_length]
    have key : ∀ l : List Nat, (∀ n ∈ l, n < 65536) → Lib.lens (l.map hexOf) ≤ 16 * l.length := by
      intro l
      induction l with
      | nil => intro _; simp [Lib.lens]
      | cons b s ih =>
        intro h
        have h1 := hex_len (h b (by simp))
        have h2 := ih (fun n hn => h n (by simp [hn]))
        simp only [Lib.lens, List.map_cons, List.sum_cons, List.length_cons] at h2 ⊢
        omega
    have := key (a :: t) (by rw [← hc]; exact hx)
    rw [hc] at h8
    simp only [List.map_cons, List.length_cons, List.length_map, List.length_nil] at *
    omega

theorem fmt16_conv (n : Nat) (hu : n < 65536) (w : World) (h : Tz w) :
    Calls Tryd.prog 27 #[.int .u64 (IntKind.u64.wrap (n : Int)), .int .i64 16] w fun e w' => e = .returned (.string ⟨(hexOf n).toArray⟩) ∧ Below w.heap.size w w' := by
  have e : IntKind.u64.wrap (n : Int) = (n : Int) := by rw [IntKind.wrap_u64]; omega
  rw [e]
  exact fmtuint_16 n (by omega) w h
set_option maxHeartbeats 4000000 in
set_option maxRecDepth 100000 in
theorem joined_any (x : List Nat) (hx : ∀ n ∈ x, n < 65536) (h8 : x.length ≤ 8) (A : Option Addr) (c : Nat) (w : World) (B : Nat) (hB : B ≤ w.heap.size) (hrd : Rd w B A (u16V x)) (ho : Ok6 w) :
    Calls Tryd.prog 66 #[.slice A x.length c] w fun e w' => e = .returned (.string ⟨(joinH x).toArray⟩) ∧ Below w.heap.size w w' := by
  obtain ⟨i0, hi, hz0, hz1, hz2⟩ := info_parts Tryd.info9
  have hjl := joinH_len x hx h8
  have Hrd := Lib.hid (hrd.more hB)
  have Ho := Lib.hid ho
  have Hx := Lib.hid hx
  clear hrd hB ho hx
  go_enter Tryd.func66, Tryd.ntmps66
  go_wp2
  go_loopw [3, 8] (fun v i wr => ∃ k : Nat, k ≤ x.length ∧ i = .int .i64 (k : Int) ∧ Hid (wr.ownsRow w.heap.size 9 1 v k (strV ((x.map hexOf).take k))) ∧ Below w.heap.size w wr) (fun _ i _ => x.length - (intOf i).toNat)
  case atStart => exact ⟨0, Nat.zero_le _, rfl, World.ownsRow_nil _ _ _ _, Below.refl _ _⟩
  case round =>
    obtain ⟨k, hk, rfl, hown, hbw⟩ := hrel
    obtain ⟨A', c', rfl, hlc⟩ := own_slice_le hown.out
    have hor := Lib.hid (Ho.out.below hbw)
    have hsz := hbw.size
    by_cases hlt : k < x.length
    · have i1 : (k : Int) < (x.length : Int) := by omega
      obtain ⟨n, hn⟩ : ∃ n, x[k] = n := ⟨_, rfl⟩
      have hg : x[k]? = some n := by rw [List.getElem?_eq_getElem hlt, hn]
      have hn64 := Hx.out n (List.mem_of_getElem? hg)
      obtain ⟨b, off, rfl, hbl, hcell0⟩ := Hrd.out k _ (u16V_get hg)
      have hcell : wr.cell? ⟨b, off + k, none⟩ = some (.int .u16 (n : Int)) := (hbw.cell (p := ⟨b, off + k, none⟩) hbl).trans hcell0
      have Hf := Lib.hid (fmt16_conv n hn64 wr hor.out.tz)
      have htk : Hid (strV ((x.map hexOf).take (k + 1)) = strV ((x.map hexOf).take k) ++ [.string ⟨(hexOf n).toArray⟩]) := by
        show _ = _
        rw [List.take_add_one, List.getElem?_map, hg, strV_append]
        rfl
      have hlen : Hid ((strV ((x.map hexOf).take k)).length = k) := by
        show _ = _
        rw [strV_length, List.length_take, List.length_map]; omega
      have hb1 : k + 1 ≤ maxLen := by unfold maxLen; omega
      have hb2 : (k + 1) * 16 ≤ 140737488355328 := by omega
      clear hn hcell0 hn64
      go_wp2_with fail
      refine Hf.out.mono ?_
      rintro e w1 ⟨rfl, hc⟩
      have hown3 := Lib.hid (own_below hown.out hc (Nat.le_refl _))
      have hs1 := hc.size
      have hbs : w.heap.size ≤ (w1.alloc (.cells #[.string ⟨(hexOf n).toArray⟩] 9)).heap.size := by simp; omega
      go_wp2_with (at_builtin; refine wpList_append_rd _ rfl _ _ 33 rfl w.heap.size 9 i0 (.string ⟨#[]⟩) 16 Tryd.underlying33 hi hz0 hz1 hz2 rfl (.slice A' k c') k (strV ((x.map hexOf).take k)) rfl (hown3.out.alloc _) (w1.heap.size + 1) (some ⟨w1.heap.size, 0, none⟩) 1 [.string ⟨(hexOf n).toArray⟩] rfl (rd_new w1 [.string ⟨(hexOf n).toArray⟩] 9) (by simp [Value.oneCell']) hb1 hb2 hbs ?_)
      intro v' w' hown' hg' hat'
      rw [← htk.out] at hown'
      have hbN : Below w.heap.size w w' := ((hbw.trans (hc.mono hsz)).alloc (by omega) _).grown hg' (by simp; omega) (fun j e => (hown.out.lt j e).1)
      go_wp2
      exact ⟨⟨k + 1, by omega, rfl, hown', hbN⟩, by simp [intOf]; omega⟩
    · obtain rfl : k = x.length := by omega
      have i1 : ¬ (x.length : Int) < (x.length : Int) := by omega
      rw [List.take_of_length_le (by simp)] at hown
      by_cases h0 : x.length = 0
      · obtain rfl : x = [] := List.eq_nil_of_length_eq_zero h0
        have HJ := Lib.hid (Tryd.strings_Join_none A' c' ⟨#[58]⟩ wr)
        go_wp2_with fail
        refine HJ.out.mono ?_
        rintro e w' ⟨rfl, hw⟩
        subst w'
        go_wp2
        go_ret
        exact ⟨rfl, hbw⟩
      · have HJ := Lib.hid (join_own (x.map hexOf) (by simp; omega) (.slice A' x.length c') wr w.heap.size (by rw [List.length_map]; exact hown.out) [58] (Nat.le_trans hjl (by decide)) (by decide) (by simp; omega))
        go_wp2_with fail
        refine HJ.out.mono ?_
        rintro e w' ⟨rfl, hc⟩
        go_wp2
        go_ret
        exact ⟨rfl, hbw.trans (hc.mono hsz)⟩
#print axioms joined_any
end Go.Proofs.YtmobeppmdakjmaaDoor
namespace Go.Proofs.YtmobeppmdakjmaaDoor
open Go.RowKit

theorem noughts_cons_zero {n : Nat} {t : List Nat} (h : n = 0) : noughts (n :: t) = noughts t + 1 := by rw [noughts, if_pos h]
theorem noughts_cons_ne {n : Nat} {t : List Nat} (h : n ≠ 0) : noughts (n :: t) = 0 := by rw [noughts, if_neg h]
theorem noughts_le : ∀ l : List Nat, noughts l ≤ l.length
  | [] => Nat.le_refl _
  | n :: t => by
    have := noughts_le t
    rw [noughts]
    split
    · simp only [List.length_cons]; omega
    · exact Nat.zero_le _
theorem runFrom_drop {x : List Nat} {k : Nat} (h : k < x.length) (am : Nat × Nat) : runFrom k am (x.drop k) = runFrom (k + 1) (if am.2 < noughts (x.drop k) ∧ 1 < noughts (x.drop k) then (k, noughts (x.drop k)) else am) (x.drop (k + 1)) := by
  rw [List.drop_eq_getElem_cons h, runFrom]
/-- An address's cells. -/
def addrV (x : List Nat) : Value := .agg (u16V x).toArray
theorem eight {x : List Nat} (h : x.length = 8) : ∃ a b c d e f g i, x = [a, b, c, d, e, f, g, i] := by
  match x, h with
  | [a, b, c, d, e, f, g, i], _ => exact ⟨a, b, c, d, e, f, g, i, rfl⟩

set_option maxHeartbeats 4000000 in
set_option maxRecDepth 100000 in
theorem run_any (x : List Nat) (h8 : x.length = 8) (_hx : ∀ n ∈ x, n < 65536) (w : World) :
    Calls Tryd.prog 32 #[addrV x] w fun e w' => e = .returned (.tuple #[.int .i64 ((run6 x).1 : Int), .int .i64 ((run6 x).2 : Int)]) ∧ Below w.heap.size w w' := by
  have Hrd := Lib.hid (rd_new w (u16V x) 44)
  have hb0 : Below w.heap.size w (w.alloc (.cells (u16V x).toArray 44)) := (Below.refl _ w).alloc (Nat.le_refl _) _
  have Hb0 := Lib.hid hb0
  have Hrun : Hid (run6 x = runFrom 0 (0, 0) (x.drop 0)) := rfl
  have hW : ∃ W, W = w.alloc (.cells (u16V x).toArray 44) := ⟨_, rfl⟩
  obtain ⟨a, b, c, d, e, f, g, i, hxe⟩ := eight h8
  have Hxe := Lib.hid hxe
  have hcells : (u16V x).toArray = #[.int .u16 (a : Int), .int .u16 (b : Int), .int .u16 (c : Int), .int .u16 (d : Int), .int .u16 (e : Int), .int .u16 (f : Int), .int .u16 (g : Int), .int .u16 (i : Int)] := by rw [hxe]; rfl
  rw [addrV, hcells]
  rw [hcells] at Hrd Hb0
  clear hxe hcells hb0 hW
  generalize hW : w.alloc (.cells #[.int .u16 (a : Int), .int .u16 (b : Int), .int .u16 (c : Int), .int .u16 (d : Int), .int .u16 (e : Int), .int .u16 (f : Int), .int .u16 (g : Int), .int .u16 (i : Int)] 44) = W at Hrd Hb0
  have HW := Lib.hid hW
  clear hW
  go_enter Tryd.func32, Tryd.ntmps32
  go_wp2
  rw [HW.out]
  go_loopw [4, 5, 8] (fun u v q wr => ∃ (at_ many k : Nat), k ≤ 8 ∧ u = .int .i64 (at_ : Int) ∧ v = .int .i64 (many : Int) ∧ q = .int .i64 (k : Int) ∧ wr = W ∧ Hid (run6 x = runFrom k (at_, many) (x.drop k)) ∧ at_ ≤ 8 ∧ many ≤ 8) (fun _ _ q _ => (8 - intOf q).toNat)
  case atStart => exact ⟨0, 0, 0, Nat.zero_le _, rfl, rfl, rfl, rfl, Hrun.out, Nat.zero_le _, Nat.zero_le _⟩
  case round =>
    obtain ⟨at_, many, k, hk, rfl, rfl, rfl, hwr, hrun, hat, hmany⟩ := hrel
    subst wr
    by_cases hlt : k < 8
    · have i1 : (k : Int) < 8 := by omega
      have hkx : k < x.length := by omega
      go_wp2
      go_loopw [7] (fun q wr2 => ∃ n : Nat, k + n ≤ 8 ∧ q = .int .i64 (n : Int) ∧ wr2 = W ∧ Hid (noughts (x.drop k) = n + noughts (x.drop (k + n)))) (fun q _ => (8 - intOf q).toNat)
      case atStart => exact ⟨0, by omega, rfl, rfl, (by show _ = _; simp)⟩
      case round =>
        obtain ⟨n, hn, rfl, hwr, hno⟩ := hrel
        replace hwr := hwr.symm
        subst hwr
        by_cases hkn : k + n < 8
        · have i2 : (k : Int) + (n : Int) < 8 := by omega
          have hknx : k + n < x.length := by omega
          obtain ⟨z, hz⟩ : ∃ z, x[k + n] = z := ⟨_, rfl⟩
          have hg : x[k + n]? = some z := by rw [List.getElem?_eq_getElem hknx, hz]
          have hcell : W.cell? ⟨w.heap.size, k + n, none⟩ = some (.int .u16 (z : Int)) := by
            have := Hrd.out.cell (u16V_get hg)
            rwa [Nat.zero_add] at this
          have q0 : ((k : Int) + (n : Int)).toNat = k + n := by omega
          have hdr := List.drop_eq_getElem_cons hknx
          rw [hz] at hdr
          by_cases h0 : z = 0
          · have hz0 : ((z : Int) == 0) = true := by rw [beq_iff_eq]; omega
            have hno2 : Hid (noughts (x.drop k) = (n + 1) + noughts (x.drop (k + (n + 1)))) := by
              show _ = _
              rw [hno.out, hdr, noughts_cons_zero h0]
              rw [show k + (n + 1) = k + n + 1 by omega]
              omega
            subst h0
            clear hz hg hdr
            go_wp2
            exact ⟨⟨n + 1, by omega, rfl, by trivial, hno2.out⟩, by simp [intOf]; omega⟩
          · have hz0 : ((z : Int) == 0) = false := by rw [beq_eq_false_iff_ne]; omega
            have hno2 : Hid (noughts (x.drop k) = n) := by
              show _ = _
              rw [hno.out, hdr, noughts_cons_ne h0]
              rfl
            clear hz hg hdr h0
            by_cases hc : many < n ∧ 1 < n
            · have i3 : (many : Int) < (n : Int) := by omega
              have i4 : (1 : Int) < (n : Int) := by omega
              have hr2 : Hid (run6 x = runFrom (k + 1) (k, n) (x.drop (k + 1))) := by
                show _ = _
                rw [hrun.out, runFrom_drop hkx, hno2.out, if_pos hc]
              clear hc
              go_wp2
              exact ⟨⟨k, n, k + 1, by omega, rfl, rfl, rfl, by trivial, hr2.out, by omega, by omega⟩, by simp [intOf]; omega⟩
            · have hr2 : Hid (run6 x = runFrom (k + 1) (at_, many) (x.drop (k + 1))) := by
                show _ = _
                rw [hrun.out, runFrom_drop hkx, hno2.out, if_neg hc]
              by_cases hm : many < n
              · have i3 : (many : Int) < (n : Int) := by omega
                have i4 : ¬ (1 : Int) < (n : Int) := by omega
                clear hc
                go_wp2
                exact ⟨⟨at_, many, k + 1, by omega, rfl, rfl, rfl, by trivial, hr2.out, hat, hmany⟩, by simp [intOf]; omega⟩
              · have i3 : ¬ (many : Int) < (n : Int) := by omega
                clear hc
                go_wp2
                exact ⟨⟨at_, many, k + 1, by omega, rfl, rfl, rfl, by trivial, hr2.out, hat, hmany⟩, by simp [intOf]; omega⟩
        · have i2 : ¬ (k : Int) + (n : Int) < 8 := by omega
          have hno2 : Hid (noughts (x.drop k) = n) := by
            show _ = _
            rw [hno.out, List.drop_of_length_le (by omega)]
            rfl
          by_cases hc : many < n ∧ 1 < n
          · have i3 : (many : Int) < (n : Int) := by omega
            have i4 : (1 : Int) < (n : Int) := by omega
            have hr2 : Hid (run6 x = runFrom (k + 1) (k, n) (x.drop (k + 1))) := by
              show _ = _
              rw [hrun.out, runFrom_drop hkx, hno2.out, if_pos hc]
            clear hc
            go_wp2
            exact ⟨⟨k, n, k + 1, by omega, rfl, rfl, rfl, by trivial, hr2.out, by omega, by omega⟩, by simp [intOf]; omega⟩
          · have hr2 : Hid (run6 x = runFrom (k + 1) (at_, many) (x.drop (k + 1))) := by
              show _ = _
              rw [hrun.out, runFrom_drop hkx, hno2.out, if_neg hc]
            by_cases hm : many < n
            · have i3 : (many : Int) < (n : Int) := by omega
              have i4 : ¬ (1 : Int) < (n : Int) := by omega
              clear hc
              go_wp2
              exact ⟨⟨at_, many, k + 1, by omega, rfl, rfl, rfl, by trivial, hr2.out, hat, hmany⟩, by simp [intOf]; omega⟩
            · have i3 : ¬ (many : Int) < (n : Int) := by omega
              clear hc
              go_wp2
              exact ⟨⟨at_, many, k + 1, by omega, rfl, rfl, rfl, by trivial, hr2.out, hat, hmany⟩, by simp [intOf]; omega⟩
    · obtain rfl : k = 8 := by omega
      have hfin : run6 x = (at_, many) := by rw [hrun.out, List.drop_of_length_le (by omega)]; rfl
      have Hfin := Lib.hid hfin
      clear hfin
      go_wp2
      go_ret2
      refine ⟨?_, Hb0.out⟩
      rw [Hfin.out]
      rfl
#print axioms run_any
end Go.Proofs.YtmobeppmdakjmaaDoor
