/- Walks: the reference's worth and is (of the layer of IPv6 addresses). Walks: the reference's Run (of the layer of IPv6 addresses). Walks: the reference's hex (of the layer of IPv6 addresses). Plain: an address as the reference shows it, piece by piece. Walks: the reference's Show (of the layer of IPv6 addresses). Plain: four numbers, byte by byte, are the two pieces of an inner address. Plain: the reference's four is inner6. -/
import Derived.Test.YtmobeppmdakjmaaDoorQD
import Derived.Test.YtmobeppmdakjmaaDoorR6
import Derived.Test.YtmobeppmdakjmaaDoorT6
namespace Go.Proofs.YtmobeppmdakjmaaDoor
open Go.RowKit

/-- What the digit at a place is worth; 99: there is none. -/
def wat (s : List UInt8) (k : Nat) : Nat := match s[k]? with
  | some c => worth c
  | none => 99
theorem wat_some {s : List UInt8} {k : Nat} {c : UInt8} (h : s[k]? = some c) : wat s k = worth c := by unfold wat; rw [h]
theorem wat_none {s : List UInt8} {k : Nat} (h : s.length ≤ k) : wat s k = 99 := by unfold wat; rw [List.getElem?_eq_none h]
set_option maxHeartbeats 2000000 in
set_option maxRecDepth 100000 in
theorem worth6_any (s : List UInt8) (k : Nat) (w : World) :
    Calls Tryd.prog 64 #[.string ⟨s.toArray⟩, .int .i64 (k : Int)] w fun e w' => e = .returned (.int .i64 (wat s k : Int)) ∧ w' = w := by
  have hsz := size_str s
  by_cases hlt : k < s.length
  · have i1 : ¬ (s.length : Int) ≤ (k : Int) := by omega
    obtain ⟨c, hcs⟩ : ∃ c, s[k]? = some c := ⟨_, List.getElem?_eq_getElem hlt⟩
    have hgb : ∀ h, (⟨s.toArray⟩ : ByteArray)[k]'h = c := fun _ => by
      have := List.getElem?_eq_getElem hlt
      rw [hcs] at this
      injection this with this
      rw [this]; rfl
    have hwt := wat_some hcs
    have hc := c.toNat_lt
    have i2 : (k : Int) < (s.length : Int) := by omega
    rw [hwt]
    clear hwt hcs
    by_cases h1 : 48 ≤ c.toNat ∧ c.toNat ≤ 57
    · obtain ⟨a, b⟩ := h1
      have hw : Hid ((worth c : Int) = (c.toNat : Int) - 48) := by show _ = _; unfold worth; rw [if_pos ⟨a, b⟩]; omega
      have a' : (48 : Int) ≤ (c.toNat : Int) := by omega
      have b' : (c.toNat : Int) ≤ 57 := by omega
      clear a b
      go_enter Tryd.func64, Tryd.ntmps64
      go_wp2
      go_ret
      exact ⟨by rw [hw.out]; rfl, rfl⟩
    · by_cases h2 : 97 ≤ c.toNat ∧ c.toNat ≤ 102
      · obtain ⟨a, b⟩ := h2
        have hw : Hid ((worth c : Int) = (c.toNat : Int) - 97 + 10) := by show _ = _; unfold worth; rw [if_neg h1, if_pos ⟨a, b⟩]; omega
        have a0 : (48 : Int) ≤ (c.toNat : Int) := by omega
        have a1 : ¬ (c.toNat : Int) ≤ 57 := by omega
        have a' : (97 : Int) ≤ (c.toNat : Int) := by omega
        have b' : (c.toNat : Int) ≤ 102 := by omega
        clear a b h1
        go_enter Tryd.func64, Tryd.ntmps64
        go_wp2
        go_ret
        exact ⟨by rw [hw.out]; rfl, rfl⟩
      · by_cases h3 : 65 ≤ c.toNat ∧ c.toNat ≤ 70
        · obtain ⟨a, b⟩ := h3
          have hw : Hid ((worth c : Int) = (c.toNat : Int) - 65 + 10) := by show _ = _; unfold worth; rw [if_neg h1, if_neg h2, if_pos ⟨a, b⟩]; omega
          have a0 : (48 : Int) ≤ (c.toNat : Int) := by omega
          have a1 : ¬ (c.toNat : Int) ≤ 57 := by omega
          have a2 : ¬ (97 : Int) ≤ (c.toNat : Int) := by omega
          have a' : (65 : Int) ≤ (c.toNat : Int) := by omega
          have b' : (c.toNat : Int) ≤ 70 := by omega
          clear a b h1 h2
          go_enter Tryd.func64, Tryd.ntmps64
          go_wp2
          go_ret
          exact ⟨by rw [hw.out]; rfl, rfl⟩
        · have hw : Hid ((worth c : Int) = 99) := by show _ = _; unfold worth; rw [if_neg h1, if_neg h2, if_neg h3]; rfl
          clear hc
          have G1 : (¬ (48 : Int) ≤ (c.toNat : Int)) ∨ ((48 : Int) ≤ (c.toNat : Int) ∧ ¬ (c.toNat : Int) ≤ 57) := by omega
          have G2 : (¬ (97 : Int) ≤ (c.toNat : Int)) ∨ ((97 : Int) ≤ (c.toNat : Int) ∧ ¬ (c.toNat : Int) ≤ 102) := by omega
          have G3 : (¬ (65 : Int) ≤ (c.toNat : Int)) ∨ ((65 : Int) ≤ (c.toNat : Int) ∧ ¬ (c.toNat : Int) ≤ 70) := by omega
          clear h1 h2 h3
          rcases G1 with a1 | ⟨a1, b1⟩ <;> rcases G2 with a2 | ⟨a2, b2⟩ <;> rcases G3 with a3 | ⟨a3, b3⟩
          all_goals first
            | (exfalso; omega)
            | (go_enter Tryd.func64, Tryd.ntmps64
               go_wp2
               go_ret
               exact ⟨by rw [hw.out]; rfl, rfl⟩)
  · have i1 : (s.length : Int) ≤ (k : Int) := by omega
    rw [wat_none (show s.length ≤ k by omega)]
    go_enter Tryd.func64, Tryd.ntmps64
    go_wp2
    go_ret
    exact ⟨rfl, rfl⟩
set_option maxHeartbeats 1000000 in
set_option maxRecDepth 100000 in
theorem is6_any (s : List UInt8) (k : Nat) (d : UInt8) (w : World) :
    Calls Tryd.prog 63 #[.string ⟨s.toArray⟩, .int .i64 (k : Int), .int .u8 d.toNat] w fun e w' => e = .returned (.bool (decide (s[k]? = some d))) ∧ w' = w := by
  have hsz := size_str s
  by_cases hlt : k < s.length
  · have i2 : (k : Int) < (s.length : Int) := by omega
    obtain ⟨c, hcs⟩ : ∃ c, s[k]? = some c := ⟨_, List.getElem?_eq_getElem hlt⟩
    have hgb : ∀ h, (⟨s.toArray⟩ : ByteArray)[k]'h = c := fun _ => by
      have := List.getElem?_eq_getElem hlt
      rw [hcs] at this
      injection this with this
      rw [this]; rfl
    by_cases hcd : c = d
    · have f1 : ((c.toNat : Int) == (d.toNat : Int)) = true := byte_eq hcd
      have hb : Hid (decide (s[k]? = some d) = true) := by show _ = _; rw [hcs, hcd]; simp
      clear hcs hcd
      go_enter Tryd.func63, Tryd.ntmps63
      go_wp2
      go_ret
      rw [hb.out]
      exact ⟨rfl, rfl⟩
    · have f1 : ((c.toNat : Int) == (d.toNat : Int)) = false := byte_ne hcd
      have hb : Hid (decide (s[k]? = some d) = false) := by show _ = _; rw [hcs]; simpa using hcd
      clear hcs hcd
      go_enter Tryd.func63, Tryd.ntmps63
      go_wp2
      go_ret
      rw [hb.out]
      exact ⟨rfl, rfl⟩
  · have i2 : ¬ (k : Int) < (s.length : Int) := by omega
    go_enter Tryd.func63, Tryd.ntmps63
    go_wp2
    go_ret
    exact ⟨rfl, rfl⟩
#print axioms worth6_any
#print axioms is6_any
end Go.Proofs.YtmobeppmdakjmaaDoor
namespace Go.Proofs.YtmobeppmdakjmaaDoor
open Go.RowKit

/-- A row of noughts. -/
def Zer (x : List Nat) (a m : Nat) : Prop := ∀ i, a ≤ i → i < a + m → x[i]? = some 0
theorem run6_of {x : List Nat} (h8 : x.length = 8) {a m : Nat} (hm : 2 ≤ m) (hz : Zer x a m) (hlong : ∀ a' b, m < b → a' + b ≤ 8 → ¬ Zer x a' b) (hfirst : ∀ a', a' < a → ¬ Zer x a' m) : run6 x = (a, m) := by
  have R := run6_runs h8
  generalize run6 x = r at R ⊢
  obtain ⟨p, q⟩ := r
  simp only at R
  have hin := R.in_
  rcases R.best a m hm hz with h | ⟨h1, h2⟩
  · exact absurd R.all_ (hlong p q h hin)
  · subst h1
    rcases Nat.lt_or_ge p a with h | h
    · exact absurd R.all_ (hfirst p h)
    · congr 1
      omega
theorem run6_none {x : List Nat} (h8 : x.length = 8) (hlong : ∀ a' b, 1 < b → a' + b ≤ 8 → ¬ Zer x a' b) : run6 x = (0, 0) := by
  have R := run6_runs h8
  generalize run6 x = r at R ⊢
  obtain ⟨p, q⟩ := r
  simp only at R
  rcases R.many with ⟨h1, h2⟩ | h
  · rw [h1, h2]
  · exact absurd R.all_ (hlong p q (by omega) R.in_)
set_option maxHeartbeats 4000000 in
set_option maxRecDepth 100000 in
theorem refRun6_any (x : List Nat) (h8 : x.length = 8) (w : World) :
    Calls Tryd.prog 33 #[addrV x] w fun e w' => e = .returned (.tuple #[.int .i64 ((run6 x).1 : Int), .int .i64 ((run6 x).2 : Int)]) ∧ Below w.heap.size w w' := by
  have hb0 : Below w.heap.size w (w.alloc (.cells (u16V x).toArray 44)) := (Below.refl _ w).alloc (Nat.le_refl _) _
  have HA : Hid (Addr8 w.heap.size x (w.alloc (.cells (u16V x).toArray 44))) := World.alloc_heap_new w _
  have Hb0 := Lib.hid hb0
  have HF := Lib.hid (fun a m h1 h2 h4 h5 => @run6_of x h8 a m h1 h2 h4 h5)
  have HN := Lib.hid (fun h => @run6_none x h8 h)
  have H8 := Lib.hid h8
  obtain ⟨c0, c1, c2, c3, c4, c5, c6, c7, hxe⟩ := eight h8
  have hcx : (u16V x).toArray = #[.int .u16 (c0 : Int), .int .u16 (c1 : Int), .int .u16 (c2 : Int), .int .u16 (c3 : Int), .int .u16 (c4 : Int), .int .u16 (c5 : Int), .int .u16 (c6 : Int), .int .u16 (c7 : Int)] := by rw [hxe]; rfl
  unfold addrV
  rw [hcx] at Hb0 HA ⊢
  clear hcx hxe hb0 h8
  go_enter Tryd.func33, Tryd.ntmps33
  go_wp2
  generalize hW : w.alloc (.cells #[.int .u16 (c0 : Int), .int .u16 (c1 : Int), .int .u16 (c2 : Int), .int .u16 (c3 : Int), .int .u16 (c4 : Int), .int .u16 (c5 : Int), .int .u16 (c6 : Int), .int .u16 (c7 : Int)] 44) = W at *
  clear hW
  go_loopw [4] (fun v wr => ∃ m : Nat, 1 ≤ m ∧ m ≤ 8 ∧ v = .int .i64 (m : Int) ∧ wr = W ∧ Hid (∀ a b, m < b → a + b ≤ 8 → ¬ Zer x a b)) (fun v _ => (intOf v).toNat)
  case atStart => exact ⟨8, by omega, Nat.le_refl _, rfl, rfl, fun a b h1 h2 => by omega⟩
  case round =>
    obtain ⟨m, hm1, hm8, rfl, hwr, hlong⟩ := hrel
    subst wr
    by_cases hm2 : 2 ≤ m
    · have i1 : (2 : Int) ≤ (m : Int) := by omega
      go_wp2
      go_loopw [5] (fun v wr2 => ∃ a : Nat, a ≤ 9 - m ∧ v = .int .i64 (a : Int) ∧ wr2 = W ∧ Hid (∀ a', a' < a → ¬ Zer x a' m)) (fun v _ => 9 - (intOf v).toNat)
      case atStart => exact ⟨0, Nat.zero_le _, rfl, rfl, fun a h => absurd h (Nat.not_lt_zero a)⟩
      case round =>
        obtain ⟨a, ha, rfl, hwr2, hfirst⟩ := hrel
        subst wr
        by_cases ham : a + m ≤ 8
        · have i2 : (a : Int) + (m : Int) ≤ 8 := by omega
          go_wp2
          go_loopw [6, 7] (fun u v wr3 => ∃ (i : Nat) (b : Bool), a ≤ i ∧ i ≤ a + m ∧ u = .bool b ∧ v = .int .i64 (i : Int) ∧ wr3 = W ∧ Hid (b = true ↔ ∀ j, a ≤ j → j < i → x[j]? = some 0)) (fun _ v _ => a + m - (intOf v).toNat)
          case atStart => exact ⟨a, true, Nat.le_refl _, by omega, rfl, rfl, rfl, ⟨fun _ j h1 h2 => by omega, fun _ => rfl⟩⟩
          case round =>
            obtain ⟨i, b, hai, him, rfl, rfl, hwr3, hall⟩ := hrel
            subst wr
            by_cases hlt : i < a + m
            · have i3 : (i : Int) < (a : Int) + (m : Int) := by omega
              have i4 : (i : Int) < 8 := by omega
              obtain ⟨z, hz⟩ : ∃ z, x[i]? = some z := ⟨_, List.getElem?_eq_getElem (by rw [H8.out]; omega)⟩
              have hcell : W.cell? ⟨w.heap.size, i, none⟩ = some (.int .u16 (z : Int)) := HA.out.cell hz
              cases b with
              | false =>
                have hall2 : Hid (false = true ↔ ∀ j, a ≤ j → j < i + 1 → x[j]? = some 0) := by
                  show _ ↔ _
                  refine ⟨fun h => (by cases h), fun h => hall.out.2 (fun j h1 h2 => h j h1 (by omega))⟩
                clear hz
                go_wp2
                exact ⟨⟨i + 1, false, by omega, by omega, rfl, rfl, by trivial, hall2.out⟩, by simp [intOf]; omega⟩
              | true =>
                by_cases hz0 : z = 0
                · have f0 : ((z : Int) == 0) = true := by rw [beq_iff_eq]; omega
                  have hall2 : Hid (true = true ↔ ∀ j, a ≤ j → j < i + 1 → x[j]? = some 0) := by
                    show _ ↔ _
                    refine ⟨fun _ j h1 h2 => ?_, fun _ => rfl⟩
                    by_cases e : j = i
                    · rw [e, hz, hz0]
                    · exact hall.out.1 rfl j h1 (by omega)
                  clear hz hz0
                  go_wp2
                  exact ⟨⟨i + 1, true, by omega, by omega, rfl, rfl, by trivial, hall2.out⟩, by simp [intOf]; omega⟩
                · have f0 : ((z : Int) == 0) = false := by rw [beq_eq_false_iff_ne]; omega
                  have hall2 : Hid (false = true ↔ ∀ j, a ≤ j → j < i + 1 → x[j]? = some 0) := by
                    show _ ↔ _
                    refine ⟨fun h => (by cases h), fun h => ?_⟩
                    have := h i hai (by omega)
                    rw [hz] at this
                    injection this with this
                    exact absurd this hz0
                  clear hz hz0
                  go_wp2
                  exact ⟨⟨i + 1, false, by omega, by omega, rfl, rfl, by trivial, hall2.out⟩, by simp [intOf]; omega⟩
            · have hie : i = a + m := by omega
              have i3 : ¬ (i : Int) < (a : Int) + (m : Int) := by omega
              cases b with
              | true =>
                have hfin := HF.out a m hm2 (fun j h1 h2 => hall.out.1 rfl j h1 (by omega)) hlong.out hfirst.out
                have Hfin := Lib.hid hfin
                clear hfin
                go_wp2
                go_ret2
                refine ⟨?_, Hb0.out⟩
                rw [Hfin.out]
                rfl
              | false =>
                have hfirst2 : Hid (∀ a', a' < a + 1 → ¬ Zer x a' m) := by
                  show ∀ a', _
                  intro a' ha'
                  by_cases e : a' = a
                  · rw [e]
                    intro h
                    have := hall.out.2 (fun j h1 h2 => h j h1 (by omega))
                    cases this
                  · exact hfirst.out a' (by omega)
                clear hie
                go_wp2
                exact ⟨⟨a + 1, by omega, rfl, by trivial, hfirst2.out⟩, by simp [intOf]; omega⟩
        · have i2 : ¬ (a : Int) + (m : Int) ≤ 8 := by omega
          have hlong2 : Hid (∀ a' b, m - 1 < b → a' + b ≤ 8 → ¬ Zer x a' b) := by
            show ∀ a' b, _
            intro a' b h1 h2
            by_cases e : b = m
            · subst e
              exact hfirst.out a' (by omega)
            · exact hlong.out a' b (by omega) h2
          go_wp2
          exact ⟨⟨m - 1, by omega, by omega, by rw [show ((m - 1 : Nat) : Int) = (m : Int) - 1 by omega], by trivial, hlong2.out⟩, by simp [intOf]; omega⟩
    · have i1 : ¬ (2 : Int) ≤ (m : Int) := by omega
      obtain rfl : m = 1 := by omega
      have hfin := HN.out hlong.out
      have Hfin := Lib.hid hfin
      clear hfin
      go_wp2
      go_ret2
      refine ⟨?_, Hb0.out⟩
      rw [Hfin.out]
      rfl
#print axioms refRun6_any
end Go.Proofs.YtmobeppmdakjmaaDoor
namespace Go.Proofs.YtmobeppmdakjmaaDoor
open Go.RowKit

theorem conv_byte6 (c : UInt8) (w : World) : (convert 41 9 (.slice (some ⟨w.heap.size, 0, none⟩) 1 1)).run Tryd.prog (w.alloc (.cells #[.int .u8 c.toNat] 5)) = .ok (.string ⟨#[c]⟩) (w.alloc (.cells #[.int .u8 c.toNat] 5)) := by
  refine run_convert_bytes_back (P := Tryd.prog) (w.alloc (.cells #[.int .u8 c.toNat] 5)) 41 9 5 ⟨w.heap.size, 0, none⟩ 1 [c] Tryd.underlying41 Tryd.underlying5 Tryd.underlying9 (fun j hj => ?_)
  obtain rfl : j = 0 := by simpa using hj
  rw [Lib.add_plain, World.cell?_alloc_at _ _ _ _ rfl]
  rfl
theorem hex_at : ∀ k : Nat, k < 16 → ∀ h, (⟨#[48, 49, 50, 51, 52, 53, 54, 55, 56, 57, 97, 98, 99, 100, 101, 102]⟩ : ByteArray)[k]'h = dig k := by decide +kernel
set_option maxHeartbeats 2000000 in
set_option maxRecDepth 100000 in
theorem hex_any (n : Nat) (hn : n < 65536) (w : World) :
    Calls Tryd.prog 67 #[.int .i64 (n : Int)] w fun e w' => e = .returned (.string ⟨(hexOf n).toArray⟩) ∧ Below w.heap.size w w' := by
  induction n using Nat.strongRecOn generalizing w with
  | _ n ih =>
    have hm : n % 16 < 16 := Nat.mod_lt _ (by omega)
    have hgb := hex_at (n % 16) hm
    have hmi : Int.tmod (n : Int) 16 = ((n % 16 : Nat) : Int) := by rw [Int.tmod_eq_emod_of_nonneg (by omega)]; omega
    have hdi : Int.tdiv (n : Int) 16 = ((n / 16 : Nat) : Int) := by rw [Int.tdiv_eq_ediv_of_nonneg (by omega)]; omega
    have hcv := fun W => conv_byte6 (dig (n % 16)) W
    have i0 : (((n % 16 : Nat) : Int) < 16) := by omega
    by_cases hs : n < 16
    · have i1 : (n : Int) < 16 := by omega
      have hx : Hid (hexOf n = [dig (n % 16)]) := by
        show _ = _
        unfold hexOf
        rw [digs_small (show n < 14 + 2 by omega), Nat.mod_eq_of_lt hs]
      clear hs ih hdi hm
      go_enter Tryd.func67, Tryd.ntmps67
      go_wp2
      go_ret
      rw [hx.out]
      exact ⟨rfl, (Below.refl _ w).alloc (Nat.le_refl _) _⟩
    · have i1 : ¬ (n : Int) < 16 := by omega
      have hx : Hid (hexOf n = hexOf (n / 16) ++ [dig (n % 16)]) := by
        show _ = _
        unfold hexOf
        rw [digs_big (show ¬ n < 14 + 2 by omega)]
      have Ht := Lib.hid (fun W => ih (n / 16) (by omega) (by omega) W)
      have hlen : ¬ 9223372036854775807 < (hexOf (n / 16)).length + 1 := by
        have := digs_len 14 15 (n / 16) (by omega)
        unfold hexOf
        omega
      clear hs ih hm
      go_enter Tryd.func67, Tryd.ntmps67
      go_wp2_with fail
      rw [show (n : Int) / 16 = ((n / 16 : Nat) : Int) by omega]
      refine (Ht.out _).mono ?_
      rintro e w2 ⟨rfl, hb2⟩
      have hb1 : Below w.heap.size w (w.alloc (.cells #[.int .u8 (dig (n % 16)).toNat] 5)) := (Below.refl _ w).alloc (Nat.le_refl _) _
      have Hb := Lib.hid (hb1.trans (hb2.mono hb1.size))
      clear hb1 hb2
      have hsz := size_str (hexOf (n / 16))
      have hcat : (⟨(hexOf (n / 16)).toArray⟩ : ByteArray) ++ ⟨#[dig (n % 16)]⟩ = ⟨(hexOf (n / 16) ++ [dig (n % 16)]).toArray⟩ := cat6 _ _
      go_wp2
      go_ret
      rw [hx.out]
      exact ⟨rfl, Hb.out⟩
#print axioms hex_any
end Go.Proofs.YtmobeppmdakjmaaDoor
namespace Go.Proofs.YtmobeppmdakjmaaDoor
open Go.RowKit

theorem joinH_nil : joinH [] = [] := rfl
theorem joinH_one (n : Nat) : joinH [n] = hexOf n := by unfold joinH; rw [List.map_cons, List.map_nil, Lib.join_one]
theorem joinH_snoc : ∀ (l : List Nat) (n : Nat), l ≠ [] → joinH (l ++ [n]) = joinH l ++ [58] ++ hexOf n
  | [], _, h => absurd rfl h
  | [a], n, _ => by
    show joinH [a, n] = _
    rw [joinH_one]
    unfold joinH
    rw [List.map_cons, List.map_cons, List.map_nil, join_cons2, Lib.join_one]
    simp
  | a :: b :: t, n, _ => by
    have ih := joinH_snoc (b :: t) n (by simp)
    unfold joinH at ih ⊢
    simp only [List.cons_append, List.map_cons] at ih ⊢
    rw [join_cons2, join_cons2, ih]
    simp
/-- What stands there when the pieces ahead of i are told. -/
def sofar (x : List Nat) (p q i : Nat) : List UInt8 :=
  if 0 < q ∧ p < i then joinH (x.take p) ++ [58, 58] ++ joinH ((x.take i).drop (p + q)) else joinH (x.take i)
theorem sofar_zero (x : List Nat) (p q : Nat) : sofar x p q 0 = [] := by
  unfold sofar
  rw [if_neg (by omega)]
  rfl
theorem sofar_run (x : List Nat) {p q : Nat} (hq : 0 < q) : sofar x p q (p + q) = sofar x p q p ++ [58, 58] := by
  unfold sofar
  rw [if_pos ⟨hq, by omega⟩, if_neg (by omega)]
  have : (x.take (p + q)).drop (p + q) = [] := List.drop_eq_nil_of_le (by rw [List.length_take]; omega)
  rw [this, joinH_nil, List.append_nil]
theorem take_next {x : List Nat} {i z : Nat} (hz : x[i]? = some z) : x.take (i + 1) = x.take i ++ [z] := by
  rw [List.take_add_one, hz]; rfl
theorem sofar_next {x : List Nat} {p q i z : Nat} (hz : x[i]? = some z) (hi : ¬ (0 < q ∧ p ≤ i ∧ i < p + q)) :
    sofar x p q (i + 1) = sofar x p q i ++ (if 0 < i ∧ ¬ (0 < q ∧ i = p + q) then [58] else []) ++ hexOf z := by
  have hlt : i < x.length := (List.getElem?_eq_some_iff.1 hz).1
  unfold sofar
  rw [take_next hz]
  by_cases hq : 0 < q ∧ p < i
  · rw [if_pos hq, if_pos ⟨hq.1, by omega⟩, List.drop_append_of_le_length (by rw [List.length_take]; omega)]
    by_cases he : i = p + q
    · rw [if_neg (by omega)]
      have : (x.take i).drop (p + q) = [] := List.drop_eq_nil_of_le (by rw [List.length_take]; omega)
      rw [this, List.nil_append, joinH_one, joinH_nil]
      simp
    · rw [if_pos ⟨by omega, by omega⟩, joinH_snoc _ _ (by
        intro h
        have := congrArg List.length h
        rw [List.length_drop, List.length_take, List.length_nil] at this
        omega)]
      simp
  · rw [if_neg hq, if_neg (by omega)]
    by_cases h0 : i = 0
    · rw [if_neg (by omega), h0]
      simp [joinH_one, joinH_nil]
    · rw [if_pos ⟨by omega, by omega⟩, joinH_snoc _ _ (by
        intro h
        have := congrArg List.length h
        rw [List.length_take, List.length_nil] at this
        omega)]
theorem sofar_all {x : List Nat} (h8 : x.length = 8) : sofar x (run6 x).1 (run6 x).2 8 = show6 x := by
  have R := run6_runs h8
  unfold sofar show6
  rw [show x.take 8 = x from List.take_of_length_le (by omega)]
  by_cases h0 : x = [0, 0, 0, 0, 0, 0, 0, 0]
  · have hr : run6 [0, 0, 0, 0, 0, 0, 0, 0] = (0, 8) := by decide +kernel
    rw [if_pos h0, h0, hr]
    rfl
  · rw [if_neg h0]
    have := R.in_
    by_cases hq : (run6 x).2 = 0
    · rw [if_pos hq, if_neg (by omega)]
    · rw [if_neg hq, if_pos ⟨by omega, by rcases R.many with h | h <;> omega⟩]
theorem sofar_len {x : List Nat} (h8 : x.length = 8) (hx : ∀ n ∈ x, n < 65536) (p q i : Nat) : (sofar x p q i).length ≤ 3000 := by
  have h1 : ∀ k, (joinH (x.take k)).length ≤ 1000 := fun k => joinH_len _ (fun n hn => hx n (List.mem_of_mem_take hn)) (by rw [List.length_take]; omega)
  have h2 : ∀ k m, (joinH ((x.take k).drop m)).length ≤ 1000 := fun k m => joinH_len _ (fun n hn => hx n (List.mem_of_mem_take (List.mem_of_mem_drop hn))) (by rw [List.length_drop, List.length_take]; omega)
  have := h1 p
  have := h1 i
  have := h2 i (p + q)
  unfold sofar
  split
  · rw [List.length_append, List.length_append]
    simp only [List.length_cons, List.length_nil]
    omega
  · omega
#print axioms sofar_all
#print axioms sofar_len
end Go.Proofs.YtmobeppmdakjmaaDoor
namespace Go.Proofs.YtmobeppmdakjmaaDoor
open Go.RowKit

set_option maxHeartbeats 8000000 in
set_option maxRecDepth 100000 in
theorem refShow6_any (x : List Nat) (h8 : x.length = 8) (hx : ∀ n ∈ x, n < 65536) (w : World) :
    Calls Tryd.prog 35 #[addrV x] w fun e w' => e = .returned (.string ⟨(show6 x).toArray⟩) ∧ Below w.heap.size w w' := by
  have hb0 : Below w.heap.size w (w.alloc (.cells (u16V x).toArray 44)) := (Below.refl _ w).alloc (Nat.le_refl _) _
  have HA : Hid (Addr8 w.heap.size x (w.alloc (.cells (u16V x).toArray 44))) := World.alloc_heap_new w _
  have Hb0 := Lib.hid hb0
  have Hr := Lib.hid (fun W => refRun6_any x h8 W)
  have R := run6_runs h8
  have HF := Lib.hid (sofar_all h8)
  obtain ⟨am, ham⟩ : ∃ am, run6 x = am := ⟨_, rfl⟩
  obtain ⟨p, q⟩ := am
  rw [ham] at Hr R HF
  have hpq : p + q ≤ 8 := R.in_
  have H8 := Lib.hid h8
  have HX := Lib.hid hx
  obtain ⟨c0, c1, c2, c3, c4, c5, c6, c7, hxe⟩ := eight h8
  have hcx : (u16V x).toArray = #[.int .u16 (c0 : Int), .int .u16 (c1 : Int), .int .u16 (c2 : Int), .int .u16 (c3 : Int), .int .u16 (c4 : Int), .int .u16 (c5 : Int), .int .u16 (c6 : Int), .int .u16 (c7 : Int)] := by rw [hxe]; rfl
  unfold addrV at Hr ⊢
  rw [hcx] at Hb0 HA Hr ⊢
  clear hcx hxe hb0 h8 R hx ham
  go_enter Tryd.func35, Tryd.ntmps35
  generalize hW : w.alloc (.cells #[.int .u16 (c0 : Int), .int .u16 (c1 : Int), .int .u16 (c2 : Int), .int .u16 (c3 : Int), .int .u16 (c4 : Int), .int .u16 (c5 : Int), .int .u16 (c6 : Int), .int .u16 (c7 : Int)] 44) = W at *
  have HW := Lib.hid hW
  clear hW
  go_wp2_with fail
  rw [HW.out]
  refine (Hr.out _).mono ?_
  rintro e w1 ⟨rfl, hb1⟩
  have HA1 := Lib.hid (HA.out.below hb1)
  have Hb1 := Lib.hid (Hb0.out.trans (hb1.mono Hb0.out.size))
  clear hb1
  go_wp2
  go_loopw [5, 6] (fun u v wr => ∃ i : Nat, i ≤ 8 ∧ (q = 0 ∨ i ≤ p ∨ p + q ≤ i) ∧ u = .string ⟨(sofar x p q i).toArray⟩ ∧ v = .int .i64 (i : Int) ∧ Below w1.heap.size w1 wr) (fun _ v _ => 8 - (intOf v).toNat)
  case atStart => exact ⟨0, Nat.zero_le _, by omega, by rw [sofar_zero], rfl, Below.refl _ _⟩
  case round =>
    obtain ⟨i, hi8, hcase, rfl, rfl, hbr⟩ := hrel
    have hls := sofar_len H8.out HX.out p q i
    by_cases hlt : i < 8
    · have i1 : (i : Int) < 8 := by omega
      obtain ⟨z, hz⟩ : ∃ z, x[i]? = some z := ⟨_, List.getElem?_eq_getElem (by rw [H8.out]; omega)⟩
      have hcell : wr.cell? ⟨w.heap.size, i, none⟩ = some (.int .u16 (z : Int)) := (HA1.out.below hbr).cell hz
      have hz6 : z < 65536 := HX.out z (List.mem_of_getElem? hz)
      have hzl : (hexOf z).length ≤ 4 := hex_len4 hz6
      have hwr : IntKind.i64.wrap (z : Int) = (z : Int) := IntWalk.i64_in _ (by omega)
      have Hh := Lib.hid (fun W => hex_any z hz6 W)
      by_cases hA : 0 < q ∧ i = p
      · obtain ⟨hq, rfl⟩ := hA
        have j1 : (0 : Int) < (q : Int) := by omega
        have Hru := Lib.hid (sofar_run x hq (p := i))
        have k1 : (⟨(sofar x i q i).toArray⟩ : ByteArray) ++ ⟨#[58, 58]⟩ = ⟨(sofar x i q i ++ [58, 58]).toArray⟩ := cat6 _ [58, 58]
        have q1 : ¬ 9223372036854775807 < (sofar x i q i).length + 2 := by omega
        have y0 := size_str (sofar x i q i)
        clear hz hz6 hzl hls
        go_wp2
        refine ⟨⟨i + q, by omega, by omega, by rw [Hru.out], congrArg (Value.int .i64) (by omega), hbr⟩, by simp [intOf]; omega⟩
      · have Hn := Lib.hid (sofar_next (x := x) (p := p) (q := q) hz (by omega))
        clear hz hz6
        by_cases hq : q = 0
        · have j1 : ¬ (0 : Int) < (q : Int) := by omega
          by_cases h0 : i = 0
          · have j2 : ¬ (0 : Int) < (i : Int) := by omega
            have Hnn : Hid (sofar x p q (i + 1) = (sofar x p q i) ++ hexOf z) := (Hn.out.trans (by rw [if_neg (by omega), List.append_nil]))
            have y1 := size_str (sofar x p q i)
            have y2 := size_str (hexOf z)
            have k2 : (⟨((sofar x p q i)).toArray⟩ : ByteArray) ++ ⟨(hexOf z).toArray⟩ = ⟨((sofar x p q i) ++ hexOf z).toArray⟩ := cat6 _ _
            have q2 : ¬ 9223372036854775807 < ((sofar x p q i)).length + (hexOf z).length := by omega
            clear hls hzl hq h0
            go_wp2_with fail
            refine (Hh.out _).mono ?_
            rintro e w3 ⟨rfl, hb3⟩
            have Hb3 := Lib.hid (hbr.trans (hb3.mono hbr.size))
            clear hb3
            go_wp2
            refine ⟨⟨i + 1, by omega, by omega, by rw [Hnn.out], by rfl, Hb3.out⟩, by simp [intOf]; omega⟩
          · have j2 : (0 : Int) < (i : Int) := by omega
            obtain ⟨s1, hs1⟩ : ∃ t, sofar x p q i ++ [58] = t := ⟨_, rfl⟩
            have hl1 : s1.length ≤ 3001 := by rw [← hs1, List.length_append]; simp only [List.length_cons, List.length_nil]; omega
            have k1 : (⟨(sofar x p q i).toArray⟩ : ByteArray) ++ ⟨#[58]⟩ = ⟨s1.toArray⟩ := by rw [← hs1]; exact cat6 _ [58]
            have q1 : ¬ 9223372036854775807 < (sofar x p q i).length + 1 := by omega
            have y0 := size_str (sofar x p q i)
            have Hs1 := Lib.hid hs1
            clear hs1
            have Hnn : Hid (sofar x p q (i + 1) = s1 ++ hexOf z) := (Hn.out.trans (by rw [if_pos (by omega), Hs1.out]))
            have y1 := size_str s1
            have y2 := size_str (hexOf z)
            have k2 : (⟨(s1).toArray⟩ : ByteArray) ++ ⟨(hexOf z).toArray⟩ = ⟨(s1 ++ hexOf z).toArray⟩ := cat6 _ _
            have q2 : ¬ 9223372036854775807 < (s1).length + (hexOf z).length := by omega
            clear hls hzl hl1 hq h0
            go_wp2_with fail
            refine (Hh.out _).mono ?_
            rintro e w3 ⟨rfl, hb3⟩
            have Hb3 := Lib.hid (hbr.trans (hb3.mono hbr.size))
            clear hb3
            go_wp2
            refine ⟨⟨i + 1, by omega, by omega, by rw [Hnn.out], by rfl, Hb3.out⟩, by simp [intOf]; omega⟩
        · have j1 : (0 : Int) < (q : Int) := by omega
          have j3 : ((i : Int) == (p : Int)) = false := by rw [beq_eq_false_iff_ne]; omega
          by_cases h0 : i = 0
          · have j2 : ¬ (0 : Int) < (i : Int) := by omega
            have Hnn : Hid (sofar x p q (i + 1) = (sofar x p q i) ++ hexOf z) := (Hn.out.trans (by rw [if_neg (by omega), List.append_nil]))
            have y1 := size_str (sofar x p q i)
            have y2 := size_str (hexOf z)
            have k2 : (⟨((sofar x p q i)).toArray⟩ : ByteArray) ++ ⟨(hexOf z).toArray⟩ = ⟨((sofar x p q i) ++ hexOf z).toArray⟩ := cat6 _ _
            have q2 : ¬ 9223372036854775807 < ((sofar x p q i)).length + (hexOf z).length := by omega
            clear hls hzl hq h0
            go_wp2_with fail
            refine (Hh.out _).mono ?_
            rintro e w3 ⟨rfl, hb3⟩
            have Hb3 := Lib.hid (hbr.trans (hb3.mono hbr.size))
            clear hb3
            go_wp2
            refine ⟨⟨i + 1, by omega, by omega, by rw [Hnn.out], by rfl, Hb3.out⟩, by simp [intOf]; omega⟩
          · have j2 : (0 : Int) < (i : Int) := by omega
            by_cases he : i = p + q
            · have j4 : ((i : Int) == (p : Int) + (q : Int)) = true := by rw [beq_iff_eq]; omega
              have Hnn : Hid (sofar x p q (i + 1) = (sofar x p q i) ++ hexOf z) := (Hn.out.trans (by rw [if_neg (by omega), List.append_nil]))
              have y1 := size_str (sofar x p q i)
              have y2 := size_str (hexOf z)
              have k2 : (⟨((sofar x p q i)).toArray⟩ : ByteArray) ++ ⟨(hexOf z).toArray⟩ = ⟨((sofar x p q i) ++ hexOf z).toArray⟩ := cat6 _ _
              have q2 : ¬ 9223372036854775807 < ((sofar x p q i)).length + (hexOf z).length := by omega
              clear hls hzl hq h0 he
              go_wp2_with fail
              refine (Hh.out _).mono ?_
              rintro e w3 ⟨rfl, hb3⟩
              have Hb3 := Lib.hid (hbr.trans (hb3.mono hbr.size))
              clear hb3
              go_wp2
              refine ⟨⟨i + 1, by omega, by omega, by rw [Hnn.out], by rfl, Hb3.out⟩, by simp [intOf]; omega⟩
            · have j4 : ((i : Int) == (p : Int) + (q : Int)) = false := by rw [beq_eq_false_iff_ne]; omega
              obtain ⟨s1, hs1⟩ : ∃ t, sofar x p q i ++ [58] = t := ⟨_, rfl⟩
              have hl1 : s1.length ≤ 3001 := by rw [← hs1, List.length_append]; simp only [List.length_cons, List.length_nil]; omega
              have k1 : (⟨(sofar x p q i).toArray⟩ : ByteArray) ++ ⟨#[58]⟩ = ⟨s1.toArray⟩ := by rw [← hs1]; exact cat6 _ [58]
              have q1 : ¬ 9223372036854775807 < (sofar x p q i).length + 1 := by omega
              have y0 := size_str (sofar x p q i)
              have Hs1 := Lib.hid hs1
              clear hs1
              have Hnn : Hid (sofar x p q (i + 1) = s1 ++ hexOf z) := (Hn.out.trans (by rw [if_pos (by omega), Hs1.out]))
              have y1 := size_str s1
              have y2 := size_str (hexOf z)
              have k2 : (⟨(s1).toArray⟩ : ByteArray) ++ ⟨(hexOf z).toArray⟩ = ⟨(s1 ++ hexOf z).toArray⟩ := cat6 _ _
              have q2 : ¬ 9223372036854775807 < (s1).length + (hexOf z).length := by omega
              clear hls hzl hl1 hq h0 he
              go_wp2_with fail
              refine (Hh.out _).mono ?_
              rintro e w3 ⟨rfl, hb3⟩
              have Hb3 := Lib.hid (hbr.trans (hb3.mono hbr.size))
              clear hb3
              go_wp2
              refine ⟨⟨i + 1, by omega, by omega, by rw [Hnn.out], by rfl, Hb3.out⟩, by simp [intOf]; omega⟩
    · obtain rfl : i = 8 := by omega
      have Hbf := Lib.hid (Hb1.out.trans (hbr.mono Hb1.out.size))
      clear hbr
      go_wp2
      go_ret
      rw [HF.out]
      exact ⟨rfl, Hbf.out⟩
#print axioms refShow6_any
end Go.Proofs.YtmobeppmdakjmaaDoor
namespace Go.Proofs.YtmobeppmdakjmaaDoor
open Go.RowKit

/-- A number's digits, one by one; n: what is found so far. -/
def numGo : Option Nat → List UInt8 → Option (Option Nat × List UInt8)
  | n, [] => some (n, [])
  | n, c :: t => if worth c ≤ 9 then (match n with
      | none => numGo (some (worth c)) t
      | some m => if m = 0 then none else if 255 < 10 * m + worth c then none else numGo (some (10 * m + worth c)) t)
    else some (n, c :: t)
/-- A number and the rest. -/
def num4 (l : List UInt8) : Option (Nat × List UInt8) := match numGo none l with
  | some (some m, r) => some (m, r)
  | _ => none
theorem digs_ge10 {p : List UInt8} {n : Nat} : n ≤ numB 10 n p := numB_ge 10 (by decide) p n
/-- Behind a first digit. -/
theorem numGo_some : ∀ (p r : List UInt8) (m : Nat), digitsB 10 p = true → (∀ c ∈ r.head?, 9 < worth c) → m ≤ 255 →
    numGo (some m) (p ++ r) = if p = [] ∨ (m ≠ 0 ∧ numB 10 m p < 256) then some (some (numB 10 m p), r) else none
  | [], r, m, _, hr, hm => by
    rw [if_pos (.inl rfl), List.nil_append]
    cases r with
    | nil => rfl
    | cons c t =>
      have := hr c (by simp)
      rw [numGo, if_neg (by omega)]
      rfl
  | c :: t, r, m, hd, hr, hm => by
    unfold digitsB at hd
    rw [List.all_cons, Bool.and_eq_true, decide_eq_true_eq] at hd
    have h1 := hd.1
    rw [List.cons_append, numGo, if_pos (by omega)]
    by_cases h0 : m = 0
    · rw [if_pos h0, if_neg (by simp [h0])]
    · rw [if_neg h0]
      have hge : m * 10 + worth c ≤ numB 10 (m * 10 + worth c) t := digs_ge10
      rw [show numB 10 m (c :: t) = numB 10 (m * 10 + worth c) t from rfl, show 10 * m + worth c = m * 10 + worth c by omega]
      by_cases hb : 255 < m * 10 + worth c
      · rw [if_pos hb, if_neg (by
          rintro (h | h)
          · cases h
          · omega)]
      · rw [if_neg hb, numGo_some t r _ hd.2 hr (by omega)]
        by_cases ht : t = []
        · subst ht
          rw [if_pos (.inl rfl), if_pos (.inr ⟨h0, by show m * 10 + worth c < 256; omega⟩)]
        · by_cases h2 : numB 10 (m * 10 + worth c) t < 256
          · rw [if_pos (.inr ⟨by omega, h2⟩), if_pos (.inr ⟨h0, h2⟩)]
          · rw [if_neg (by rintro (h | h); exact ht h; exact h2 h.2), if_neg (by
              rintro (h | h)
              · cases h
              · exact h2 h.2)]
theorem worth_zero (c : UInt8) : worth c = 0 ↔ c = 48 := by
  have : ∀ n : Fin 256, worth (UInt8.ofNat n.1) = 0 ↔ UInt8.ofNat n.1 = 48 := by decide +kernel
  have h := this ⟨c.toNat, c.toNat_lt⟩
  simpa using h
theorem dig4_cons {c : UInt8} {t : List UInt8} (hd : digitsB 10 (c :: t) = true) :
    dig4 (c :: t) = if t = [] ∨ (worth c ≠ 0 ∧ numB 10 (worth c) t < 256) then some (numB 10 (worth c) t) else none := by
  have h1 : worth c < 10 := by
    unfold digitsB at hd
    rw [List.all_cons, Bool.and_eq_true, decide_eq_true_eq] at hd
    exact hd.1
  have hn : numB 10 0 (c :: t) = numB 10 (worth c) t := by rw [numB, Nat.zero_mul, Nat.zero_add]
  unfold dig4
  rw [hn]
  by_cases ht : t = []
  · subst ht
    rw [if_pos ⟨by simp, by simp, hd, by simp, by show worth c < 256; omega⟩, if_pos (.inl rfl)]
  · by_cases h : worth c ≠ 0 ∧ numB 10 (worth c) t < 256
    · have hl : t.length ≤ 2 := by
        match t, h.2 with
        | [], _ => simp
        | [_], _ => simp
        | [_, _], _ => simp
        | a :: b :: d :: t, h2 =>
          exfalso
          have : ((worth c * 10 + worth a) * 10 + worth b) * 10 + worth d ≤ numB 10 (worth c) (a :: b :: d :: t) := digs_ge10
          omega
      rw [if_pos ⟨by simp, by simp only [List.length_cons]; omega, hd, by
        rintro ⟨_, hh⟩
        rw [List.head?_cons] at hh
        injection hh with hh
        exact h.1 ((worth_zero c).2 hh), h.2⟩, if_pos (.inr h)]
    · rw [if_neg (by
        rintro ⟨_, _, _, h3, h4⟩
        refine h ⟨fun e => h3 ⟨?_, ?_⟩, h4⟩
        · have := List.length_pos_iff.2 ht
          simp only [List.length_cons]
          omega
        · rw [(worth_zero c).1 e]; rfl), if_neg (by
        rintro (h' | h')
        · exact ht h'
        · exact h h')]
theorem num4_is {p r : List UInt8} (hd : digitsB 10 p = true) (hr : ∀ c ∈ r.head?, 9 < worth c) : num4 (p ++ r) = (dig4 p).map (·, r) := by
  unfold num4
  cases p with
  | nil =>
    rw [List.nil_append, show dig4 [] = none by decide]
    cases r with
    | nil => rfl
    | cons c t =>
      have := hr c (by simp)
      rw [numGo, if_neg (by omega)]
      rfl
  | cons c t =>
    rw [dig4_cons hd]
    unfold digitsB at hd
    rw [List.all_cons, Bool.and_eq_true, decide_eq_true_eq] at hd
    rw [List.cons_append, numGo, if_pos (by omega)]
    rw [numGo_some t r _ hd.2 hr (by omega)]
    by_cases h : t = [] ∨ (worth c ≠ 0 ∧ numB 10 (worth c) t < 256)
    · rw [if_pos h, if_pos h]; rfl
    · rw [if_neg h, if_neg h]; rfl
/-- A text's digits and the rest. -/
theorem digs_split : ∀ l : List UInt8, ∃ p r, l = p ++ r ∧ digitsB 10 p = true ∧ ∀ c ∈ r.head?, 9 < worth c
  | [] => ⟨[], [], rfl, rfl, by simp⟩
  | c :: t => by
    by_cases h : worth c ≤ 9
    · obtain ⟨p, r, e, h1, h2⟩ := digs_split t
      refine ⟨c :: p, r, by rw [e]; rfl, ?_, h2⟩
      unfold digitsB at h1 ⊢
      rw [List.all_cons, h1, decide_eq_true (by omega)]
      rfl
    · exact ⟨[], c :: t, rfl, rfl, by simp; omega⟩
#print axioms num4_is
#print axioms digs_split
end Go.Proofs.YtmobeppmdakjmaaDoor
namespace Go.Proofs.YtmobeppmdakjmaaDoor
open Go.RowKit

/-- The dot ahead of a number; the first one has none. -/
def skip4 (f : Nat) (l : List UInt8) : Option (List UInt8) := if f = 3 then some l else match l with
  | c :: r => if c = 46 then some r else none
  | [] => none
def rest4 : Nat → Nat → Nat → List UInt8 → Option (List Nat)
  | 0, hi, lo, l => if l = [] then some [hi, lo] else none
  | f + 1, hi, lo, l => match skip4 f l with
    | none => none
    | some l => match num4 l with
      | none => none
      | some (n, r) => if 2 ≤ f then rest4 f (256 * hi + n) lo r else rest4 f hi (256 * lo + n) r
/-- A number, and what is behind it. -/
def go4 (f hi lo : Nat) (l : List UInt8) : Option (List Nat) := match num4 l with
  | none => none
  | some (n, r) => if 2 ≤ f then rest4 f (256 * hi + n) lo r else rest4 f hi (256 * lo + n) r
theorem rest4_first (hi lo : Nat) (l : List UInt8) : rest4 4 hi lo l = go4 3 hi lo l := by
  rw [rest4, show skip4 3 l = some l from rfl]; rfl
theorem rest4_dot {f : Nat} (hf : f ≠ 3) (hi lo : Nat) (r : List UInt8) : rest4 (f + 1) hi lo (46 :: r) = go4 f hi lo r := by
  rw [rest4, skip4.eq_def, if_neg hf]
  simp only [if_true]
  rfl
theorem rest4_other {f : Nat} (hf : f < 3) (hi lo : Nat) {l : List UInt8} (h : l.head? ≠ some 46) : rest4 f hi lo l = none ∨ (f = 0 ∧ l = []) := by
  cases f with
  | zero =>
    rw [rest4]
    by_cases hl : l = []
    · exact .inr ⟨rfl, hl⟩
    · exact .inl (if_neg hl)
  | succ f =>
    left
    rw [rest4, skip4.eq_def, if_neg (by omega)]
    cases l with
    | nil => rfl
    | cons c t =>
      have : c ≠ 46 := fun e => h (by rw [e]; rfl)
      simp only [if_neg this]
theorem dig4_digits {p : List UInt8} (h : digitsB 10 p = false) : dig4 p = none := by
  unfold dig4
  rw [if_neg]
  rintro ⟨_, _, h3, _⟩
  rw [h] at h3
  cases h3
theorem digits_stop {p r : List UInt8} {c : UInt8} (hr : r.head? = some c) (hc : 9 < worth c) : digitsB 10 (p ++ r) = false := by
  cases r with
  | nil => cases hr
  | cons d t =>
    rw [List.head?_cons] at hr
    injection hr with hr
    subst hr
    unfold digitsB
    rw [List.all_append, List.all_cons, decide_eq_false (by omega), Bool.false_and, Bool.and_false]
theorem w46 : 9 < worth 46 := by decide
theorem go4_dot {f : Nat} (hi lo : Nat) (hf : f ≤ 2) {p r : List UInt8} (hp : (46 : UInt8) ∉ p) :
    go4 (f + 1) hi lo (p ++ 46 :: r) = match dig4 p with
      | none => none
      | some n => if 1 ≤ f then go4 f (256 * hi + n) lo r else go4 f hi (256 * lo + n) r := by
  obtain ⟨a, b, rfl, h1, h2⟩ := digs_split p
  unfold go4
  cases b with
  | nil =>
    rw [List.append_nil] at hp ⊢
    rw [num4_is h1 (r := 46 :: r) (by intro c hc; rw [List.head?_cons] at hc; injection hc with hc; rw [← hc]; exact w46)]
    cases dig4 a with
    | none => rfl
    | some n =>
      simp only [Option.map_some]
      by_cases h : 1 ≤ f
      · rw [if_pos (by omega), if_pos h, rest4_dot (by omega)]; rfl
      · rw [if_neg (by omega), if_neg h, rest4_dot (by omega)]; rfl
  | cons c t =>
    rw [dig4_digits (digits_stop (r := c :: t) rfl (h2 c rfl)), List.append_assoc, num4_is h1 (r := c :: t ++ 46 :: r) h2]
    have hc : c ≠ 46 := fun e => hp (by rw [e]; simp)
    have hh : (c :: t ++ 46 :: r).head? ≠ some 46 := by
      rw [List.cons_append, List.head?_cons]
      exact fun e => hc (by injection e)
    cases dig4 a with
    | none => rfl
    | some n =>
      simp only [Option.map_some]
      have h3 : ∀ x y, rest4 (f + 1) x y (c :: t ++ 46 :: r) = none := by
        intro x y
        by_cases h : f = 2
        · subst h
          rw [rest4, skip4.eq_def, if_neg (by omega), List.cons_append]
          simp only [if_neg hc]
        · rcases rest4_other (f := f + 1) (by omega) x y hh with h | ⟨h, _⟩
          · exact h
          · omega
      rw [h3, h3, ite_self]
theorem go4_no {f : Nat} (hi lo : Nat) (hf : f ≤ 2) {l : List UInt8} (hp : (46 : UInt8) ∉ l) : go4 (f + 1) hi lo l = none := by
  obtain ⟨a, b, rfl, h1, h2⟩ := digs_split l
  unfold go4
  rw [num4_is h1 h2]
  have h3 : ∀ x y, rest4 (f + 1) x y b = none := by
    intro x y
    rw [rest4, skip4.eq_def, if_neg (by omega)]
    cases b with
    | nil => rfl
    | cons c t =>
      have : c ≠ 46 := fun e => hp (by rw [e]; simp)
      simp only [if_neg this]
  cases dig4 a with
  | none => rfl
  | some n =>
    simp only [Option.map_some]
    rw [h3, h3, ite_self]
theorem go4_end (hi lo : Nat) (l : List UInt8) : go4 0 hi lo l = match dig4 l with
    | none => none
    | some n => some [hi, 256 * lo + n] := by
  obtain ⟨a, b, rfl, h1, h2⟩ := digs_split l
  unfold go4
  rw [num4_is h1 h2]
  cases b with
  | nil =>
    rw [List.append_nil]
    cases dig4 a with
    | none => rfl
    | some n => rfl
  | cons c t =>
    rw [dig4_digits (digits_stop (r := c :: t) rfl (h2 c rfl))]
    cases dig4 a with
    | none => rfl
    | some n => rfl
theorem first_dot : ∀ l : List UInt8, (46 : UInt8) ∉ l ∨ ∃ p r, l = p ++ 46 :: r ∧ (46 : UInt8) ∉ p
  | [] => .inl (by simp)
  | c :: t => by
    by_cases hc : c = 46
    · exact .inr ⟨[], t, by rw [hc]; rfl, by simp⟩
    · rcases first_dot t with h | ⟨p, r, e, h⟩
      · exact .inl (by simp [h, Ne.symm hc])
      · exact .inr ⟨c :: p, r, by rw [e]; rfl, by simp [h, Ne.symm hc]⟩
theorem rest4_inner (l : List UInt8) : rest4 4 0 0 l = inner6 l := by
  rw [rest4_first]
  rcases first_dot l with h | ⟨a, l2, rfl, ha⟩
  · rw [go4_no 0 0 (by omega) h, inner6_free h]
  have e1 := splitC_app 46 a [] l2 ha
  rw [List.nil_append] at e1
  rw [go4_dot 0 0 (by omega) ha]
  rcases first_dot l2 with h | ⟨b, l3, rfl, hb⟩
  · rw [inner_len (by rw [e1, splitC_free 46 l2 [] h]; simp)]
    cases dig4 a with
    | none => rfl
    | some n => simp only [go4_no _ _ (show 1 ≤ 2 by omega) h, ite_self]
  have e2 := splitC_app 46 b [] l3 hb
  rw [List.nil_append] at e2
  rcases first_dot l3 with h | ⟨c, l4, rfl, hc⟩
  · rw [inner_len (by rw [e1, e2, splitC_free 46 l3 [] h]; simp)]
    cases dig4 a with
    | none => rfl
    | some n =>
      simp only [if_pos (show 1 ≤ 2 by omega), go4_dot _ _ (show 1 ≤ 2 by omega) hb]
      cases dig4 b with
      | none => rfl
      | some m => simp only [go4_no _ _ (show 0 ≤ 2 by omega) h, ite_self]
  have e3 := splitC_app 46 c [] l4 hc
  rw [List.nil_append] at e3
  simp only [go4_dot _ _ (show 1 ≤ 2 by omega) hb, go4_dot _ _ (show 0 ≤ 2 by omega) hc, go4_end, if_pos (show 1 ≤ 2 by omega), if_pos (show 1 ≤ 1 by omega), if_neg (show ¬ 1 ≤ 0 by omega)]
  rcases first_dot l4 with h | ⟨d, l5, rfl, hd⟩
  · unfold inner6
    rw [e1, e2, e3, splitC_free 46 l4 [] h, List.nil_append]
    simp only
    cases dig4 a <;> cases dig4 b <;> cases dig4 c <;> cases dig4 l4 <;> try rfl
    simp only [Option.some.injEq, List.cons.injEq, and_true]
    omega
  · have e4 := splitC_app 46 d [] l5 hd
    rw [List.nil_append] at e4
    have hne := splitC_ne 46 l5 []
    rw [inner_len (by
      rw [e1, e2, e3, e4]
      have := List.length_pos_iff.2 hne
      simp only [List.length_cons]
      omega), dig4_digits (digits_stop (c := 46) (r := 46 :: l5) rfl w46)]
    cases dig4 a <;> cases dig4 b <;> cases dig4 c <;> rfl
#print axioms rest4_inner
end Go.Proofs.YtmobeppmdakjmaaDoor
