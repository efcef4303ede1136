/- Walks: the world's standing variables; strconv.ParseUint of digits; a number's text (base, Number). -/
import Derived.Test.YtmobeppmdakjmaaDoorA1
import Derived.Test.YtmobeppmdakjmaaDoorA2
import Derived.Test.YtmobeppmdakjmaaDoorA3
import Derived.Lib.LaidTab
namespace Go.Proofs.YtmobeppmdakjmaaDoor
open Go.RowKit

/-- What the library's variables hold. -/
structure Ok (w : World) : Prop where
  mx : Mx 0 w
  es : ∃ te pe, w.cell? ⟨3, 0, none⟩ = some (.iface te pe)
  er : ∃ te pe, w.cell? ⟨4, 0, none⟩ = some (.iface te pe)
  pow : Lib.TabIs Tryd.prog w "internal/strconv.uint64pow10" .u64 Lib.pow10Tab
theorem iface_below {g : Nat} {w w' : World} (h : ∃ te pe, w.cell? ⟨g, 0, none⟩ = some (.iface te pe)) (hb : Below w.heap.size w w') : ∃ te pe, w'.cell? ⟨g, 0, none⟩ = some (.iface te pe) := by
  obtain ⟨te, pe, hc⟩ := h
  exact ⟨te, pe, (hb.cell (World.block_lt_of_cell? w _ hc)).trans hc⟩

theorem tabIs_below {n : String} {k : IntKind} {zs : List Int} {w w' : World} (h : Lib.TabIs Tryd.prog w n k zs) (hb : Below w.heap.size w w') : Lib.TabIs Tryd.prog w' n k zs := by
  unfold Lib.TabIs World.var? at h ⊢
  cases hg : Tryd.prog.globalNamed n with
  | none => rw [hg] at h; cases h
  | some g =>
    rw [hg] at h
    simp only [Option.bind_some] at h ⊢
    have hlt : g < w.heap.size := by
      rcases Nat.lt_or_ge g w.heap.size with h' | h'
      · exact h'
      · rw [Array.getElem?_eq_none h'] at h; cases h
    rw [hb.block g hlt]
    exact h
theorem Ok.below {w w' : World} (h : Ok w) (hb : Below w.heap.size w w') : Ok w' :=
  ⟨h.mx.below hb, iface_below h.es hb, iface_below h.er hb, tabIs_below h.pow hb⟩

set_option maxHeartbeats 1000000 in
theorem pub8_ok (l : List UInt8) (hne : l ≠ []) (hdig : digitsB 8 l = true) (hmax : l.length ≤ 1000000) (h : numB 8 0 l ≤ 4294967295) (w : World) :
    Calls Tryd.prog 49 #[.string ⟨l.toArray⟩, .int .i64 8, .int .i64 32] w fun e w' => e = .returned (.tuple #[.int .u64 (numB 8 0 l), .nilIface]) ∧ Below w.heap.size w w' := by
  have Hp := Lib.hid (pu_b8_32 l hne hdig hmax w)
  have hv : puV_b8_32 (numB 8 0 l) = .tuple #[.int .u64 (numB 8 0 l), .nilIface] := by rw [puV_b8_32, if_pos h]
  rw [hv] at Hp
  clear hne hdig h hv
  go_enter Tryd.func49, Tryd.ntmps49
  go_wp2_with (go_at_call 89; refine Hp.out.mono ?_; rintro e w' ⟨rfl, hb⟩)
  go_ret2
  exact ⟨rfl, hb⟩
set_option maxHeartbeats 1000000 in
theorem pub8_range (l : List UInt8) (hne : l ≠ []) (hdig : digitsB 8 l = true) (hmax : l.length ≤ 1000000) (h : 4294967295 < numB 8 0 l) (w : World) (hr : ∃ te pe, w.cell? ⟨4, 0, none⟩ = some (.iface te pe)) :
    Calls Tryd.prog 49 #[.string ⟨l.toArray⟩, .int .i64 8, .int .i64 32] w fun e w' => ∃ N, e = .returned (.tuple #[.int .u64 4294967295, .iface 134 (.pointer (some ⟨N, 0, none⟩))]) ∧ Below w.heap.size w w' := by
  have Hp := Lib.hid (pu_b8_32 l hne hdig hmax w)
  have hv : puV_b8_32 (numB 8 0 l) = .tuple #[.int .u64 4294967295, .iface 132 (.int .i64 1)] := by rw [puV_b8_32, if_neg (by omega)]
  rw [hv] at Hp
  have hsz := size_str l
  have Hr := Lib.hid hr
  clear hne hdig h hv hr
  go_enter Tryd.func49, Tryd.ntmps49
  go_wp2_with (go_at_call 89; refine Hp.out.mono ?_)
  rintro e w1 ⟨rfl, hb⟩
  obtain ⟨te, pe, hc⟩ := iface_below Hr.out hb
  go_wp2_with (go_at_call 90; refine (Tryd.strconv_toError_range _ ⟨l.toArray⟩ 8 32 _ w1 (by omega) hc (.inr ⟨te, pe, rfl⟩)).mono ?_)
  rintro e w2 ⟨N, rfl, _, _, hb2⟩
  go_wp2
  go_ret2
  exact ⟨N, rfl, hb.trans (hb2.mono hb.size)⟩
set_option maxHeartbeats 1000000 in
theorem pub16_ok (l : List UInt8) (hne : l ≠ []) (hdig : digitsB 16 l = true) (hmax : l.length ≤ 1000000) (h : numB 16 0 l ≤ 4294967295) (w : World) :
    Calls Tryd.prog 49 #[.string ⟨l.toArray⟩, .int .i64 16, .int .i64 32] w fun e w' => e = .returned (.tuple #[.int .u64 (numB 16 0 l), .nilIface]) ∧ Below w.heap.size w w' := by
  have Hp := Lib.hid (pu_b16_32 l hne hdig hmax w)
  have hv : puV_b16_32 (numB 16 0 l) = .tuple #[.int .u64 (numB 16 0 l), .nilIface] := by rw [puV_b16_32, if_pos h]
  rw [hv] at Hp
  clear hne hdig h hv
  go_enter Tryd.func49, Tryd.ntmps49
  go_wp2_with (go_at_call 89; refine Hp.out.mono ?_; rintro e w' ⟨rfl, hb⟩)
  go_ret2
  exact ⟨rfl, hb⟩
set_option maxHeartbeats 1000000 in
theorem pub16_range (l : List UInt8) (hne : l ≠ []) (hdig : digitsB 16 l = true) (hmax : l.length ≤ 1000000) (h : 4294967295 < numB 16 0 l) (w : World) (hr : ∃ te pe, w.cell? ⟨4, 0, none⟩ = some (.iface te pe)) :
    Calls Tryd.prog 49 #[.string ⟨l.toArray⟩, .int .i64 16, .int .i64 32] w fun e w' => ∃ N, e = .returned (.tuple #[.int .u64 4294967295, .iface 134 (.pointer (some ⟨N, 0, none⟩))]) ∧ Below w.heap.size w w' := by
  have Hp := Lib.hid (pu_b16_32 l hne hdig hmax w)
  have hv : puV_b16_32 (numB 16 0 l) = .tuple #[.int .u64 4294967295, .iface 132 (.int .i64 1)] := by rw [puV_b16_32, if_neg (by omega)]
  rw [hv] at Hp
  have hsz := size_str l
  have Hr := Lib.hid hr
  clear hne hdig h hv hr
  go_enter Tryd.func49, Tryd.ntmps49
  go_wp2_with (go_at_call 89; refine Hp.out.mono ?_)
  rintro e w1 ⟨rfl, hb⟩
  obtain ⟨te, pe, hc⟩ := iface_below Hr.out hb
  go_wp2_with (go_at_call 90; refine (Tryd.strconv_toError_range _ ⟨l.toArray⟩ 16 32 _ w1 (by omega) hc (.inr ⟨te, pe, rfl⟩)).mono ?_)
  rintro e w2 ⟨N, rfl, _, _, hb2⟩
  go_wp2
  go_ret2
  exact ⟨N, rfl, hb.trans (hb2.mono hb.size)⟩
#print axioms pub16_range
end Go.Proofs.YtmobeppmdakjmaaDoor
