/- Walk: the iterator over a text's parts (the closure of path.parts), whatever each round does. -/
import Derived.Test.YtpahiipfmccbiaaDoorA9
namespace Go.Proofs.YtpahiipfmccbiaaDoor
open Go.RowKit Go.Shelf
attribute [local go_sem] Oper.semAt_some

/-- The length of the slice in a box. -/
def boxLen (tb : Nat) (W : World) : Nat := match W.cell? ⟨tb, 0, none⟩ with
  | some (.slice _ n _) => n
  | _ => 0
theorem boxLen_eq {tb : Nat} {W : World} {A : Option Addr} {n c : Nat} (h : W.cell? ⟨tb, 0, none⟩ = some (.slice A n c)) : boxLen tb W = n := by rw [boxLen, h]

theorem sepIdx_lt {sp : Bool} {rs : List Int} {k : Nat} (h : sepIdx sp rs = k) : k < rs.length := by
  unfold sepIdx at h
  split at h
  · rename_i j hj
    obtain ⟨hlt, _⟩ := List.findIdx?_eq_some_iff_getElem.1 hj
    omega
  · omega

set_option maxHeartbeats 2000000 in
set_option maxRecDepth 100000 in
theorem parts1_in (n : Nat) (sp : Bool) (sb tb ib l : Nat)
    (Inv : List Int → World → Prop) (Mid : Nat → List Int → Option Addr → Nat → World → Prop) (End : World → Prop)
    (hI : ∀ rem W, Inv rem W → ∃ A c B, rem.length ≤ c ∧ rem.length ≤ 4294967296 ∧ Rd W B A (runV rem) ∧ W.cell? ⟨tb, 0, none⟩ = some (.slice A rem.length c) ∧
      W.cell? ⟨ib, 0, none⟩ = some (.func (.func 38) #[] #[.pointer (some ⟨sb, 0, none⟩)]) ∧ W.cell? ⟨sb, 0, none⟩ = some (.bool sp))
    (hY1 : ∀ rem A c W, Inv rem W → W.cell? ⟨tb, 0, none⟩ = some (.slice A rem.length c) → sepIdx sp rem = -1 → YieldAt Fence.wide (n - 1) Tryd.prog l #[.agg #[.slice A rem.length c, .bool true]] W fun e W' => e = .returned (.bool true) ∧ End W')
    (hY2 : ∀ rem A c (k : Nat) W, Inv rem W → W.cell? ⟨tb, 0, none⟩ = some (.slice A rem.length c) → sepIdx sp rem = k → YieldAt Fence.wide (n - 1) Tryd.prog l #[.agg #[.slice A k c, .bool false]] W fun e W' => e = .returned (.bool true) ∧ Mid k rem A c W')
    (hM : ∀ k rem A c W, Mid k rem A c W → W.cell? ⟨tb, 0, none⟩ = some (.slice A rem.length c) ∧ W.frozen? ⟨tb, 0, none⟩ = false)
    (hM2 : ∀ k rem A c W, Mid k rem A c W → Inv (rem.drop (k + 1)) (W.setCell ⟨tb, 0, none⟩ (.slice (if c = k + 1 then A else Option.map (fun x => { block := x.block, off := x.off + (k + 1) }) A) (rem.length - (k + 1)) (c - (k + 1)))))
    (rs : List Int) (W : World) (h0 : Inv rs W) :
    CallsIn Fence.wide n Tryd.prog 57 #[.func (.yield l) #[] #[], .pointer (some ⟨tb, 0, none⟩), .pointer (some ⟨ib, 0, none⟩)] W fun e W' => (∃ v, e = .returned v) ∧ End W' := by
  refine callsIn_of_wp Tryd.func57 rfl trivial ?_ rfl
  simp only [Tryd.ntmps57, List.size_toArray, List.length_cons, List.length_nil, Nat.reduceAdd, Nat.reduceSub, Array.replicate_succ, Array.replicate_zero, List.push_toArray, List.append_toArray, List.nil_append, List.cons_append]
  gi_wp2_with fail
  gi_loopw [4] (fun _ wr => ∃ rem, Inv rem wr) (fun _ wr => boxLen tb wr)
  case atStart => exact ⟨rs, h0⟩
  case round =>
    obtain ⟨rem, hinv⟩ := hrel
    obtain ⟨A, c, B, hlc, hlm, hrd, ht, hib, hsb⟩ := hI rem wr hinv
    by_cases hs : sepIdx sp rem = -1
    · have hs' : (sepIdx sp rem < 0) := by omega
      gi_wp2_with fail
      refine ⟨trivial, (fun h => by cases h), ?_⟩
      refine (callsIn_wide.2 (indexFunc_any sp sb A c rem _ B hrd hsb hlm)).mono ?_
      rintro e w' ⟨rfl, rfl⟩
      obtain ⟨fn, tmps, assign, body, hy, hR⟩ := hY1 rem A c _ hinv ht hs
      gi_wp2_with fail
      refine ⟨(fun h => by cases h), ?_⟩
      refine hR.mono ?_
      rintro e w' ⟨rfl, hE⟩
      gi_wp2
      refine bodyPost_ret (results_none rfl _ _ _) rfl ?_
      exact ⟨⟨_, rfl⟩, hE⟩
    · obtain ⟨k, hk⟩ : ∃ k : Nat, sepIdx sp rem = k := by
        unfold sepIdx at hs ⊢
        split at hs
        · exact ⟨_, rfl⟩
        · exact absurd rfl hs
      have hklt := sepIdx_lt hk
      clear hs
      gi_wp2_with fail
      refine ⟨trivial, (fun h => by cases h), ?_⟩
      refine (callsIn_wide.2 (indexFunc_any sp sb A c rem _ B hrd hsb hlm)).mono ?_
      rintro e w' ⟨rfl, rfl⟩
      obtain ⟨fn, tmps, assign, body, hy, hR⟩ := hY2 rem A c k _ hinv ht hk
      gi_wp2_with fail
      refine ⟨(fun h => by cases h), ?_⟩
      refine hR.mono ?_
      rintro e W3 ⟨rfl, hmid⟩
      obtain ⟨ht3, hf3⟩ := hM k rem A c W3 hmid
      have hinv3 := hM2 k rem A c W3 hmid
      have hinv4 := Lib.hid hinv3
      have Ht := Lib.hid ht
      clear hinv3 hinv hY1 hY2 hI hM hM2 hrd hib hsb ht hy hk
      gi_wp2
      refine ⟨⟨_, hinv4.out⟩, ?_⟩
      rw [boxLen_eq Ht.out, boxLen_eq (World.cell?_setCell_same' _ _ _ (by rw [ht3]; rfl))]
      omega
end Go.Proofs.YtpahiipfmccbiaaDoor
