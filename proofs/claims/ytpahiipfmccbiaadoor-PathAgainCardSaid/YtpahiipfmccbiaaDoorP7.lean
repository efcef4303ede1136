/- Plain law of PathAgain: what a walk from no path on tells are good segments; put together with / and walked again they are the same. -/
import Derived.Test.YtpahiipfmccbiaaDoorP5
import Derived.Test.YtpahiipfmccbiaaDoorP6
import Derived.Lib.Join
namespace Go.Proofs.YtpahiipfmccbiaaDoor

/-- A byte that is not coded and no separator. -/
def okB (sp : Bool) (b : UInt8) : Prop := inP b.toNat = false ∧ isSep sp b.toNat = false
/-- A good segment: no dots, and each byte stands for itself. -/
structure Good (sp : Bool) (s : List UInt8) : Prop where
  s1 : single s = false
  s2 : double s = false
  ok : ∀ b ∈ s, okB sp b

theorem hexB_ok : ∀ (sp : Bool) (n : Fin 16), inP (hexB n.val).toNat = false ∧ isSep sp (hexB n.val).toNat = false := by decide
theorem codeB_ok (sp : Bool) (c b : UInt8) (h : b ∈ codeB c) : okB sp b := by
  have hc := c.toNat_lt
  simp only [codeB, List.mem_cons, List.not_mem_nil, or_false] at h
  rcases h with rfl | rfl | rfl
  · exact ⟨by decide, by cases sp <;> decide⟩
  · exact hexB_ok sp ⟨c.toNat / 16, by omega⟩
  · exact hexB_ok sp ⟨c.toNat % 16, by omega⟩
theorem inP_range {r : Int} (h : inP r = false) : 32 ≤ r ∧ r ≤ 126 := by simp [inP] at h; omega
theorem toB_nat {r : Int} (h0 : 0 ≤ r) (h1 : r < 256) : (r.toNat.toUInt8.toNat : Int) = r := by
  have : r.toNat.toUInt8.toNat = r.toNat := by show r.toNat % 256 = r.toNat; omega
  omega
theorem encR_ok {sp : Bool} {r : Int} (hs : isSep sp r = false) {b : UInt8} (h : b ∈ encR r) : okB sp b := by
  unfold encR at h
  split at h
  · obtain ⟨c, _, hc⟩ := List.mem_flatMap.1 h
    exact codeB_ok sp c b hc
  · rename_i hp
    have hp2 : inP r = false := by simpa using hp
    have hr := inP_range hp2
    have e := toB_nat (r := r) (by omega) (by omega)
    obtain rfl : b = r.toNat.toUInt8 := by simpa using h
    refine ⟨?_, ?_⟩
    · rw [e]; exact hp2
    · rw [e]; exact hs
theorem enc_ok {sp : Bool} {l : List Int} (hs : ∀ r ∈ l, isSep sp r = false) {b : UInt8} (h : b ∈ enc l) : okB sp b := by
  obtain ⟨r, hr, hb⟩ := List.mem_flatMap.1 h
  exact encR_ok (hs r hr) hb

theorem good_nil (sp : Bool) : Good sp [] := ⟨by decide, by decide, fun b h => by simp at h⟩
theorem dots_letter {x : UInt8} (hx : letB x.toNat = true) (y : UInt8) : dotsZ [x, y] = -1 := by
  have h46 : x ≠ 46 := fun e => by subst e; revert hx; decide
  rw [dotsZ, dotsN_short x [y] h46 (by simp)]
theorem good_drive {sp : Bool} {x : UInt8} (hx : letB x.toNat = true) (hk : okB sp x) : Good sp [x, 58] := by
  refine ⟨by rw [single_dots, dots_letter hx]; decide, by rw [double_dots, dots_letter hx]; decide, fun b h => ?_⟩
  simp only [List.mem_cons, List.not_mem_nil, or_false] at h
  rcases h with rfl | rfl
  · exact hk
  · exact ⟨by decide, by cases sp <;> decide⟩

/-- A file's first segment that is a drive is a plain one. -/
def firstOK (name : List UInt8) (l : List (List UInt8)) : Prop :=
  name == fileN → ∀ s t, l = s :: t → drive (runes s) = true → s.take 1 ++ [58] = s
structure GoodL (name : List UInt8) (sp : Bool) (l : List (List UInt8)) : Prop where
  all : ∀ s ∈ l, Good sp s
  first : firstOK name l

theorem firstOK_nil (name : List UInt8) : firstOK name [] := fun _ _ _ h => by cases h
theorem firstOK_snoc {name : List UInt8} {l : List (List UInt8)} (h : firstOK name l) (hl : l ≠ []) (s : List UInt8) : firstOK name (l ++ [s]) := by
  intro hn a t e hd
  cases l with
  | nil => exact absurd rfl hl
  | cons b r =>
    rw [List.cons_append] at e
    injection e with e1 e2
    subst e1
    exact h hn b r rfl hd
theorem firstOK_one {name s : List UInt8} (h : name == fileN → drive (runes s) = true → s.take 1 ++ [58] = s) : firstOK name [s] := by
  intro hn a t e hd
  injection e with e1 e2
  subst e1
  exact h hn hd
theorem firstOK_any {name : List UInt8} {l : List (List UInt8)} (h : firstOK name l) (s : List UInt8) (h1 : name == fileN → l = [] → drive (runes s) = true → s.take 1 ++ [58] = s) : firstOK name (l ++ [s]) := by
  by_cases hl : l = []
  · subst hl
    exact firstOK_one (fun hn => h1 hn rfl)
  · exact firstOK_snoc h hl s
theorem goodL_snoc {name : List UInt8} {sp : Bool} {l : List (List UInt8)} {s : List UInt8} (h : GoodL name sp l) (hs : Good sp s) (h1 : name == fileN → l = [] → drive (runes s) = true → s.take 1 ++ [58] = s) : GoodL name sp (l ++ [s]) := by
  refine ⟨fun x hx => ?_, firstOK_any h.first s h1⟩
  rcases List.mem_append.1 hx with hx | hx
  · exact h.all x hx
  · obtain rfl : x = s := by simpa using hx
    exact hs
theorem goodL_shorten {name : List UInt8} {sp : Bool} {l : List (List UInt8)} (h : GoodL name sp l) : GoodL name sp (shorten name l) := by
  refine ⟨fun s hs => h.all s (shorten_mem hs), ?_⟩
  match l, h with
  | [], h => exact h.first
  | [s], h =>
    show firstOK name (if name == fileN && plainDrive s then [s] else [])
    split
    · exact h.first
    · exact firstOK_nil name
  | a :: b :: t, h =>
    rw [show shorten name (a :: b :: t) = a :: (b :: t).dropLast from rfl]
    intro hn s r e hd
    injection e with e1 e2
    subst e1
    exact h.first hn a (b :: t) rfl hd
theorem drive_nil : drive (runes []) = false := rfl
theorem goodL_empty {name : List UInt8} {sp : Bool} {l : List (List UInt8)} (h : GoodL name sp l) : GoodL name sp (l ++ [[]]) :=
  goodL_snoc h (good_nil sp) (fun _ _ hd => by rw [drive_nil] at hd; cases hd)
theorem goodL_put {name : List UInt8} {sp : Bool} {l : List (List UInt8)} {p : List Int} (last : Bool) (h : GoodL name sp l) (hp : ∀ r ∈ p, isSep sp r = false) : GoodL name sp (putP name l p last) := by
  unfold putP
  split
  · split
    · exact goodL_empty (goodL_shorten h)
    · exact goodL_shorten h
  · rename_i hd
    split
    · split
      · exact goodL_empty h
      · exact h
    · rename_i hs
      have hg : Good sp (enc p) := ⟨by simpa using hs, by simpa using hd, fun b hb => enc_ok hp hb⟩
      split
      · rename_i hc
        simp only [Bool.and_eq_true] at hc
        obtain ⟨x, y, he, hx, hy⟩ := drive_bytes hc.2
        rw [he]
        refine goodL_snoc h (good_drive hx (hg.ok x (by rw [he]; simp))) (fun _ _ _ => rfl)
      · rename_i hc
        refine goodL_snoc h hg (fun hn hl hdr => ?_)
        subst hl
        exact absurd (by simp [hn, hdr]) hc
theorem goodL_walkGo {name : List UInt8} {sp : Bool} : ∀ (rs cur : List Int) (l : List (List UInt8)), GoodL name sp l → (∀ r ∈ cur, isSep sp r = false) → GoodL name sp (walkGo name sp cur rs l)
  | [], cur, l, h, hc => by rw [walkGo]; exact goodL_put true h hc
  | r :: t, cur, l, h, hc => by
    rw [walkGo]
    split
    · exact goodL_walkGo t [] _ (goodL_put false h hc) (fun x hx => by simp at hx)
    · rename_i hs
      refine goodL_walkGo t (cur ++ [r]) l h (fun x hx => ?_)
      rcases List.mem_append.1 hx with hx | hx
      · exact hc x hx
      · obtain rfl : x = r := by simpa using hx
        simpa using hs
theorem goodL_walk (name : List UInt8) (rs : List Int) : GoodL name (special name) (walk name [] rs) :=
  goodL_walkGo rs [] [] ⟨fun s h => by simp at h, firstOK_nil name⟩ (fun r h => by simp at h)

theorem putP_ne (name : List UInt8) (l : List (List UInt8)) (p : List Int) : putP name l p true ≠ [] := by
  unfold putP
  split
  · simp
  · split
    · simp
    · split <;> simp
theorem walkGo_ne (name : List UInt8) (sp : Bool) : ∀ (rs cur : List Int) (l : List (List UInt8)), walkGo name sp cur rs l ≠ []
  | [], cur, l => by rw [walkGo]; exact putP_ne name l cur
  | r :: t, cur, l => by
    rw [walkGo]
    split
    · exact walkGo_ne name sp t _ _
    · exact walkGo_ne name sp t _ _
theorem walk_ne (name : List UInt8) (l : List (List UInt8)) (rs : List Int) : walk name l rs ≠ [] := walkGo_ne _ _ _ _ _

/-- A text's bytes as code points. -/
def intsOf (s : List UInt8) : List Int := s.map fun b => (b.toNat : Int)
theorem enc_ints {sp : Bool} : ∀ (s : List UInt8), (∀ b ∈ s, okB sp b) → enc (intsOf s) = s
  | [], _ => rfl
  | b :: t, h => by
    have hb := h b (by simp)
    have hr := inP_range hb.1
    have e : encR (b.toNat : Int) = [b] := by
      rw [encR, if_neg (by rw [hb.1]; decide)]
      congr 1
      apply UInt8.toNat_inj.1
      have := toB_nat (r := (b.toNat : Int)) (by omega) (by omega)
      omega
    rw [intsOf, List.map_cons, enc, List.flatMap_cons, e]
    show b :: enc (intsOf t) = b :: t
    rw [enc_ints t (fun x hx => h x (by simp [hx]))]
theorem ints_sep {sp : Bool} {s : List UInt8} (h : ∀ b ∈ s, okB sp b) : ∀ r ∈ intsOf s, isSep sp r = false := by
  intro r hr
  obtain ⟨b, hb, rfl⟩ := List.mem_map.1 hr
  exact (h b hb).2
theorem tailP_plain {sp : Bool} : ∀ (a cur : List Int), (∀ r ∈ a, isSep sp r = false) → tailP sp cur a = cur ++ a
  | [], cur, _ => by rw [tailP, List.append_nil]
  | r :: t, cur, h => by
    rw [tailP, if_neg (by rw [h r (by simp)]; decide), tailP_plain t (cur ++ [r]) (fun x hx => h x (by simp [hx]))]
    simp
theorem walkGo_plain {name : List UInt8} {sp : Bool} : ∀ (a cur : List Int) (l : List (List UInt8)), (∀ r ∈ a, isSep sp r = false) → walkGo name sp cur a l = putP name l (cur ++ a) true
  | [], cur, l, _ => by rw [walkGo, List.append_nil]
  | r :: t, cur, l, h => by
    rw [walkGo, if_neg (by rw [h r (by simp)]; decide), walkGo_plain t (cur ++ [r]) l (fun x hx => h x (by simp [hx]))]
    simp
/-- A good segment, put behind a path. -/
theorem put_good {name : List UInt8} {sp : Bool} {l : List (List UInt8)} {s : List UInt8} (h : Good sp s) (h1 : name == fileN → l = [] → drive (runes s) = true → s.take 1 ++ [58] = s) : putP name l (intsOf s) true = l ++ [s] := by
  unfold putP
  rw [enc_ints s h.ok, h.s1, h.s2]
  simp only [Bool.false_eq_true, if_false]
  split
  · rename_i hc
    simp only [Bool.and_eq_true] at hc
    rw [h1 hc.1.1 (by simpa using hc.1.2) hc.2]
  · rfl
/-- Segments put together. -/
def joinI : List (List UInt8) → List Int
  | [] => []
  | [s] => intsOf s
  | s :: t => intsOf s ++ 47 :: joinI t
theorem joinI_cons2 (s s2 : List UInt8) (t : List (List UInt8)) : joinI (s :: s2 :: t) = intsOf s ++ 47 :: joinI (s2 :: t) := rfl
theorem again_go {name : List UInt8} {sp : Bool} : ∀ (gs l : List (List UInt8)), gs ≠ [] → (∀ s ∈ gs, Good sp s) → (l = [] → firstOK name gs) → walkGo name sp [] (joinI gs) l = l ++ gs
  | [], _, h, _, _ => absurd rfl h
  | [s], l, _, hg, hf => by
    have g := hg s (by simp)
    rw [joinI, walkGo_plain _ [] l (ints_sep g.ok), List.nil_append, put_good g (fun hn hl hd => hf hl hn s [] rfl hd)]
  | s :: s2 :: t, l, _, hg, hf => by
    have g := hg s (by simp)
    have ht := tailP_plain (intsOf s) [] (ints_sep g.ok)
    rw [List.nil_append] at ht
    rw [joinI_cons2, walkGo_split name sp 47 (by cases sp <;> rfl) (joinI (s2 :: t)) (intsOf s) [] l (by rw [ht, enc_ints s g.ok]; exact g.s1) (by rw [ht, enc_ints s g.ok]; exact g.s2),
      walkGo_plain _ [] l (ints_sep g.ok), List.nil_append, put_good g (fun hn hl hd => hf hl hn s (s2 :: t) rfl hd),
      again_go (s2 :: t) (l ++ [s]) (by simp) (fun x hx => hg x (by simp [hx])) (fun e => by simp at e)]
    simp
/-- The walk, walked again. -/
theorem walk_again (name : List UInt8) (rs : List Int) : walk name [] (joinI (walk name [] rs)) = walk name [] rs := by
  have h := goodL_walk name rs
  have := again_go (name := name) (sp := special name) (walk name [] rs) [] (walk_ne _ _ _) h.all (fun _ => h.first)
  rw [List.nil_append] at this
  exact this
theorem join_cons2 (s s2 : List UInt8) (t : List (List UInt8)) : Lib.join (s :: s2 :: t) [47] = s ++ 47 :: Lib.join (s2 :: t) [47] := by
  rw [Lib.join_cons, Lib.join_cons]
  simp [Lib.joinTail]
theorem join_all (P : UInt8 → Prop) (h47 : P 47) : ∀ (gs : List (List UInt8)), (∀ s ∈ gs, ∀ b ∈ s, P b) → ∀ b ∈ Lib.join gs [47], P b
  | [], _, b, hb => by simp [Lib.join_nil] at hb
  | [s], h, b, hb => by rw [Lib.join_one] at hb; exact h s (by simp) b hb
  | s :: s2 :: t, h, b, hb => by
    rw [join_cons2, List.mem_append, List.mem_cons] at hb
    rcases hb with hb | rfl | hb
    · exact h s (by simp) b hb
    · exact h47
    · exact join_all P h47 (s2 :: t) (fun x hx => h x (by simp [hx])) b hb
theorem ints_join : ∀ (gs : List (List UInt8)), intsOf (Lib.join gs [47]) = joinI gs
  | [] => rfl
  | [s] => by rw [Lib.join_one]; rfl
  | s :: s2 :: t => by
    rw [join_cons2, joinI_cons2, ← ints_join (s2 :: t)]
    simp [intsOf]
/-- The code points of the joined text. -/
theorem runes_join (gs : List (List UInt8)) (h : ∀ s ∈ gs, ∀ b ∈ s, b.toNat < 128) : runes (Lib.join gs [47]) = joinI gs := by
  rw [runes_ascii _ (join_all (fun b => b.toNat < 128) (by decide) gs h)]
  exact ints_join gs
theorem ok_ascii {sp : Bool} {b : UInt8} (h : okB sp b) : b.toNat < 128 := by have := inP_range h.1; omega
/-- The law: the walk's text, walked again, is the same. -/
theorem walk_join (name : List UInt8) (rs : List Int) : walk name [] (runes (Lib.join (walk name [] rs) [47])) = walk name [] rs := by
  rw [runes_join _ (fun s hs b hb => ok_ascii (((goodL_walk name rs).all s hs).ok b hb))]
  exact walk_again name rs
/-- A good segment holds no separator. -/
theorem good_no47 {sp : Bool} {s : List UInt8} (h : Good sp s) : s.contains 47 = false := by
  rw [Bool.eq_false_iff]
  intro e
  have := (h.ok 47 (by simpa using e)).2
  cases sp <;> revert this <;> decide
theorem good_no92 {s : List UInt8} (h : Good true s) : s.contains 92 = false := by
  rw [Bool.eq_false_iff]
  intro e
  have := (h.ok 92 (by simpa using e)).2
  revert this; decide
/-- The joined text is not too long. -/
theorem join_le (m : Nat) : ∀ (gs : List (List UInt8)), (∀ s ∈ gs, s.length ≤ m) → (Lib.join gs [47]).length ≤ gs.length * (m + 1)
  | [], _ => by simp [Lib.join_nil]
  | [s], h => by rw [Lib.join_one]; have := h s (by simp); simp; omega
  | s :: s2 :: t, h => by
    have h1 := h s (by simp)
    have h2 := join_le m (s2 :: t) (fun x hx => h x (by simp [hx]))
    rw [join_cons2, List.length_append, List.length_cons, List.length_cons (a := s)]
    rw [Nat.add_mul, Nat.one_mul]
    omega
#print axioms walk_join
end Go.Proofs.YtpahiipfmccbiaaDoor
