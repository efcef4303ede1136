/- Plain law of PathParts: a walk through a, whose last part is no dots, and on through b is one through both. -/
import Derived.Test.YtpahiipfmccbiaaDoorP4
namespace Go.Proofs.YtpahiipfmccbiaaDoor

/-- The part that is still open behind a text. -/
def tailP (sp : Bool) : List Int → List Int → List Int
  | cur, [] => cur
  | cur, r :: t => if isSep sp r then tailP sp [] t else tailP sp (cur ++ [r]) t
theorem tailP_append (sp : Bool) : ∀ (a b cur : List Int), tailP sp cur (a ++ b) = tailP sp (tailP sp cur a) b
  | [], b, cur => rfl
  | r :: t, b, cur => by
    rw [List.cons_append, tailP, tailP]
    split
    · exact tailP_append sp t b []
    · exact tailP_append sp t b (cur ++ [r])
theorem putP_plain (name : List UInt8) (l : List (List UInt8)) (p : List Int) (h1 : single (enc p) = false) (h2 : double (enc p) = false) : putP name l p true = putP name l p false := by
  simp [putP, h1, h2]
theorem walkGo_split (name : List UInt8) (sp : Bool) (s : Int) (hs : isSep sp s = true) (b : List Int) : ∀ (a cur : List Int) (l : List (List UInt8)),
    single (enc (tailP sp cur a)) = false → double (enc (tailP sp cur a)) = false → walkGo name sp cur (a ++ s :: b) l = walkGo name sp [] b (walkGo name sp cur a l)
  | [], cur, l, h1, h2 => by
    have e : walkGo name sp cur (s :: b) l = if isSep sp s then walkGo name sp [] b (putP name l cur false) else walkGo name sp (cur ++ [s]) b l := rfl
    rw [List.nil_append, e, if_pos hs, walkGo, putP_plain name l cur h1 h2]
  | r :: t, cur, l, h1, h2 => by
    rw [List.cons_append, walkGo, walkGo]
    rw [tailP] at h1 h2
    by_cases hr : isSep sp r = true
    · rw [if_pos hr] at h1 h2 ⊢
      rw [if_pos hr]
      exact walkGo_split name sp s hs b t [] _ h1 h2
    · rw [if_neg hr] at h1 h2 ⊢
      rw [if_neg hr]
      exact walkGo_split name sp s hs b t _ _ h1 h2
theorem walk_split (name : List UInt8) (s : Int) (hs : isSep (special name) s = true) (a b : List Int) (h1 : single (enc (tailP (special name) [] a)) = false) (h2 : double (enc (tailP (special name) [] a)) = false) :
    walk name [] (a ++ s :: b) = walk name (walk name [] a) b := walkGo_split name _ s hs b a [] [] h1 h2
end Go.Proofs.YtpahiipfmccbiaaDoor
