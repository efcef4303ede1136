/- Plain functions of the path layer: what the program's functions compute, on lists of bytes and of code points. No program in sight. -/
import Derived.Lib.RuneBytes
import Derived.Lib.ReplaceLaws
import Derived.Lib.SpaceU
import Derived.Below
namespace Go.Proofs.YtpahiipfmccbiaaDoor

/-- A letter. -/
def letB (r : Int) : Bool := (decide (97 ≤ r) && decide (r ≤ 122)) || (decide (65 ≤ r) && decide (r ≤ 90))
/-- The set of a path (SetPath): is a code point coded? -/
def inP (r : Int) : Bool := decide (r < 32) || decide (126 < r) || [63, 94, 123, 125, 96, 32, 34, 35, 60, 62].contains r
/-- A digit of sixteen, in upper case. -/
def hexB (n : Nat) : UInt8 := if n < 10 then (48 + n).toUInt8 else (55 + n).toUInt8
/-- A byte's code. -/
def codeB (c : UInt8) : List UInt8 := [37, hexB (c.toNat / 16), hexB (c.toNat % 16)]
/-- A code point, coded by SetPath. -/
def encR (r : Int) : List UInt8 := if inP r then (Lib.encodeRune r).flatMap codeB else [r.toNat.toUInt8]
/-- Code points, coded by SetPath. -/
def enc (l : List Int) : List UInt8 := l.flatMap encR
/-- Dots that are not coded. -/
def plainS (s : List UInt8) : List UInt8 := Lib.replaceAll (Lib.replaceAll s [37, 50, 101] [46]) [37, 50, 69] [46]
def single (s : List UInt8) : Bool := plainS s == [46]
def double (s : List UInt8) : Bool := plainS s == [46, 46]
/-- The code points of bytes, as the model's []rune(s) has them. -/
def runesOf : Nat → List UInt8 → List Int
  | 0, _ => []
  | f + 1, l => if l = [] then [] else ((Lib.decodeL l).1 : Int) :: runesOf f (l.drop (Lib.decodeL l).2)
def runes (l : List UInt8) : List Int := runesOf l.length l
/-- A drive. -/
def drive : List Int → Bool
  | [a, b] => letB a && (b == 58 || b == 124)
  | _ => false
/-- Begins with one. -/
def begins (l : List Int) : Bool := drive (l.take 2) && (match l with
  | _ :: _ :: c :: _ => [47, 92, 63, 35].contains c
  | _ => true)
def fileN : List UInt8 := [102, 105, 108, 101]
/-- A plain drive's text. -/
def plainDrive (s : List UInt8) : Bool := drive (runes s) && s[1]? == some 58
/-- A path that is shortened. -/
def shorten (name : List UInt8) (l : List (List UInt8)) : List (List UInt8) :=
  match l with
  | [] => []
  | [s] => if name == fileN && plainDrive s then [s] else []
  | l => l.dropLast
/-- A part behind a path. -/
def putP (name : List UInt8) (l : List (List UInt8)) (p : List Int) (last : Bool) : List (List UInt8) :=
  if double (enc p) then (if last then shorten name l ++ [[]] else shorten name l)
  else if single (enc p) then (if last then l ++ [[]] else l)
  else if name == fileN && l.isEmpty && drive (runes (enc p)) then l ++ [(enc p).take 1 ++ [58]]
  else l ++ [enc p]
/-- A separator. -/
def isSep (sp : Bool) (r : Int) : Bool := r == 47 || (sp && r == 92)
/-- A special scheme. -/
def special (name : List UInt8) : Bool :=
  [[102, 116, 112], [104, 116, 116, 112], [104, 116, 116, 112, 115], [119, 115], [119, 115, 115], fileN].contains name
/-- A walk: what is no part yet stands in 'cur'. -/
def walkGo (name : List UInt8) (sp : Bool) : List Int → List Int → List (List UInt8) → List (List UInt8)
  | cur, [], l => putP name l cur true
  | cur, r :: t, l => if isSep sp r then walkGo name sp [] t (putP name l cur false) else walkGo name sp (cur ++ [r]) t l
def walk (name : List UInt8) (l : List (List UInt8)) (t : List Int) : List (List UInt8) := walkGo name (special name) [] t l

#print axioms walk
end Go.Proofs.YtpahiipfmccbiaaDoor
