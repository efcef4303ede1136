/- Plain functions of the layer of IPv4 addresses: what the program's functions compute, on lists of bytes. No program in sight. -/
import Derived.Lib.RuneBytes
import Derived.Lib.Join
import Derived.Below
namespace Go.Proofs.YtmobeppmdakjmaaDoor

/-- What a digit of sixteen is worth; 99: it is none. -/
def worth (c : UInt8) : Nat := if 48 ≤ c.toNat ∧ c.toNat ≤ 57 then c.toNat - 48 else if 97 ≤ c.toNat ∧ c.toNat ≤ 102 then c.toNat - 87 else if 65 ≤ c.toNat ∧ c.toNat ≤ 70 then c.toNat - 55 else 99
/-- The digits of a number's text, and of which base. -/
def base4 : List UInt8 → List UInt8 × Nat
  | 48 :: c :: t => if c = 120 ∨ c = 88 then (t, 16) else (c :: t, 8)
  | l => (l, 10)
def digitsB (b : Nat) (l : List UInt8) : Bool := l.all fun c => decide (worth c < b)
/-- The number that digits say. -/
def numB (b : Nat) (n : Nat) : List UInt8 → Nat
  | [] => n
  | c :: t => numB b (n * b + worth c) t
/-- What a text says: a number up to 2^32; none: it is no number. -/
def number4 (s : List UInt8) : Option Nat :=
  if s = [] then none else if digitsB (base4 s).2 (base4 s).1 then some (min (numB (base4 s).2 0 (base4 s).1) 4294967296) else none
/-- A text's pieces between points. -/
def splitD : List UInt8 → List UInt8 → List (List UInt8)
  | cur, [] => [cur]
  | cur, c :: t => if c = 46 then cur :: splitD [] t else splitD (cur ++ [c]) t
/-- Its parts: no empty one at the end, but where it is the only one. -/
def parts4 (s : List UInt8) : List (List UInt8) :=
  let l := splitD [] s
  if 1 < l.length ∧ l.getLast? = some [] then l.dropLast else l
/-- Does a text end in a number? -/
def ends4 (s : List UInt8) : Bool :=
  match (parts4 s).getLast? with
  | some p => p != [] && ((number4 p).isSome || digitsB 10 p)
  | none => false
/-- The address that parts say, the first part first: 'at' parts lie ahead. -/
def addr4 (n : Nat) : Nat → Nat → List (List UInt8) → Option Nat
  | _, out, [] => some out
  | k, out, [p] => match number4 p with
    | some x => if x < 256 ^ (n - k) then some (out * 256 ^ (n - k) + x) else none
    | none => none
  | k, out, p :: t => match number4 p with
    | some x => if x < 256 then addr4 n (k + 1) (out * 256 + x) t else none
    | none => none
/-- What a text says as an address. -/
def parse4 (s : List UInt8) : Option Nat := if 4 < (parts4 s).length then none else addr4 4 0 0 (parts4 s)
/-- A number below 256 in digits of ten. -/
def dec (n : Nat) : List UInt8 :=
  (if 100 ≤ n then [(48 + n / 100).toUInt8] else []) ++ (if 10 ≤ n then [(48 + n / 10 % 10).toUInt8] else []) ++ [(48 + n % 10).toUInt8]
/-- An address as it is shown. -/
def show4 (x : Nat) : List UInt8 := Lib.join [dec (x / 16777216 % 256), dec (x / 65536 % 256), dec (x / 256 % 256), dec (x % 256)] [46]

theorem numB_ge (b : Nat) (hb : 1 ≤ b) : ∀ (l : List UInt8) (n : Nat), n ≤ numB b n l
  | [], n => Nat.le_refl _
  | c :: t, n => by
    have h := numB_ge b hb t (n * b + worth c)
    have : n * 1 ≤ n * b := Nat.mul_le_mul_left n hb
    rw [numB]
    omega
example : show4 3232235521 = [49, 57, 50, 46, 49, 54, 56, 46, 48, 46, 49] := by decide
example : parse4 [49, 57, 50, 46, 49, 54, 56, 46, 48, 46, 49] = some 3232235521 := by decide
#print axioms show4
end Go.Proofs.YtmobeppmdakjmaaDoor
