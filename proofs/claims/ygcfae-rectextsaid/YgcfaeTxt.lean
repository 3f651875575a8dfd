import Derived.Test.YgcfaeMem
import Derived.Deep.DeepCutAuto
namespace Go.Proofs.Ygcfae
open Go.RowKit

/-! The plain twins of rec's text: bytes, names, tokens. -/

abbrev Bs := List UInt8

def isL (c : UInt8) : Bool := (decide (65 ≤ c.toNat) && decide (c.toNat ≤ 90)) || (decide (97 ≤ c.toNat) && decide (c.toNat ≤ 122))
def isD (c : UInt8) : Bool := decide (48 ≤ c.toNat) && decide (c.toNat ≤ 57)
def isWc (c : UInt8) : Bool := isL c || isD c

def sUnion : Bs := [117, 110, 105, 111, 110]
def sList : Bs := [76, 105, 115, 116]
def sStruct : Bs := [115, 116, 114, 117, 99, 116]
def sVoid : Bs := [86, 111, 105, 100]

/-- rec.isName -/
def isNameB : Bs → Bool → Bool
  | [], _ => false
  | c :: cs, cap => decide (cs.length < 8) && isL c && !(cap && decide (90 < c.toNat)) && !((c :: cs) == sUnion) && cs.all isWc

/-- the names of the built-in types, Bool to Text -/
def kNames : List Bs :=
  [[66, 111, 111, 108], [73, 110, 116, 56], [73, 110, 116, 49, 54], [73, 110, 116, 51, 50], [73, 110, 116, 54, 52],
   [85, 73, 110, 116, 56], [85, 73, 110, 116, 49, 54], [85, 73, 110, 116, 51, 50], [85, 73, 110, 116, 54, 52],
   [70, 108, 111, 97, 116, 51, 50], [70, 108, 111, 97, 116, 54, 52], [84, 101, 120, 116]]

/-- rec.kindName, of a kind that is not negative -/
def kindNameB (k : Nat) : Bs := if k = 14 then sVoid else kNames.getD k []

/-- rec.kindOf, from kind k on, n kinds left -/
def kindFrom (s : Bs) : Nat → Nat → Option Nat
  | 0, _ => none
  | n + 1, k => if s != [] && kindNameB k == s then some k else kindFrom s n (k + 1)
def kindOfB (s : Bs) : Option Nat := kindFrom s 15 0

def builtInB (s : Bs) : Bool := (kindOfB s).isSome || s == sList

/-- blanks and remarks passed over -/
def skip : Bool → Bs → Bs
  | _, [] => []
  | cm, c :: cs => if cm || c == 35 then skip (c != 10) cs else if c != 32 && c != 9 && c != 10 && c != 13 then c :: cs else skip false cs

/-- a token and what stands behind it -/
structure Lx where
  tok : Bs
  rest : Bs

def lex (l : Bs) : Lx :=
  match skip false l with
  | [] => ⟨[], []⟩
  | c :: cs => if isWc c then ⟨c :: cs.takeWhile isWc, cs.dropWhile isWc⟩ else ⟨[c], cs⟩

def nx (l : Lx) : Lx := lex l.rest

def expectB (s : Bs) (l : Lx) : Option Lx := if l.tok == s then some (nx l) else none
def nameB (cap : Bool) (l : Lx) : Option (Bs × Lx) := if isNameB l.tok cap then some (l.tok, nx l) else none

end Go.Proofs.Ygcfae
