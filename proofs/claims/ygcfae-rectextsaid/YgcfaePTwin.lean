import Derived.Test.YgcfaeKinds
import Derived.Test.YgcfaeStr
namespace Go.Proofs.Ygcfae
open Go.RowKit

/-! The plain twins of rec's parser, in Option, over a token and the bytes behind it. -/

/-- a digit's value in number -/
def digV (c : UInt8) : Option Nat :=
  if (decide (65 ≤ c.toNat) && decide (c.toNat ≤ 70)) || (decide (97 ≤ c.toNat) && decide (c.toNat ≤ 102)) then some ((c.toNat - 65) % 32 + 10)
  else if isD c then some (c.toNat - 48) else none

def numFrom (base : Nat) : Nat → Bs → Option Nat
  | v, [] => some v
  | v, c :: cs => match digV c with
    | none => none
    | some d => if base ≤ d then none else if 18446744073709551615 < v * base + d then none else numFrom base (v * base + d) cs

def isHex (s : Bs) : Bool := s.take 2 == [48, 120]

/-- rec.number -/
def numB (s : Bs) : Option Nat :=
  if decide (2 < s.length) && isHex s then numFrom 16 0 (s.drop 2)
  else if s = [] then none else numFrom 10 0 s

/-- rec.ordinal, from n on -/
def ordFrom : Nat → Bs → Option Nat
  | n, [] => some n
  | n, c :: cs => if isD c then ordFrom (min (n * 10 + (c.toNat - 48)) 16) cs else none
def ordB (s : Bs) : Option Nat := if s = [] then none else ordFrom 0 s

def sTrue : Bs := [116, 114, 117, 101]
def sFalse : Bs := [102, 97, 108, 115, 101]

def mostB (kind : Int) : Int := 2 ^ (wd kind).toNat - 1

/-- the value of the number's token s, behind a minus or not -/
def valB (kind : Int) (neg : Bool) (s : Bs) : Option Int :=
  if kind == 0 && !neg && (s == sTrue || s == sFalse) then some (if s == sTrue then 1 else 0)
  else match s with
    | [] => none
    | c :: _ =>
      if !(isD c) then none
      else if ((kind == 9 || kind == 10) && !(isHex s)) || (kind == 0 && !(isHex s)) || (isHex s && neg) || (neg && !(decide (1 ≤ kind) && decide (kind ≤ 4))) then none
      else match numB s with
        | none => none
        | some v =>
          if neg then (if (v : Int) ≤ mostB kind / 2 + 1 then some (bits BinOp.and IntKind.u64 (IntKind.u64.wrap (-(v : Int))) (mostB kind)) else none)
          else if (decide (1 ≤ kind) && decide (kind ≤ 4)) && !(isHex s) then (if (v : Int) ≤ mostB kind / 2 then some v else none)
          else (if (v : Int) ≤ mostB kind then some v else none)

/-- (*parser).value -/
def valueB (kind : Int) (l : Lx) : Option (Int × Lx) :=
  if wd kind = 0 then none
  else
    let neg := l.tok == [45]
    let l1 := if neg then nx l else l
    match valB kind neg l1.tok with
    | none => none
    | some v => some (v, nx l1)

/-- the words 'List(' ahead of a type: r more may be tried -/
def listsB : Nat → Nat → Lx → Option (Nat × Lx)
  | 0, _, _ => none
  | r + 1, n, l =>
    if l.tok == sList then
      (if 2 < n + 1 then none else
        match expectB [40] (nx l) with
        | none => none
        | some l1 => listsB r (n + 1) l1)
    else some (n, l)

def closesB : Nat → Lx → Option Lx
  | 0, l => some l
  | n + 1, l => match expectB [41] l with
    | none => none
    | some l1 => closesB n l1

/-- a type's innermost word: its kind, the names that it uses, and what is behind -/
def innerB (l : Lx) : Option (Nat × List Bs × Lx) :=
  match kindOfB l.tok with
  | some k => some (k, [], nx l)
  | none => match nameB true l with
    | none => none
    | some (s, l1) => some (13, [s], l1)

def badTyp (k nest : Nat) (union : Bool) : Bool := (k == 14 && (decide (0 < nest) || !union)) || (decide (0 < nest) && k == 0)

def mkTyp (k nest nu : Nat) : Typ :=
  if 0 < nest then ⟨12, k, if k = 13 then nu else 0, nest⟩ else ⟨k, 0, if k = 13 then nu else 0, 0⟩

/-- (*parser).typ; nu: how many uses there are -/
def typB (union : Bool) (nu : Nat) (l : Lx) : Option (Typ × List Bs × Lx) :=
  match listsB 3 0 l with
  | none => none
  | some (nest, l1) => match innerB l1 with
    | none => none
    | some (k, us, l2) =>
      if badTyp k nest union then none
      else match closesB nest l2 with
        | none => none
        | some l3 => some (mkTyp k nest nu, us, l3)

/-- what has been read of a struct -/
structure Rd where
  fs : List Fld
  ns : List Nat
  us : List Bs
  l : Lx

/-- a default -/
def defB (kind : Int) (l : Lx) : Option (Int × Lx) := if l.tok == [61] then valueB kind (nx l) else some (0, l)

/-- (*parser).field -/
def fieldP (union : Bool) (r : Rd) : Option Rd :=
  match nameB false r.l with
  | none => none
  | some (name, l1) =>
    if r.fs.any (fun f => f.name.toList == name) then none
    else if 16 ≤ r.fs.length then none
    else match expectB [64] l1 with
      | none => none
      | some l2 => match ordB l2.tok with
        | none => none
        | some n => match expectB [58] (nx l2) with
          | none => none
          | some l3 => match typB union r.us.length l3 with
            | none => none
            | some (t, us, l4) => match defB t.kind l4 with
              | none => none
              | some (v, l5) => match expectB [59] l5 with
                | none => none
                | some l6 => some ⟨r.fs ++ [⟨bsV name, t, Plc.zero, v, union⟩], r.ns ++ [n], r.us ++ us, l6⟩

/-- the fields of a union, up to its brace -/
def fieldsP : Nat → Rd → Option Rd
  | 0, _ => none
  | n + 1, r => if r.l.tok == [125] then some r else match fieldP true r with
    | none => none
    | some r1 => fieldsP n r1

def Rd.go (r : Rd) : Rd := { r with l := nx r.l }

/-- (*parser).union -/
def unionP (r : Rd) : Option Rd :=
  match expectB [123] (nx r.l) with
  | none => none
  | some l1 => if l1.tok == [125] || r.fs.any (fun f => f.union) then none
    else match fieldsP 17 { r with l := l1 } with
      | none => none
      | some r2 => some r2.go

/-- the members of a struct, up to its brace -/
def membersP : Nat → Rd → Option Rd
  | 0, _ => none
  | n + 1, r => if r.l.tok == [125] then some r else match (if r.l.tok == sUnion then unionP r else fieldP false r) with
    | none => none
    | some r1 => membersP n r1

/-- the fields put in the order of their numbers -/
def sortP (len : Nat) : List Fld → List Nat → List Fld → Option (List Fld)
  | [], _, acc => some acc
  | f :: fs, ns, acc => match ns with
    | [] => none
    | n :: ns => if len ≤ n then none else if (acc.getD n Fld.zero).name.toList != [] then none else sortP len fs ns (acc.set n f)

/-- (*parser).order -/
def orderP (fs : List Fld) (ns : List Nat) : Option RL :=
  match sortP fs.length fs ns (List.replicate fs.length Fld.zero) with
  | none => none
  | some gs => rLay gs


/-- what has been read of a text -/
structure Rs where
  ss : List Str
  us : List Bs
  l : Lx

/-- (*parser).strct -/
def strctP (r : Rs) : Option Rs :=
  match expectB sStruct r.l with
  | none => none
  | some l1 => match nameB true l1 with
    | none => none
    | some (name, l2) =>
      if 4 ≤ r.ss.length then none
      else if builtInB name || r.ss.any (fun t => t.name.toList == name) then none
      else match expectB [123] l2 with
        | none => none
        | some l3 => match membersP 17 ⟨[], [], r.us, l3⟩ with
          | none => none
          | some q => match orderP q.fs q.ns with
            | none => none
            | some o => match expectB [125] q.l with
              | none => none
              | some l4 => some ⟨r.ss ++ [⟨bsV name, o.fs, o.tag, o.data, o.ptrs⟩], q.us, l4⟩

def structsP : Nat → Rs → Option Rs
  | 0, _ => none
  | n + 1, r => if r.l.tok == [] then some r else match strctP r with
    | none => none
    | some r1 => structsP n r1

/-- the place of the struct of a name -/
def refOf (ss : List Str) (u : Bs) : Option Nat := ss.findIdx? (fun t => t.name.toList == u)

def Typ.named (t : Typ) : Bool := t.kind == 13 || (t.kind == 12 && t.elem == 13)

def bindT (rs : List Nat) (t : Typ) : Typ := if t.named then { t with ref := (rs.getD t.ref.toNat 0 : Nat) } else t
def bindF (rs : List Nat) (f : Fld) : Fld := { f with t := bindT rs f.t }
def bindS (rs : List Nat) (s : Str) : Str := { s with fs := s.fs.map (bindF rs) }

/-- (*parser).bind -/
def bindP (ss : List Str) (us : List Bs) : Option (List Str) :=
  match us.mapM (refOf ss) with
  | none => none
  | some rs => some (ss.map (bindS rs))

/-- rec.Parse -/
def parseP (text : Bs) : Option (List Str) :=
  if 4096 < text.length then none
  else match structsP 6 ⟨[], [], lex text⟩ with
    | none => none
    | some r => bindP r.ss r.us

end Go.Proofs.Ygcfae
