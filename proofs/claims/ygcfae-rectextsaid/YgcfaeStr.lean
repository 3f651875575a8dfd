import Derived.Test.YgcfaeCalm
import Derived.Test.YgcfaeSound
namespace Go.Proofs.Ygcfae
open Go.RowKit

/-- a struct of a schema: 8 cells, the second the slice of its fields -/
structure Str where
  name : ByteArray
  fs : List Fld
  tag : Plc
  data : Int
  ptrs : Int

def Str.cells (s : Str) (v : Value) : List Value :=
  [.string s.name, v, .int .u8 s.tag.bits, .int .u16 s.tag.off, .int .u8 s.tag.slot, .bool s.tag.isPtr, .int .u8 s.data, .int .u8 s.ptrs]

/-- a struct lies at b, o with its fields behind it -/
def StrAt (w : World) (b o : Nat) (s : Str) : Prop := ∃ a cap, b < w.heap.size ∧ AtB w b o (s.cells (.slice a s.fs.length cap)) ∧ Has w a (fcells s.fs)

structure TypOK (t : Typ) : Prop where
  k0 : 0 ≤ t.kind
  k1 : t.kind ≤ 255
  e0 : 0 ≤ t.elem
  e1 : t.elem ≤ 255
  r0 : 0 ≤ t.ref
  r1 : t.ref ≤ 255
  n0 : 0 ≤ t.nest
  n1 : t.nest ≤ 255

structure FldOK (f : Fld) : Prop where
  t : TypOK f.t
  d0 : 0 ≤ f.dflt
  d1 : f.dflt ≤ 18446744073709551615

theorem str8 {w : World} {b o : Nat} {s : Str} {v : Value} (h : AtB w b o (s.cells v)) :
    w.cell? ⟨b, o, none⟩ = some (.string s.name) ∧ w.cell? ⟨b, o + 1, none⟩ = some v ∧ w.cell? ⟨b, o + 2, none⟩ = some (.int .u8 s.tag.bits) ∧ w.cell? ⟨b, o + 3, none⟩ = some (.int .u16 s.tag.off) ∧
    w.cell? ⟨b, o + 4, none⟩ = some (.int .u8 s.tag.slot) ∧ w.cell? ⟨b, o + 5, none⟩ = some (.bool s.tag.isPtr) ∧ w.cell? ⟨b, o + 6, none⟩ = some (.int .u8 s.data) ∧ w.cell? ⟨b, o + 7, none⟩ = some (.int .u8 s.ptrs) :=
  ⟨h 0 _ rfl, h 1 _ rfl, h 2 _ rfl, h 3 _ rfl, h 4 _ rfl, h 5 _ rfl, h 6 _ rfl, h 7 _ rfl⟩

def dfltOK (f : Fld) : Bool := decide (64 ≤ wd f.t.kind) || (f.dflt / 2 ^ (wd f.t.kind).toNat == 0)
def dupB (fs : List Fld) (i : Nat) (x : Fld) : Bool := (fs.take i).any fun f => f.name.toList == x.name.toList

/-- what whole asks of field x, number i, that Layout gives as y -/
def fieldB (fs : List Fld) (n : Int) (i : Nat) (x y : Fld) : Bool :=
  fldEq x y && isNameB x.name.toList false && soundB x.t n x.union && dfltOK x && !(dupB fs i x)

def fieldsB (fs rs : List Fld) (n : Int) (k : Nat) : Bool := (List.range k).all fun i => fieldB fs n i (fs.getD i Fld.zero) (rs.getD i Fld.zero)

def headBad (t : Str) : Bool := !(isNameB t.name.toList true) || builtInB t.name.toList || decide ((16 : Int) < (t.fs.length : Int))

/-- (*Struct).whole -/
def wholeB (t : Str) (n : Int) : Bool :=
  !(headBad t) && match rLay t.fs with
    | none => false
    | some r => plcEq r.tag t.tag && ((r.data : Int) == t.data) && ((r.ptrs : Int) == t.ptrs) && fieldsB t.fs r.fs n t.fs.length

def Str.zero : Str := ⟨ByteArray.empty, [], Plc.zero, 0, 0⟩

/-- what Check asks of struct k -/
def strB (ss : List Str) (k : Nat) : Bool :=
  wholeB (ss.getD k Str.zero) ss.length && !((ss.take k).any fun s => s.name.toList == (ss.getD k Str.zero).name.toList)
def strsB (ss : List Str) (k : Nat) : Bool := (List.range k).all (strB ss)

/-- (*Schema).Check -/
def checkB (ss : List Str) : Bool := decide (ss.length ≤ 4) && strsB ss ss.length

theorem fieldsB_short {fs rs : List Fld} {n : Int} {k m : Nat} (h : fieldsB fs rs n k = false) (hk : k ≤ m) : fieldsB fs rs n m = false := by
  cases hm : fieldsB fs rs n m with
  | false => rfl
  | true =>
    unfold fieldsB at h hm
    rw [List.all_eq_true] at hm
    rw [← h, List.all_eq_true.2]
    intro x hx
    exact hm x (List.mem_range.2 (Nat.lt_of_lt_of_le (List.mem_range.1 hx) hk))
theorem dupB_succ (fs : List Fld) (x : Fld) (j : Nat) (h : j < fs.length) : dupB fs (j + 1) x = (dupB fs j x || fs[j].name.toList == x.name.toList) := by
  unfold dupB
  rw [List.take_succ_eq_append_getElem h, List.any_append]
  simp
theorem dupB_more {fs : List Fld} {x : Fld} {j k : Nat} (h : dupB fs j x = true) (hk : j ≤ k) : dupB fs k x = true := by
  unfold dupB at h ⊢
  rw [List.any_eq_true] at h ⊢
  obtain ⟨f, hf, he⟩ := h
  exact ⟨f, (List.take_sublist_take_left hk).subset hf, he⟩
end Go.Proofs.Ygcfae
