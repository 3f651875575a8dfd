import Derived.Test.YgcfaeFit
namespace Go.Proofs.Ygcfae
open Go.RowKit

/-- a place: 4 cells -/
structure Plc where
  bits : Int
  off : Int
  slot : Int
  isPtr : Bool

def Plc.cells (p : Plc) : List Value := [.int .u8 p.bits, .int .u16 p.off, .int .u8 p.slot, .bool p.isPtr]

/-- a type: 4 cells -/
structure Typ where
  kind : Int
  elem : Int
  ref : Int
  nest : Int

def Typ.cells (t : Typ) : List Value := [.int .u8 t.kind, .int .u8 t.elem, .int .u8 t.ref, .int .u8 t.nest]

/-- a field of a struct: 11 cells -/
structure Fld where
  name : ByteArray
  t : Typ
  p : Plc
  dflt : Int
  union : Bool

def Fld.cells (f : Fld) : List Value :=
  [.string f.name, .int .u8 f.t.kind, .int .u8 f.t.elem, .int .u8 f.t.ref, .int .u8 f.t.nest,
   .int .u8 f.p.bits, .int .u16 f.p.off, .int .u8 f.p.slot, .bool f.p.isPtr, .int .u64 f.dflt, .bool f.union]

theorem flat_get {α : Type} (c : α → List Value) (sz : Nat) (hc : ∀ x, (c x).length = sz) :
    ∀ (fs : List α) (k j : Nat) (h : k < fs.length), j < sz → (fs.flatMap c)[k * sz + j]? = (c fs[k])[j]?
  | f :: fs, 0, j, _, hj => by
    simp only [List.flatMap_cons, Nat.zero_mul, Nat.zero_add, List.getElem_cons_zero]
    rw [List.getElem?_append_left (by rw [hc]; exact hj)]
  | f :: fs, k + 1, j, h, hj => by
    simp only [List.flatMap_cons, List.getElem_cons_succ]
    rw [List.getElem?_append_right (by rw [hc, Nat.add_mul]; omega), hc]
    have e : (k + 1) * sz + j - sz = k * sz + j := by rw [Nat.add_mul]; omega
    rw [e]
    exact flat_get c sz hc fs k j (by simpa using h) hj

theorem flat_length {α : Type} (c : α → List Value) (sz : Nat) (hc : ∀ x, (c x).length = sz) (fs : List α) :
    (fs.flatMap c).length = fs.length * sz := by
  induction fs with
  | nil => simp
  | cons f fs ih => simp [ih, hc, Nat.add_mul]; omega

def fcells (fs : List Fld) : List Value := fs.flatMap Fld.cells
def tcells (ts : List Typ) : List Value := ts.flatMap Typ.cells
def pcells (ps : List Plc) : List Value := ps.flatMap Plc.cells


theorem flat_at {α : Type} {c : α → List Value} {sz : Nat} (hc : ∀ x, (c x).length = sz) {w : World} {b off : Nat} {fs : List α} (h : AtB w b off (fs.flatMap c)) {k : Nat} (hk : k < fs.length) :
    AtB w b (off + k * sz) (c fs[k]) := by
  intro j u hj
  have hj' : j < sz := by
    have := (List.getElem?_eq_some_iff.1 hj).1
    rwa [hc] at this
  rw [Nat.add_assoc]
  exact h _ _ ((flat_get c sz hc fs k j hk hj').trans hj)

theorem fld_at {w : World} {b off : Nat} {fs : List Fld} (h : AtB w b off (fcells fs)) {k : Nat} (hk : k < fs.length) : AtB w b (off + k * 11) fs[k].cells := flat_at (c := Fld.cells) (fun _ => rfl) h hk
theorem typ_at {w : World} {b off : Nat} {fs : List Typ} (h : AtB w b off (tcells fs)) {k : Nat} (hk : k < fs.length) : AtB w b (off + k * 4) fs[k].cells := flat_at (c := Typ.cells) (fun _ => rfl) h hk
theorem plc_at {w : World} {b off : Nat} {fs : List Plc} (h : AtB w b off (pcells fs)) {k : Nat} (hk : k < fs.length) : AtB w b (off + k * 4) fs[k].cells := flat_at (c := Plc.cells) (fun _ => rfl) h hk

theorem fld11 {w : World} {b o : Nat} {f : Fld} (h : AtB w b o f.cells) :
    w.cell? ⟨b, o, none⟩ = some (.string f.name) ∧ w.cell? ⟨b, o + 1, none⟩ = some (.int .u8 f.t.kind) ∧ w.cell? ⟨b, o + 2, none⟩ = some (.int .u8 f.t.elem) ∧
    w.cell? ⟨b, o + 3, none⟩ = some (.int .u8 f.t.ref) ∧ w.cell? ⟨b, o + 4, none⟩ = some (.int .u8 f.t.nest) ∧ w.cell? ⟨b, o + 5, none⟩ = some (.int .u8 f.p.bits) ∧
    w.cell? ⟨b, o + 6, none⟩ = some (.int .u16 f.p.off) ∧ w.cell? ⟨b, o + 7, none⟩ = some (.int .u8 f.p.slot) ∧ w.cell? ⟨b, o + 8, none⟩ = some (.bool f.p.isPtr) ∧
    w.cell? ⟨b, o + 9, none⟩ = some (.int .u64 f.dflt) ∧ w.cell? ⟨b, o + 10, none⟩ = some (.bool f.union) :=
  ⟨h 0 _ rfl, h 1 _ rfl, h 2 _ rfl, h 3 _ rfl, h 4 _ rfl, h 5 _ rfl, h 6 _ rfl, h 7 _ rfl, h 8 _ rfl, h 9 _ rfl, h 10 _ rfl⟩

theorem plc4 {w : World} {b o : Nat} {p : Plc} (h : AtB w b o p.cells) :
    w.cell? ⟨b, o, none⟩ = some (.int .u8 p.bits) ∧ w.cell? ⟨b, o + 1, none⟩ = some (.int .u16 p.off) ∧ w.cell? ⟨b, o + 2, none⟩ = some (.int .u8 p.slot) ∧ w.cell? ⟨b, o + 3, none⟩ = some (.bool p.isPtr) :=
  ⟨h 0 _ rfl, h 1 _ rfl, h 2 _ rfl, h 3 _ rfl⟩

end Go.Proofs.Ygcfae
