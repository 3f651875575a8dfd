import Derived.Test.YgcfaeSnd
namespace Go.Proofs.Ygcfae
open Go.RowKit

def plcEq (p q : Plc) : Bool := p.bits == q.bits && p.off == q.off && p.slot == q.slot && p.isPtr == q.isPtr
def typEq (p q : Typ) : Bool := p.kind == q.kind && p.elem == q.elem && p.ref == q.ref && p.nest == q.nest
def fldEq (f g : Fld) : Bool := f.name.toList == g.name.toList && typEq f.t g.t && plcEq f.p g.p && f.dflt == g.dflt && f.union == g.union

theorem plcEq_iff (p q : Plc) : plcEq p q = true ↔ p = q := by
  obtain ⟨a, b, c, d⟩ := p
  obtain ⟨a', b', c', d'⟩ := q
  simp [plcEq, and_assoc]
theorem typEq_iff (p q : Typ) : typEq p q = true ↔ p = q := by
  obtain ⟨a, b, c, d⟩ := p
  obtain ⟨a', b', c', d'⟩ := q
  simp [typEq, and_assoc]
theorem toList_inj {a b : ByteArray} (h : a.toList = b.toList) : a = b := by
  rw [ByteArray.toList_eq, ByteArray.toList_eq] at h
  obtain ⟨⟨l⟩⟩ := a
  obtain ⟨⟨m⟩⟩ := b
  simp at h
  rw [h]
theorem fldEq_iff (f g : Fld) : fldEq f g = true ↔ f = g := by
  constructor
  · intro h
    simp only [fldEq, Bool.and_eq_true, beq_iff_eq] at h
    obtain ⟨⟨⟨⟨h1, h2⟩, h3⟩, h4⟩, h5⟩ := h
    have h1 := toList_inj h1
    rw [typEq_iff] at h2
    rw [plcEq_iff] at h3
    obtain ⟨a, b, c, d, e⟩ := f
    obtain ⟨a', b', c', d', e'⟩ := g
    simp only at h1 h2 h3 h4 h5
    subst h1 h2 h3 h4 h5
    rfl
  · rintro rfl
    simp [fldEq, typEq, plcEq]

set_option maxRecDepth 100000
theorem neq27 (p q : Plc) (w : World) : (binOp .neq 27 (.agg #[.int .u8 p.bits, .int .u16 p.off, .int .u8 p.slot, .bool p.isPtr]) (.agg #[.int .u8 q.bits, .int .u16 q.off, .int .u8 q.slot, .bool q.isPtr])).run Faeg.prog w = .ok (.bool (!(plcEq p q))) w := by
  have : ∀ x : Bool, plcEq p q = x → (binOp .neq 27 (.agg #[.int .u8 p.bits, .int .u16 p.off, .int .u8 p.slot, .bool p.isPtr]) (.agg #[.int .u8 q.bits, .int .u16 q.off, .int .u8 q.slot, .bool q.isPtr])).run Faeg.prog w = .ok (.bool (!x)) w := by
    intro x hx
    unfold plcEq at hx
    cases x
    · go_simp
      simpa [and_assoc] using hx
    · simp only [Bool.and_eq_true, beq_iff_eq] at hx
      go_simp
  exact this _ rfl
theorem neq34 (f g : Fld) (w : World) : (binOp .neq 34 (.agg #[.string f.name, .int .u8 f.t.kind, .int .u8 f.t.elem, .int .u8 f.t.ref, .int .u8 f.t.nest,
   .int .u8 f.p.bits, .int .u16 f.p.off, .int .u8 f.p.slot, .bool f.p.isPtr, .int .u64 f.dflt, .bool f.union]) (.agg #[.string g.name, .int .u8 g.t.kind, .int .u8 g.t.elem, .int .u8 g.t.ref, .int .u8 g.t.nest,
   .int .u8 g.p.bits, .int .u16 g.p.off, .int .u8 g.p.slot, .bool g.p.isPtr, .int .u64 g.dflt, .bool g.union])).run Faeg.prog w = .ok (.bool (!(fldEq f g))) w := by
  cases hx : fldEq f g with
  | true =>
    rw [fldEq_iff] at hx
    subst hx
    go_simp
  | false =>
    have hx : ¬ (f.name.toList = g.name.toList ∧ f.t.kind = g.t.kind ∧ f.t.elem = g.t.elem ∧ f.t.ref = g.t.ref ∧ f.t.nest = g.t.nest ∧ f.p.bits = g.p.bits ∧ f.p.off = g.p.off ∧ f.p.slot = g.p.slot ∧ f.p.isPtr = g.p.isPtr ∧ f.dflt = g.dflt ∧ f.union = g.union) := by
      rintro ⟨h1, h2, h3, h4, h5, h6, h7, h8, h9, h10, h11⟩
      have : fldEq f g = true := by simp [fldEq, typEq, plcEq, *]
      rw [this] at hx; cases hx
    have HX : Hid _ := hx
    clear hx
    go_simp
    intro h1 h2 h3 h4 h5 h6 h7 h8 h9 h10 h11
    exact HX.out ⟨h1, h2, h3, h4, h5, h6, h7, h8, h9, h10, h11⟩
end Go.Proofs.Ygcfae
