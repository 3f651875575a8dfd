import Derived.Test.YgcfaeOrd
namespace Go.Proofs.Ygcfae
open Go.RowKit

/-! The memory of a parser between two structs. -/

/-- the cells of the structs, each with the slice of its fields -/
def scellsL (ps : List (Str × Value)) : List Value := ps.flatMap fun p => p.1.cells p.2
theorem scellsL_len (ps : List (Str × Value)) : (scellsL ps).length = ps.length * 8 := flat_length _ 8 (fun _ => rfl) ps
theorem scellsL_snoc (ps : List (Str × Value)) (t : Str) (v : Value) : scellsL (ps ++ [(t, v)]) = scellsL ps ++ t.cells v := by simp [scellsL]

/-- the fields of the structs -/
def FL (n0 : Nat) (ps : List (Str × Value)) (w : World) : Prop := ∀ p ∈ ps, w.ownsRow n0 34 11 p.2 p.1.fs.length (fcells p.1.fs)

def ApartP (ps : List (Str × Value)) : Prop := ps.Pairwise fun p q => ∀ k, p.2.ownBlock = some k → q.2.ownBlock ≠ some k

structure PM (n0 pb : Nat) (T : ByteArray) (ps : List (Str × Value)) (us : List (Int × ByteArray)) (l : Lx) (sv uv nv : Value) (w : World) : Prop where
  par : Par w pb T l sv uv nv
  us : Uses w n0 uv us
  row : w.ownsRow n0 70 8 sv ps.length (scellsL ps)
  flds : FL n0 ps w
  apart : ApartP ps

section
variable {n0 pb lo : Nat} {T : ByteArray} {ps : List (Str × Value)} {us : List (Int × ByteArray)} {l : Lx} {sv uv nv : Value} {w w1 : World}
theorem FL.calm (h : FL n0 ps w) (hb : Below w.heap.size w w1) : FL n0 ps w1 := fun p hp => row_calm (h p hp) hb
theorem FL.step (h : FL n0 ps w) (hm : Mod (· = pb) w w1) (hp : Par w pb T l sv uv nv) : FL n0 ps w1 := fun p h1 => row_Par (h p h1) hm hp (by decide)
theorem FL.mt {es : List TypeId} (h : FL n0 ps w) (hm : MT n0 pb lo es w w1) (hp : Par w pb T l sv uv nv) (hlo : w.heap.size ≤ lo) (he : (34 : TypeId) ∉ es) : FL n0 ps w1 := fun p h1 => by
  obtain ⟨q, e, hl, ho⟩ := hp
  exact row_MT (h p h1) hm (row_ne (h p h1) ho (by decide)) (fun k hk => by have := ((h p h1).lt k hk).2; omega) he
theorem FL.kept {e : TypeId} {size n base : Nat} {v : Value} {xs : List Value} (h : FL n0 ps w) (h' : w.ownsRow base e size v n xs) (hne : (34 : TypeId) ≠ e) (hg : w.grownBy w1 v.ownBlock) : FL n0 ps w1 := fun p h1 => kept_row (h p h1) h' hne hg
theorem FL.other {g : Nat} {e : TypeId} {cs : List Value} (h : FL n0 ps w) (ho : Own w g e cs) (hne : (34 : TypeId) ≠ e) (j : Nat) (u : Value) : FL n0 ps (w.setCell ⟨g, j, none⟩ u) := fun p h1 =>
  ownsRow_setCell_other (a := ⟨g, j, none⟩) (h p h1) (row_ne (h p h1) ho hne) u
theorem PM.calm (h : PM n0 pb T ps us l sv uv nv w) (hb : Below w.heap.size w w1) : PM n0 pb T ps us l sv uv nv w1 := ⟨h.par.calm hb, row_calm h.us hb, row_calm h.row hb, h.flds.calm hb, h.apart⟩
theorem PM.step {l' : Lx} (h : PM n0 pb T ps us l sv uv nv w) (hm : Mod (· = pb) w w1) (hp : Par w1 pb T l' sv uv nv) : PM n0 pb T ps us l' sv uv nv w1 :=
  ⟨hp, row_Par h.us hm h.par (by decide), row_Par h.row hm h.par (by decide), h.flds.step hm h.par, h.apart⟩
end

theorem unionP_len {r q : Rd} (h : unionP r = some q) : r.fs.length < q.fs.length ∧ q.fs.length ≤ 16 ∧ q.us.length + r.fs.length ≤ r.us.length + q.fs.length ∧ q.ns.length + r.fs.length = r.ns.length + q.fs.length := by
  have fl : ∀ {n : Nat} {r q : Rd}, fieldsP n r = some q → r.fs.length ≤ 16 → r.fs.length ≤ q.fs.length ∧ q.fs.length ≤ 16 ∧ q.us.length + r.fs.length ≤ r.us.length + q.fs.length ∧ q.ns.length + r.fs.length = r.ns.length + q.fs.length := by
    intro n
    induction n with
    | zero => intro r q h; cases h
    | succ n ih =>
      intro r q h h16
      rw [fieldsP_succ] at h
      split at h
      · cases h; omega
      · split at h
        · cases h
        next r1 hF =>
        have h1 := fieldP_len hF
        have h2 := ih h (by omega)
        omega
  unfold unionP at h
  split at h
  · cases h
  next l1 _ =>
  split at h
  · cases h
  next hb =>
  split at h
  · cases h
  next r2 hF =>
  cases h
  show r.fs.length < r2.fs.length ∧ r2.fs.length ≤ 16 ∧ r2.us.length + r.fs.length ≤ r.us.length + r2.fs.length ∧ r2.ns.length + r.fs.length = r.ns.length + r2.fs.length
  rw [fieldsP_succ] at hF
  simp only [Bool.or_eq_true, not_or, Bool.not_eq_true] at hb
  rw [if_neg (by simp only; rw [hb.1]; simp)] at hF
  split at hF
  · cases hF
  next r1 hE =>
  have h1 := fieldP_len hE
  have h2 := fl hF (by omega)
  simp only at h1
  omega

theorem field_kinds {u : Bool} {r q : Rd} (h : fieldP u r = some q) (hk : ∀ f ∈ r.fs, 0 ≤ f.t.kind) : ∀ f ∈ q.fs, 0 ≤ f.t.kind := by
  unfold fieldP at h
  split at h
  · cases h
  split at h
  · cases h
  split at h
  · cases h
  split at h
  · cases h
  split at h
  · cases h
  split at h
  · cases h
  split at h
  · cases h
  next hT =>
  have := typB_kind hT
  split at h
  · cases h
  split at h
  · cases h
  · cases h
    intro f hf
    simp only [List.mem_append, List.mem_singleton] at hf
    rcases hf with hf | rfl
    · exact hk f hf
    · exact this.1
theorem fields_kinds : ∀ {n : Nat} {r q : Rd}, fieldsP n r = some q → (∀ f ∈ r.fs, 0 ≤ f.t.kind) → ∀ f ∈ q.fs, 0 ≤ f.t.kind
  | 0, _, _, h, _ => by cases h
  | n + 1, r, q, h, hk => by
    rw [fieldsP_succ] at h
    split at h
    · cases h; exact hk
    · split at h
      · cases h
      next r1 hF => exact fields_kinds h (field_kinds hF hk)
theorem union_kinds {r q : Rd} (h : unionP r = some q) (hk : ∀ f ∈ r.fs, 0 ≤ f.t.kind) : ∀ f ∈ q.fs, 0 ≤ f.t.kind := by
  unfold unionP at h
  split at h
  · cases h
  split at h
  · cases h
  split at h
  · cases h
  next r2 hF =>
  cases h
  exact fields_kinds (q := r2) (n := 17) hF hk

theorem info70 : (Faeg.prog.info? 70).map (fun i => (i.zero, i.size, i.bytes)) = some (some (.agg #[.string ByteArray.empty, .slice none 0 0, .int .u8 0, .int .u16 0, .int .u8 0, .bool false, .int .u8 0, .int .u8 0]), 8, 48) := by kernel_rfl
theorem under44 : Faeg.prog.underlying 44 = some (.slice 70) := by kernel_rfl
end Go.Proofs.Ygcfae
