import Derived.Test.YgcfaeParB
namespace Go.Proofs.Ygcfae
open Go.RowKit

/-! Frames of the parser's functions: which blocks may change. -/

/-- the parser's own block, the blocks from lo on, and from n0 on those of the element types es -/
def TS (n0 pb lo : Nat) (es : List TypeId) (w : World) (k : Nat) : Prop := k = pb ∨ lo ≤ k ∨ (n0 ≤ k ∧ ∃ cs e fz, e ∈ es ∧ w.heap[k]? = some (.cells cs e fz))

def MT (n0 pb lo : Nat) (es : List TypeId) (w w' : World) : Prop := Mod (TS n0 pb lo es w) w w'

section
variable {n0 pb lo : Nat} {es : List TypeId} {w w1 w2 : World}
theorem MT.refl (n0 pb lo : Nat) (es : List TypeId) (w : World) : MT n0 pb lo es w w := Mod.refl _ _
theorem MT.trans (h : MT n0 pb lo es w w1) (h' : MT n0 pb lo es w1 w2) : MT n0 pb lo es w w2 :=
  ⟨h'.os.trans h.os, h'.tape.trans h.tape, h'.output.trans h.output, Nat.le_trans h.size h'.size, fun k hk hs => by
    have e1 := h.block k hk hs
    refine (h'.block k (Nat.lt_of_lt_of_le hk h.size) ?_).trans e1
    rintro (h2 | h2 | ⟨hn, cs, e, fz, he, h2⟩)
    · exact hs (.inl h2)
    · exact hs (.inr (.inl h2))
    · exact hs (.inr (.inr ⟨hn, cs, e, fz, he, e1 ▸ h2⟩))⟩
theorem MT.of (h : Mod (· = pb) w w1) : MT n0 pb lo es w w1 := h.mono fun _ hk => .inl hk
theorem MT.calm (h : MT n0 pb lo es w w1) (hb : Below w1.heap.size w1 w2) : MT n0 pb lo es w w2 := h.trans (Below.mod hb)
theorem MT.alloc (h : MT n0 pb lo es w w1) (o : Obj) : MT n0 pb lo es w (w1.alloc o) := Mod.alloc h o
theorem MT.wide {lo' : Nat} {es' : List TypeId} (h : MT n0 pb lo es w w1) (hl : lo' ≤ lo) (he : ∀ e, e ∈ es → e ∈ es') : MT n0 pb lo' es' w w1 :=
  h.mono fun k hk => by
    rcases hk with hk | hk | ⟨hn, cs, e, fz, h1, h2⟩
    · exact .inl hk
    · exact .inr (.inl (by omega))
    · exact .inr (.inr ⟨hn, cs, e, fz, he e h1, h2⟩)
theorem MT.below (h : MT n0 pb lo es w w1) (hp : n0 ≤ pb) (hl : n0 ≤ lo) (hs : n0 ≤ w.heap.size) : Below n0 w w1 :=
  Mod.below h hs fun k hk => by
    rcases hk with hk | hk | ⟨hn, _⟩
    · omega
    · omega
    · exact hn
/-- an append to a row of an allowed type, or of blocks from lo on -/
theorem MT.grown {base : Nat} {e : TypeId} {size n : Nat} {v : Value} {xs : List Value} (h : MT n0 pb lo es w w1) (hr : w1.ownsRow base e size v n xs) (hg : w1.grownBy w2 v.ownBlock)
    (he : (e ∈ es ∧ n0 ≤ base) ∨ lo ≤ base) : MT n0 pb lo es w w2 := by
  refine h.trans ⟨hg.os, hg.tape, hg.output, hg.size, fun k hk hs => hg.block k hk fun e1 => ?_⟩
  have hl := hr.lt k e1.symm
  rcases he with ⟨he, hb⟩ | he
  · rcases hr.2 with ⟨rfl, rfl⟩ | ⟨g, cap, cur, rfl, hb2, hgg, _⟩
    · simp [Value.ownBlock] at e1
    · simp [Value.ownBlock] at e1
      subst e1
      exact hs (.inr (.inr ⟨by omega, _, e, _, he, hgg⟩))
  · exact hs (.inr (.inl (by omega)))
theorem MT.set (h : MT n0 pb lo es w w1) {p : Addr} (hp : p.block = pb ∨ lo ≤ p.block) (u : Value) : MT n0 pb lo es w (w1.setCell p u) := by
  refine h.trans ⟨rfl, rfl, rfl, by simp [World.setCell], fun k hk hs => Below.heap_setCell _ _ _ _ fun e1 => ?_⟩
  subst e1
  rcases hp with hp | hp
  · exact hs (.inl hp)
  · exact hs (.inr (.inl hp))

/-- a row that does not change -/
theorem row_mod {S : Nat → Prop} {base : Nat} {e : TypeId} {size n : Nat} {v : Value} {xs : List Value} (h : w.ownsRow base e size v n xs) (hm : Mod S w w1) (hs : ∀ k, v.ownBlock = some k → ¬ S k) :
    w1.ownsRow base e size v n xs := by
  refine ⟨h.1, ?_⟩
  rcases h.2 with h2 | ⟨g, cap, cur, rfl, hb, hg, hr⟩
  · exact .inl h2
  · refine .inr ⟨g, cap, cur, rfl, hb, ?_, hr⟩
    rw [hm.block g (lt_of_block hg) (hs g rfl)]; exact hg
theorem row_calm {base : Nat} {e : TypeId} {size n : Nat} {v : Value} {xs : List Value} (h : w.ownsRow base e size v n xs) (hb : Below w.heap.size w w1) : w1.ownsRow base e size v n xs :=
  row_mod (S := fun _ => False) h (Below.mod hb) (fun _ _ => id)
theorem row_ne {base : Nat} {e e' : TypeId} {size n g : Nat} {v : Value} {xs cs : List Value} (h : w.ownsRow base e size v n xs) (ho : Own w g e' cs) (hne : e ≠ e') : v.ownBlock ≠ some g := by
  rcases h.2 with ⟨rfl, rfl⟩ | ⟨k, cap, cur, rfl, hb, hg, hr⟩
  · simp [Value.ownBlock]
  · intro h1
    simp [Value.ownBlock] at h1
    subst h1
    rw [ho] at hg
    cases hg
    exact hne rfl
theorem row_row {base base' : Nat} {e e' : TypeId} {size size' n n' : Nat} {v v' : Value} {xs xs' : List Value} (h : w.ownsRow base e size v n xs) (h' : w.ownsRow base' e' size' v' n' xs') (hne : e ≠ e') {k : Nat}
    (h1 : v.ownBlock = some k) : v'.ownBlock ≠ some k := by
  rcases h.2 with ⟨rfl, rfl⟩ | ⟨k1, cap, cur, rfl, hb, hg, hr⟩
  · simp [Value.ownBlock] at h1
  · simp [Value.ownBlock] at h1
    subst h1
    rcases h'.2 with ⟨rfl, rfl⟩ | ⟨k2, cap2, cur2, rfl, hb2, hg2, hr2⟩
    · simp [Value.ownBlock]
    · intro h2
      simp [Value.ownBlock] at h2
      subst h2
      rw [hg] at hg2
      cases hg2
      exact hne rfl
/-- a row behind a change of the parser's block alone -/
theorem row_par {base : Nat} {e : TypeId} {size n : Nat} {v : Value} {xs cs : List Value} (h : w.ownsRow base e size v n xs) (hm : Mod (· = pb) w w1) (ho : Own w pb 143 cs) (hne : e ≠ 143) : w1.ownsRow base e size v n xs :=
  row_mod h hm fun _ hk e1 => row_ne h ho hne (e1 ▸ hk)
theorem row_Par {base : Nat} {e : TypeId} {size n : Nat} {v : Value} {xs : List Value} {T : ByteArray} {l : Lx} {sv uv nv : Value} (h : w.ownsRow base e size v n xs) (hm : Mod (· = pb) w w1) (hp : Par w pb T l sv uv nv) (hne : e ≠ 143) : w1.ownsRow base e size v n xs := by
  obtain ⟨p, e1, hl, ho⟩ := hp
  exact row_par h hm ho hne
end

/-- the cells of the uses -/
def ucells (us : List (Int × ByteArray)) : List Value := us.flatMap fun u => [.int .i64 u.1, .string u.2]
def unames (us : List (Int × ByteArray)) : List Bs := us.map fun u => u.2.toList

theorem ucells_snoc (us : List (Int × ByteArray)) (a : Int) (s : ByteArray) : ucells (us ++ [(a, s)]) = ucells us ++ [.int .i64 a, .string s] := by simp [ucells]
theorem unames_snoc (us : List (Int × ByteArray)) (a : Int) (s : ByteArray) : unames (us ++ [(a, s)]) = unames us ++ [s.toList] := by simp [unames]

theorem under141 : Faeg.prog.underlying 141 = some (.slice 168) := by kernel_rfl

/-- the uses of the parser: a row of its own -/
def Uses (w : World) (n0 : Nat) (uv : Value) (us : List (Int × ByteArray)) : Prop := w.ownsRow n0 168 2 uv us.length (ucells us)

end Go.Proofs.Ygcfae
