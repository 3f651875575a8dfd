import Derived.Test.YgcfaeChecked
import Derived.WalkKit
import Derived.WalkSpells
import Derived.WalkLawsBesides
namespace Go.Proofs.Ygcfae
open Go.RowKit

/-- block g is a row of the cells xs, none of them frozen -/
def Own (w : World) (g : Nat) (e : TypeId) (xs : List Value) : Prop := w.heap[g]? = some (.cells xs.toArray e (0, 0))

section
variable {w w' : World} {g : Nat} {e : TypeId} {xs : List Value}

theorem Own.lt (h : Own w g e xs) : g < w.heap.size := lt_of_block h
theorem Own.cell (h : Own w g e xs) {j : Nat} {u : Value} (hj : xs[j]? = some u) : w.cell? ⟨g, j, none⟩ = some u := by
  rw [cell_of_row w g j _ e (0, 0) h]; simpa using hj
theorem Own.free (h : Own w g e xs) (j : Nat) : w.frozen? ⟨g, j, none⟩ = false := frozen_of_row w g j _ e h
theorem Own.block (h : Own w g e xs) (hb : w'.heap[g]? = w.heap[g]?) : Own w' g e xs := hb.trans h
theorem Own.below {B : Nat} (h : Own w g e xs) (hb : Below B w w') (hg : g < B) : Own w' g e xs := h.block (hb.block g hg)
theorem Own.alloc (h : Own w g e xs) (o : Obj) : Own (w.alloc o) g e xs := h.block (Below.heap_alloc w o g h.lt)
theorem Own.drew (h : Own w g e xs) : Own w.drew g e xs := h
theorem Own.new (w : World) (cs : Array Value) (e : TypeId) : Own (w.alloc (.cells cs e)) w.heap.size e cs.toList := by
  unfold Own; rw [heap_alloc_new]
theorem Own.set (h : Own w g e xs) (j : Nat) (u : Value) : Own (w.setCell ⟨g, j, none⟩ u) g e (xs.set j u) := by
  unfold Own
  rw [heap_setCell_same w g j _ e u h]
  simp
theorem Own.other (h : Own w g e xs) {a : Addr} (ha : g ≠ a.block) (u : Value) : Own (w.setCell a u) g e xs := h.block (heap_setCell_other w a g u ha)
theorem Own.grown {row : Option Nat} (h : Own w g e xs) (hg : w.grownBy w' row) (hne : some g ≠ row) : Own w' g e xs := h.block (hg.block g h.lt hne)
end

/-- the cells xs lie behind b, off -/
def AtB (w : World) (b off : Nat) (xs : List Value) : Prop := ∀ j u, xs[j]? = some u → w.cell? ⟨b, off + j, none⟩ = some u

/-- the cells xs lie behind the address, if there are any -/
def Has (w : World) (ao : Option Addr) (xs : List Value) : Prop := xs = [] ∨ ∃ b off, ao = some ⟨b, off, none⟩ ∧ b < w.heap.size ∧ AtB w b off xs

theorem AtB.same {w w' : World} {b off : Nat} {xs : List Value} (h : AtB w b off xs) (hb : w'.heap[b]? = w.heap[b]?) : AtB w' b off xs :=
  fun j u hj => (World.cell?_of_block (w := w) (a := ⟨b, off + j, none⟩) hb).trans (h j u hj)
theorem AtB.below {w w' : World} {B b off : Nat} {xs : List Value} (h : AtB w b off xs) (hb : Below B w w') (hB : b < B) : AtB w' b off xs := h.same (hb.block b hB)
theorem Own.at {w : World} {g : Nat} {e : TypeId} {xs : List Value} (h : Own w g e xs) : AtB w g 0 xs := fun j u hj => by
  rw [Nat.zero_add]; exact h.cell hj

theorem Has.below {w w' : World} {ao : Option Addr} {xs : List Value} (h : Has w ao xs) (hb : Below w.heap.size w w') : Has w' ao xs := by
  rcases h with h | ⟨b, off, h1, h2, h3⟩
  · exact .inl h
  · exact .inr ⟨b, off, h1, Nat.lt_of_lt_of_le h2 hb.size, h3.below hb h2⟩

/-- a slice value that a call has made reads as its cells -/
theorem Has.own {w : World} {base : Nat} {e : TypeId} {size : Nat} {v : Value} {n : Nat} {xs : List Value} (h : w.ownsRow base e size v n xs) :
    ∃ ao cap, v = .slice ao n cap ∧ Has w ao xs := by
  rcases h.2 with ⟨rfl, rfl⟩ | ⟨g, cap, cur, rfl, hb, hg, hnc, hcm, hcs, htake⟩
  · exact ⟨_, _, rfl, .inl (List.eq_nil_of_length_eq_zero (by simpa using h.1))⟩
  · refine ⟨_, _, rfl, .inr ⟨g, 0, rfl, lt_of_block hg, ?_⟩⟩
    intro j u hj
    have := h.cells (g := g) rfl j u hj
    simpa [Addr.add_lit] using this


theorem new_cells (w : World) (cs : List Value) (e : TypeId) (n : Nat) (hn : n = w.heap.size) :
    ∀ j u, cs[j]? = some u → (w.alloc (.cells cs.toArray e)).cell? ((⟨n, 0, none⟩ : Addr).add j) = some u := by
  subst hn
  intro j u hj
  rw [Addr.add_lit, Nat.zero_add, World.cell?_alloc_at _ _ _ _ rfl]
  simpa using hj

/-- append of one element that has just been laid in a block of its own, within the capacity -/
theorem wpList_app1 {P : Program} {X : World} {ops : Array Oper} {rest : List Oper} {o : Oper} {a : Act} {Q : Exit → Act → World → Prop}
    (hg : o.guard = none) (s x : Operand) (t : TypeId) (hop : o.op = Op.call { callee := Callee.builtin Builtin.append, args := #[s, x], argTypes := #[t, t] })
    (base : Nat) (e : TypeId) (i : TypeInfo) (size : Nat) (h1 : P.underlying t = some (.slice e)) (h2 : P.info? e = some i) (h4 : i.size = size)
    (g k cap : Nat) (xs : List Value) (cs : List Value) (nb : Nat) (hs : a.eval s = .slice (some ⟨g, 0, none⟩) k cap) (hx : a.eval x = .slice (some ⟨nb, 0, none⟩) 1 1)
    (hown : X.ownsRow base e size (.slice (some ⟨g, 0, none⟩) k cap) k xs) (hnb : nb = X.heap.size) (hn : cs.length = size)
    (h1c : cs.all Value.oneCell' = true) (b1 : k + 1 ≤ cap)
    (hK : ∀ w', w'.ownsRow base e size (.slice (some ⟨g, 0, none⟩) (k + 1) cap) (k + 1) (xs ++ cs) → (X.alloc (.cells cs.toArray e)).grownBy w' (some g) → wpList P ops Q rest (a.put o.dst (.slice (some ⟨g, 0, none⟩) (k + 1) cap)) w') :
    wpList P ops Q (o :: rest) a (X.alloc (.cells cs.toArray e)) :=
  wpList_append_fits _ hg s x t hop base e i size h1 h2 h4 g k cap xs hs (hown.alloc _) ⟨nb, 0, none⟩ 1 1 cs hx (by omega) (new_cells X cs e nb hnb) (List.all_eq_true.1 h1c) b1 hK

/-- the same behind a draw -/
theorem wpList_app1d {P : Program} {X : World} {ops : Array Oper} {rest : List Oper} {o : Oper} {a : Act} {Q : Exit → Act → World → Prop}
    (hg : o.guard = none) (s x : Operand) (t : TypeId) (hop : o.op = Op.call { callee := Callee.builtin Builtin.append, args := #[s, x], argTypes := #[t, t] })
    (base : Nat) (e : TypeId) (i : TypeInfo) (size : Nat) (h1 : P.underlying t = some (.slice e)) (h2 : P.info? e = some i) (h4 : i.size = size)
    (g k cap : Nat) (xs : List Value) (cs : List Value) (nb : Nat) (hs : a.eval s = .slice (some ⟨g, 0, none⟩) k cap) (hx : a.eval x = .slice (some ⟨nb, 0, none⟩) 1 1)
    (hown : X.ownsRow base e size (.slice (some ⟨g, 0, none⟩) k cap) k xs) (hnb : nb = X.heap.size) (hn : cs.length = size)
    (h1c : cs.all Value.oneCell' = true) (b1 : k + 1 ≤ cap)
    (hK : ∀ w', w'.ownsRow base e size (.slice (some ⟨g, 0, none⟩) (k + 1) cap) (k + 1) (xs ++ cs) → (X.alloc (.cells cs.toArray e)).grownBy w' (some g) → wpList P ops Q rest (a.put o.dst (.slice (some ⟨g, 0, none⟩) (k + 1) cap)) w') :
    wpList P ops Q (o :: rest) a (X.alloc (.cells cs.toArray e)).drew := by
  have h := wpList_app1 (P := P) (X := X.drew) (ops := ops) (rest := rest) (o := o) (a := a) (Q := Q) hg s x t hop base e i size h1 h2 h4 g k cap xs cs nb hs hx hown.drew hnb hn h1c b1
    (fun w' h3 h4 => hK w' h3 ⟨h4.os, h4.tape, h4.output, h4.size, h4.block⟩)
  rw [World.alloc_drew] at h
  exact h

/-- append of one element that has just been laid in a block of its own; the row may grow -/
theorem wpList_app1g {P : Program} {X : World} {ops : Array Oper} {rest : List Oper} {o : Oper} {a : Act} {Q : Exit → Act → World → Prop}
    (hg : o.guard = none) (s x : Operand) (t : TypeId) (hop : o.op = Op.call { callee := Callee.builtin Builtin.append, args := #[s, x], argTypes := #[t, t] })
    (base : Nat) (e : TypeId) (i : TypeInfo) (z : Value) (size bytes : Nat) (h1 : P.underlying t = some (.slice e)) (h2 : P.info? e = some i) (hz : i.zero = some z) (h4 : i.size = size) (h5 : i.bytes = bytes)
    (hzs : z.cells.size = size) (hsz : 0 < size)
    (v : Value) (k : Nat) (xs : List Value) (cs : List Value) (nb : Nat) (hs : a.eval s = v) (hx : a.eval x = .slice (some ⟨nb, 0, none⟩) 1 1)
    (hown : X.ownsRow base e size v k xs) (hnb : nb = X.heap.size) (hn : cs.length = size)
    (h1c : cs.all Value.oneCell' = true) (b1 : (k + 1) * bytes ≤ 140737488355328) (b2 : k + 1 ≤ maxLen) (hb : base ≤ X.heap.size)
    (hK : ∀ v' w', w'.ownsRow base e size v' (k + 1) (xs ++ cs) → (X.alloc (.cells cs.toArray e)).grownBy w' v.ownBlock → wpList P ops Q rest (a.put o.dst v') w') :
    wpList P ops Q (o :: rest) a (X.alloc (.cells cs.toArray e)) :=
  wpList_append_own _ hg s x t hop base e i z size bytes h1 h2 hz h4 h5 hzs hsz v k xs hs (hown.alloc _) ⟨nb, 0, none⟩ 1 1 cs hx (by omega) (new_cells X cs e nb hnb) (List.all_eq_true.1 h1c) b2 b1
    (by simp; omega) (fun v' w' h2 h3 _ => hK v' w' h2 h3)

end Go.Proofs.Ygcfae
