import Derived.Test.YgcfaeRLayW
namespace Go.Proofs.Ygcfae
open Go.RowKit

/-- w' is w with new blocks, and with writes to the blocks of S alone -/
structure Mod (S : Nat → Prop) (w w' : World) : Prop where
  os : w'.os = w.os
  tape : w'.tape = w.tape
  output : w'.output = w.output
  size : w.heap.size ≤ w'.heap.size
  block : ∀ k, k < w.heap.size → ¬ S k → w'.heap[k]? = w.heap[k]?

section
variable {S : Nat → Prop} {w w1 w2 : World}
theorem Mod.refl (S : Nat → Prop) (w : World) : Mod S w w := ⟨rfl, rfl, rfl, Nat.le_refl _, fun _ _ _ => rfl⟩
theorem Mod.trans (h : Mod S w w1) (h' : Mod S w1 w2) : Mod S w w2 :=
  ⟨h'.os.trans h.os, h'.tape.trans h.tape, h'.output.trans h.output, Nat.le_trans h.size h'.size, fun k hk hs => (h'.block k (Nat.lt_of_lt_of_le hk h.size) hs).trans (h.block k hk hs)⟩
theorem Mod.alloc (h : Mod S w w1) (o : Obj) : Mod S w (w1.alloc o) :=
  h.trans ⟨rfl, rfl, rfl, by simp, fun k hk _ => Below.heap_alloc _ _ _ hk⟩
theorem Mod.drew (h : Mod S w w1) : Mod S w w1.drew := ⟨h.os, h.tape, h.output, h.size, h.block⟩
theorem Mod.setCell (h : Mod S w w1) {p : Addr} (hp : S p.block ∨ w.heap.size ≤ p.block) (u : Value) : Mod S w (w1.setCell p u) :=
  ⟨h.os, h.tape, h.output, by simpa [World.setCell] using h.size, fun k hk hs => by
    rw [Below.heap_setCell _ _ _ _ (by rintro rfl; rcases hp with hp | hp; exact hs hp; omega)]; exact h.block k hk hs⟩
theorem Mod.grown {row : Option Nat} (h : Mod S w w1) (hg : w1.grownBy w2 row) (hr : ∀ k, row = some k → S k ∨ w.heap.size ≤ k) : Mod S w w2 :=
  ⟨hg.os.trans h.os, hg.tape.trans h.tape, hg.output.trans h.output, Nat.le_trans h.size hg.size, fun k hk hs => by
    rw [hg.block k (Nat.lt_of_lt_of_le hk h.size) (fun e => by rcases hr k e.symm with h1 | h1; exact hs h1; omega)]; exact h.block k hk hs⟩
theorem Mod.mono {S' : Nat → Prop} (h : Mod S w w1) (hs : ∀ k, S k → S' k) : Mod S' w w1 := ⟨h.os, h.tape, h.output, h.size, fun k hk hn => h.block k hk (fun e => hn (hs k e))⟩
theorem Mod.below {B : Nat} (h : Mod S w w1) (hB : B ≤ w.heap.size) (hs : ∀ k, S k → B ≤ k) : Below B w w1 :=
  ⟨h.os, h.tape, h.output, h.size, fun k hk => h.block k (by omega) (fun e => by have := hs k e; omega)⟩
theorem Below.mod (h : Below w.heap.size w w1) : Mod S w w1 := ⟨h.os, h.tape, h.output, h.size, fun k hk _ => h.block k hk⟩
theorem Own.mod {g : Nat} {e : TypeId} {xs : List Value} (h : Own w g e xs) (hm : Mod S w w1) (hg : ¬ S g) : Own w1 g e xs := h.block (hm.block g h.lt hg)
theorem AtB.mod {b off : Nat} {xs : List Value} (h : AtB w b off xs) (hm : Mod S w w1) (hb : b < w.heap.size) (hg : ¬ S b) : AtB w1 b off xs := h.same (hm.block b hb hg)
end

/-- a row of m bytes -/
def rowF (m : Nat) (f : Nat → Int) : List Value := (List.range m).map fun i => .int .u8 (f i)

theorem rowF_get {m : Nat} {f : Nat → Int} {i : Nat} (h : i < m) : (rowF m f)[i]? = some (.int .u8 (f i)) := by
  simp [rowF, h]
theorem rowF_set {m : Nat} {f : Nat → Int} {i : Nat} {x : Int} : (rowF m f).set i (.int .u8 x) = rowF m (fun j => if j = i then x else f j) := by
  apply List.ext_getElem?
  intro j
  by_cases hj : j < m
  · rw [rowF_get hj, List.getElem?_set]
    by_cases hij : i = j
    · subst hij; simp [rowF, hj]
    · rw [if_neg hij, rowF_get hj, if_neg (fun e => hij e.symm)]
  · rw [List.getElem?_eq_none (by simp [rowF]; omega), List.getElem?_eq_none (by simp [rowF]; omega)]

/-- the bits from a on, n of them, given to an owner -/
def fillF (f : Nat → Int) (a n : Nat) (x : Int) : Nat → Int := fun i => if a ≤ i ∧ i < a + n then x else f i

theorem fillF_zero (f : Nat → Int) (a : Nat) (x : Int) : fillF f a 0 x = f := by
  funext i; unfold fillF; rw [if_neg (by omega)]
theorem fillF_succ (f : Nat → Int) (a n : Nat) (x : Int) : (fun j => if j = a + n then x else fillF f a n x j) = fillF f a (n + 1) x := by
  funext i; unfold fillF
  by_cases h : i = a + n
  · rw [if_pos h, if_pos (by omega)]
  · rw [if_neg h]
    by_cases h2 : a ≤ i ∧ i < a + n
    · rw [if_pos h2, if_pos (by omega)]
    · rw [if_neg h2, if_neg (by omega)]

set_option maxRecDepth 100000
set_option maxHeartbeats 400000 in
theorem take_any (f : Nat → Int) (ob a n d : Nat) (x : Int) (w : World) (hd : d ≤ 8) (hT : a + n ≤ 64 * d) (ho : Own w ob 36 (rowF 512 f))
    (hf : ∀ i, a ≤ i → i < a + n → f i ≠ 2 ∧ (x = 2 → f i = 0)) :
    Calls Faeg.prog 13 #[.agg #[.pointer (some ⟨ob, 0, none⟩), .int .i64 d], .int .i64 a, .int .i64 n, .int .u8 x] w fun e w' =>
      e = .returned (.bool true) ∧ Own w' ob 36 (rowF 512 (fillF f a n x)) ∧ Mod (· = ob) w w' := by
  have hol := ho.lt
  go_enter Faeg.func13, Faeg.ntmps13
  go_wp2_with fail
  go_loopw [9] (fun i wr => ∃ k : Nat, k ≤ n ∧ i = .int .i64 ((a + k : Nat) : Int) ∧ Own wr ob 36 (rowF 512 (fillF f a k x)) ∧ Mod (· = ob) w wr ∧ Own wr w.heap.size 40 [.pointer (some ⟨ob, 0, none⟩), .int .i64 d]) (fun i _ => a + n - (intOf i).toNat)
  case atStart => exact ⟨0, Nat.zero_le _, rfl, by rw [fillF_zero]; exact ho.alloc _, (Mod.refl _ _).alloc _, Own.new _ _ _⟩
  case round =>
    obtain ⟨k, hk, rfl, o1, m1, o2⟩ := hrel
    have c0 := o2.cell (j := 0) rfl
    by_cases hlt : k < n
    · have hg := hf (a + k) (by omega) (by omega)
      have hfk : fillF f a k x (a + k) = f (a + k) := by unfold fillF; rw [if_neg (by omega)]
      have c1 := o1.cell (rowF_get (show a + k < 512 by omega))
      have q1 := o1.free (a + k)
      rw [hfk] at c1
      clear hfk
      obtain ⟨y, hy⟩ : ∃ y, y = f (a + k) := ⟨_, rfl⟩
      rw [← hy] at c1 hg
      clear hy
      have hy2 : (y == 2) = false := by simp [hg.1]
      have o1' := o1.set (a + k) (.int .u8 x)
      rw [rowF_set, fillF_succ] at o1'
      have m1' := m1.setCell (p := ⟨ob, a + k, none⟩) (.inl rfl) (.int .u8 x)
      have o2' := o2.other (a := ⟨ob, a + k, none⟩) (by simp; omega) (.int .u8 x)
      cases hx : (x == 2) with
      | true =>
        have hy0 : (y != 0) = false := by simp [hg.2 (by simpa using hx)]
        clear hg
        go_wp2_with fail
        go_roundw
        case rel => exact ⟨k + 1, by omega, by go_num, o1', m1', o2'⟩
        case measure => simp [intOf]; omega
      | false =>
        clear hg
        go_wp2_with fail
        go_roundw
        case rel => exact ⟨k + 1, by omega, by go_num, o1', m1', o2'⟩
        case measure => simp [intOf]; omega
    · have hkn : k = n := by omega
      subst hkn
      go_wp2
      go_ret
      exact ⟨rfl, o1, m1⟩
end Go.Proofs.Ygcfae
