import Derived.Test.YgcfaeEq
import Derived.Deep.QuietTactic
import Derived.BigQuiet
namespace Go.Proofs.Ygcfae
open Go.RowKit

/-- new blocks, and a count of draws (a function, so that simp neither parts it nor doubts that there is one) -/
abbrev Mr := Nat → Array Obj × Nat

/-- w with more blocks, after some draws -/
def more (w : World) (m : Mr) : World := { w with heap := w.heap ++ (m 0).1, drawn := (m 0).2 }

theorem more_block (w : World) (m : Mr) {b : Nat} (h : b < w.heap.size) : (more w m).heap[b]? = w.heap[b]? := by
  show (w.heap ++ (m 0).1)[b]? = _
  rw [Array.getElem?_append_left h]
theorem more_cell (w : World) (m : Mr) (b o : Nat) (h : b < w.heap.size) : (more w m).cell? ⟨b, o, none⟩ = w.cell? ⟨b, o, none⟩ :=
  World.cell?_of_block (w := w) (a := ⟨b, o, none⟩) (more_block w m h)
theorem more_frozen (w : World) (m : Mr) (b o : Nat) (h : b < w.heap.size) : (more w m).frozen? ⟨b, o, none⟩ = w.frozen? ⟨b, o, none⟩ :=
  World.frozen?_of_block (w := w) (a := ⟨b, o, none⟩) (more_block w m h)
theorem more_below (w : World) (m : Mr) : Below w.heap.size w (more w m) :=
  ⟨rfl, rfl, rfl, by simp [more], fun k hk => more_block w m hk⟩
theorem below_more {w w' : World} (h : Below w.heap.size w w') : ∃ m, w' = more w m := by
  refine ⟨fun _ => (w'.heap.extract w.heap.size w'.heap.size, w'.drawn), ?_⟩
  obtain ⟨heap, tape, drawn, os, output⟩ := w'
  have h1 : os = w.os := h.os
  have h2 : tape = w.tape := h.tape
  have h3 : output = w.output := h.output
  subst h1 h2 h3
  have hs : w.heap.size ≤ heap.size := h.size
  have hh : heap = w.heap ++ heap.extract w.heap.size heap.size := by
    apply Array.ext_getElem?
    intro i
    by_cases hi : i < w.heap.size
    · rw [Array.getElem?_append_left hi]; exact h.block i hi
    · rw [Array.getElem?_append_right (by omega), Array.getElem?_extract]
      by_cases hi2 : i < heap.size
      · rw [if_pos (by omega)]; congr 1; omega
      · rw [if_neg (by omega), Array.getElem?_eq_none (by omega)]
  show (⟨heap, w.tape, drawn, w.os, w.output⟩ : World) = { w with heap := w.heap ++ heap.extract w.heap.size heap.size, drawn := drawn }
  rw [← hh]

/-- ONE WALK OF THE LEXICAL ORDER SERVES EVERY ORDER, at the class 'w with more blocks': a region whose operations read old blocks alone and whose callees make new ones alone. -/
theorem wp_region_calm {P : Program} {id : Nat} {Q : Exit → Act → World → Prop} {a : Act} {w : World} {l : List Oper} (hm : P.follows .mixedOrders = true) (hB : Region.lexB .any l.toArray = true)
    (h : wpQuiet P l.toArray (fun w' => ∃ m, w' = more w m) (fun a' => ∀ w', Below w.heap.size w w' → Q .normal a' w') l a) : (Code.region id l.toArray true).wp P Q a w := by
  refine wp_region_quiet (C := fun w' => ∃ m, w' = more w m) hm hB (below_more ?_) ?_
  · exact (Below.refl _ w).drew
  · have e : (fun a' => ∀ w', (∃ m, w' = more w m) → Q .normal a' w') = (fun a' => ∀ w', Below w.heap.size w w' → Q .normal a' w') := by
      funext a'
      apply propext
      constructor
      · intro h w' hb; exact h w' (below_more hb)
      · rintro h w' ⟨m, rfl⟩; exact h _ (more_below w m)
    rw [e]
    simpa using h

/-- a callee's contract at such a world -/
theorem calm_of {P : Program} {f : FuncId} {args : Array Value} {w : World} {m : Mr} {v : Value}
    (h : Calls P f args (more w m) fun e w' => e = .returned v ∧ Below (more w m).heap.size (more w m) w') : Calls P f args (more w m) fun e w'' => e = .returned v ∧ ∃ m, w'' = more w m :=
  h.mono fun _ _ ⟨he, hb⟩ => ⟨he, below_more ((more_below w m).trans (hb.mono (more_below w m).size))⟩
theorem calm_of_same {P : Program} {f : FuncId} {args : Array Value} {w : World} {m : Mr} {v : Value}
    (h : Calls P f args (more w m) fun e w' => e = .returned v ∧ w' = more w m) : Calls P f args (more w m) fun e w'' => e = .returned v ∧ ∃ m, w'' = more w m :=
  h.mono fun _ _ ⟨he, hb⟩ => ⟨he, m, hb⟩
end Go.Proofs.Ygcfae
