import Derived.Test.YgcfaeSLayAny
import Derived.Deep.DeepCutAuto
namespace Go.Proofs.Ygcfae
open Go.RowKit

/-- rec.entries so far: the kinds to lay out, each field's entry, the union's parts -/
structure ES where
  ts : List Int
  ix : List Int
  tag : Int
  word : Int
  slot : Int

def ES.start : ES := ⟨[], [], -1, -1, -1⟩
def ES.tagged (st : ES) (u : Bool) : ES := if u && decide (st.tag < 0) then { st with tag := st.ts.length, ts := st.ts ++ [6] } else st
def ES.slotted (st : ES) : ES := if st.slot < 0 then { st with slot := st.ts.length, ts := st.ts ++ [11] } else st
def ES.worded (st : ES) : ES := if st.word < 0 then { st with word := st.ts.length, ts := st.ts ++ [8] } else st
def ES.pushI (st : ES) (i : Int) : ES := { st with ix := st.ix ++ [i] }
def ES.pushT (st : ES) (k : Int) : ES := { st with ts := st.ts ++ [k] }

/-- a field behind its union's tag -/
def ES.place (st : ES) (k : Int) (u : Bool) : ES :=
  if k == 14 then st.pushI (-1)
  else if u == false then (st.pushI st.ts.length).pushT k
  else if ptrK k then st.slotted.pushI st.slotted.slot
  else st.worded.pushI st.worded.word

def eStep (st : ES) (k : Int) (u : Bool) : ES := (st.tagged u).place k u

def eRun : List Fld → ES → ES
  | [], st => st
  | f :: fs, st => eRun fs (eStep st f.t.kind f.union)

def one (x : Int) : Nat := if x < 0 then 0 else 1

structure OkE (st : ES) (k : Nat) : Prop where
  ix_len : st.ix.length = k
  ts_len : st.ts.length ≤ k + one st.tag + one st.word + one st.slot
  tag_le : st.tag < st.ts.length
  word_le : st.word < st.ts.length
  slot_le : st.slot < st.ts.length
  tag_ge : -1 ≤ st.tag
  word_ge : -1 ≤ st.word
  slot_ge : -1 ≤ st.slot

theorem one_le (x : Int) : one x ≤ 1 := by unfold one; split <;> omega

theorem OkE.tagged {st : ES} {k : Nat} (h : OkE st k) (u : Bool) : OkE (st.tagged u) k := by
  obtain ⟨h1, h2, h3, h4, h5, h6, h7, h8⟩ := h
  unfold ES.tagged
  split
  · rename_i hc
    simp only [Bool.and_eq_true, decide_eq_true_eq] at hc
    refine ⟨h1, ?_, ?_, ?_, ?_, ?_, h7, h8⟩
    all_goals simp only [List.length_append, List.length_cons, List.length_nil, one] at *
    · rw [if_pos hc.2] at h2; rw [if_neg (by omega)]; omega
    all_goals omega
  · exact ⟨h1, h2, h3, h4, h5, h6, h7, h8⟩

theorem OkE.slotted {st : ES} {k : Nat} (h : OkE st k) : OkE st.slotted k ∧ 0 ≤ st.slotted.slot := by
  obtain ⟨h1, h2, h3, h4, h5, h6, h7, h8⟩ := h
  unfold ES.slotted
  split
  · rename_i hc
    refine ⟨⟨h1, ?_, ?_, ?_, ?_, h6, h7, ?_⟩, ?_⟩
    all_goals simp only [List.length_append, List.length_cons, List.length_nil, one] at *
    · rw [if_pos hc] at h2; rw [if_neg (by omega : ¬ ((st.ts.length : Int) < 0))]; omega
    all_goals omega
  · exact ⟨⟨h1, h2, h3, h4, h5, h6, h7, h8⟩, by omega⟩

theorem OkE.worded {st : ES} {k : Nat} (h : OkE st k) : OkE st.worded k ∧ 0 ≤ st.worded.word := by
  obtain ⟨h1, h2, h3, h4, h5, h6, h7, h8⟩ := h
  unfold ES.worded
  split
  · rename_i hc
    refine ⟨⟨h1, ?_, ?_, ?_, ?_, h6, ?_, h8⟩, ?_⟩
    all_goals simp only [List.length_append, List.length_cons, List.length_nil, one] at *
    · rw [if_pos hc] at h2; rw [if_neg (by omega : ¬ ((st.ts.length : Int) < 0))]; omega
    all_goals omega
  · exact ⟨⟨h1, h2, h3, h4, h5, h6, h7, h8⟩, by omega⟩

theorem OkE.pushI {st : ES} {k : Nat} (h : OkE st k) (i : Int) : OkE (st.pushI i) (k + 1) := by
  obtain ⟨h1, h2, h3, h4, h5, h6, h7, h8⟩ := h
  refine ⟨by simp [ES.pushI, h1], ?_, h3, h4, h5, h6, h7, h8⟩
  simp only [ES.pushI]; omega

theorem OkE.pushIT {st : ES} {k : Nat} (h : OkE st k) (i t : Int) : OkE ((st.pushI i).pushT t) (k + 1) := by
  obtain ⟨h1, h2, h3, h4, h5, h6, h7, h8⟩ := h
  refine ⟨by simp [ES.pushI, ES.pushT, h1], ?_, ?_, ?_, ?_, h6, h7, h8⟩
  all_goals simp only [ES.pushI, ES.pushT, List.length_append, List.length_cons, List.length_nil]
  all_goals omega

theorem OkE.place {st : ES} {n : Nat} (h : OkE st n) (k : Int) (u : Bool) : OkE (st.place k u) (n + 1) := by
  unfold ES.place
  split
  · exact h.pushI _
  split
  · exact h.pushIT _ _
  split
  · exact h.slotted.1.pushI _
  · exact h.worded.1.pushI _

theorem OkE.step {st : ES} {n : Nat} (h : OkE st n) (k : Int) (u : Bool) : OkE (eStep st k u) (n + 1) := (h.tagged u).place k u
theorem okE_start : OkE ES.start 0 := ⟨rfl, by decide, by decide, by decide, by decide, by decide, by decide, by decide⟩

/-- the type of an entry -/
def tk (k : Int) : Typ := ⟨k, 0, 0, 0⟩

theorem tcells_snoc (ts : List Int) (k : Int) : tcells ((ts ++ [k]).map tk) = tcells (ts.map tk) ++ [.int .u8 k, .int .u8 0, .int .u8 0, .int .u8 0] := by
  simp [tcells, Typ.cells, tk]

/-- what the memory holds in rec.entries -/
structure EMem (w : World) (g2 g3 n : Nat) (st : ES) (k : Nat) (wr : World) : Prop where
  ne : g2 ≠ g3
  lt2 : w.heap.size < g2
  lt3 : w.heap.size < g3
  rooms : Own wr w.heap.size 99 [.int .i64 st.tag, .int .i64 st.word, .int .i64 st.slot]
  ts : wr.ownsRow (w.heap.size + 1) 31 4 (.slice (some ⟨g2, 0, none⟩) st.ts.length (n + 3)) st.ts.length (tcells (st.ts.map tk))
  ix : wr.ownsRow (w.heap.size + 1) 3 1 (.slice (some ⟨g3, 0, none⟩) k n) k (st.ix.map (.int .i64))
  below : Below w.heap.size w wr

section
variable {w : World} {g2 g3 n : Nat} {st : ES} {k : Nat} {wr w2 : World}

theorem EMem.size (h : EMem w g2 g3 n st k wr) : w.heap.size < wr.heap.size := h.rooms.lt
theorem EMem.alloc (h : EMem w g2 g3 n st k wr) (o : Obj) : EMem w g2 g3 n st k (wr.alloc o) :=
  ⟨h.ne, h.lt2, h.lt3, h.rooms.alloc o, h.ts.alloc o, h.ix.alloc o, h.below.alloc (Nat.le_of_lt h.size) o⟩
theorem EMem.store (h : EMem w g2 g3 n st k wr) (j : Nat) (v : Value) {st' : ES} (hts : st'.ts = st.ts) (hix : st'.ix = st.ix)
    (hr : [Value.int .i64 st.tag, .int .i64 st.word, .int .i64 st.slot].set j v = [.int .i64 st'.tag, .int .i64 st'.word, .int .i64 st'.slot]) :
    EMem w g2 g3 n st' k (wr.setCell ⟨w.heap.size, j, none⟩ v) := by
  refine ⟨h.ne, h.lt2, h.lt3, ?_, ?_, ?_, h.below.setCell (p := ⟨w.heap.size, j, none⟩) (Nat.le_refl _) v⟩
  · rw [← hr]; exact h.rooms.set j v
  · rw [hts]; exact ownsRow_setCell_below h.ts (Nat.lt_succ_self _) v
  · rw [hix]; exact ownsRow_setCell_below h.ix (Nat.lt_succ_self _) v
theorem EMem.setTag (h : EMem w g2 g3 n st k wr) (x : Int) : EMem w g2 g3 n { st with tag := x } k (wr.setCell ⟨w.heap.size, 0, none⟩ (.int .i64 x)) := h.store 0 _ rfl rfl rfl
theorem EMem.setWord (h : EMem w g2 g3 n st k wr) (x : Int) : EMem w g2 g3 n { st with word := x } k (wr.setCell ⟨w.heap.size, 1, none⟩ (.int .i64 x)) := h.store 1 _ rfl rfl rfl
theorem EMem.setSlot (h : EMem w g2 g3 n st k wr) (x : Int) : EMem w g2 g3 n { st with slot := x } k (wr.setCell ⟨w.heap.size, 2, none⟩ (.int .i64 x)) := h.store 2 _ rfl rfl rfl
theorem EMem.pushT (h : EMem w g2 g3 n st k wr) (x : Int)
    (own : w2.ownsRow (w.heap.size + 1) 31 4 (.slice (some ⟨g2, 0, none⟩) (st.ts.length + 1) (n + 3)) (st.ts.length + 1) (tcells (st.ts.map tk) ++ [.int .u8 x, .int .u8 0, .int .u8 0, .int .u8 0]))
    (hg : wr.grownBy w2 (some g2)) : EMem w g2 g3 n (st.pushT x) k w2 := by
  have h2 := h.lt2
  refine ⟨h.ne, h.lt2, h.lt3, h.rooms.grown hg (by simp; omega), ?_, h.ix.kept hg ?_, h.below.grown hg (Nat.le_of_lt h.size) (by simp; omega)⟩
  · simp only [ES.pushT, List.length_append, List.length_cons, List.length_nil]
    rw [tcells_snoc]; exact own
  · right; simp [Value.ownBlock]; exact fun e => h.ne e.symm
theorem EMem.pushI (h : EMem w g2 g3 n st k wr) (x : Int)
    (own : w2.ownsRow (w.heap.size + 1) 3 1 (.slice (some ⟨g3, 0, none⟩) (k + 1) n) (k + 1) (st.ix.map (.int .i64) ++ [.int .i64 x]))
    (hg : wr.grownBy w2 (some g3)) : EMem w g2 g3 n (st.pushI x) (k + 1) w2 := by
  have h2 := h.lt3
  refine ⟨h.ne, h.lt2, h.lt3, h.rooms.grown hg (by simp; omega), h.ts.kept hg ?_, ?_, h.below.grown hg (Nat.le_of_lt h.size) (by simp; omega)⟩
  · right; simp [Value.ownBlock]; exact h.ne
  · simp only [ES.pushI, List.map_append, List.map_cons, List.map_nil]; exact own
end

end Go.Proofs.Ygcfae
