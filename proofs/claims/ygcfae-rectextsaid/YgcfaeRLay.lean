import Derived.Test.YgcfaeEntW
namespace Go.Proofs.Ygcfae
open Go.RowKit

def Plc.zero : Plc := ⟨0, 0, 0, false⟩

/-- the place of an entry, none for -1 -/
def placeOf (ps : List Plc) (i : Int) : Plc := if 0 ≤ i then ps.getD i.toNat Plc.zero else Plc.zero

/-- a field with its place, its entry being number i -/
def layF (ps : List Plc) (f : Fld) (i : Int) : Fld :=
  { f with p := if f.union && wd f.t.kind != 0 then ⟨wd f.t.kind, IntKind.u16.wrap ((placeOf ps i).off * IntKind.u16.wrap (64 / wd f.t.kind)), 0, false⟩ else placeOf ps i }

structure RL where
  fs : List Fld
  tag : Plc
  data : Nat
  ptrs : Nat

/-- rec.Layout -/
def rLay (fs : List Fld) : Option RL :=
  if 16 < fs.length then none
  else if fs.any (fun f => decide (14 < f.t.kind)) then none
  else match sLay (eRun fs ES.start).ts with
    | none => none
    | some st => some ⟨List.zipWith (layF st.ps) fs (eRun fs ES.start).ix, placeOf st.ps (eRun fs ES.start).tag, st.data, st.ptrs⟩

/-- every entry's number is one of an entry -/
def OkI (st : ES) : Prop := ∀ i ∈ st.ix, -1 ≤ i ∧ i < st.ts.length

theorem OkI.more {st st' : ES} (h : OkI st) (hi : st'.ix = st.ix) (ht : st.ts.length ≤ st'.ts.length) : OkI st' := by
  intro i hm
  rw [hi] at hm
  have := h i hm
  omega

theorem OkI.pushI {st : ES} (h : OkI st) {x : Int} (h1 : -1 ≤ x) (h2 : x < st.ts.length) : OkI (st.pushI x) := by
  intro i hm
  simp only [ES.pushI, List.mem_append, List.mem_singleton] at hm
  rcases hm with hm | rfl
  · exact h i hm
  · exact ⟨h1, h2⟩

theorem OkI.step {st : ES} {n : Nat} (o : OkE st n) (h : OkI st) (k : Int) (u : Bool) : OkI (eStep st k u) := by
  have h1 : OkI (st.tagged u) := h.more (by unfold ES.tagged; split <;> rfl) (by unfold ES.tagged; split <;> simp)
  have o1 := o.tagged u
  unfold eStep ES.place
  split
  · exact h1.pushI (by omega) (by omega)
  split
  · intro i hm
    simp only [ES.pushT, ES.pushI, List.mem_append, List.mem_singleton, List.length_append, List.length_cons, List.length_nil] at hm ⊢
    rcases hm with hm | rfl
    · have := h1 i hm; omega
    · omega
  split
  · have o2 := o1.slotted
    have h2 : OkI (st.tagged u).slotted := h1.more (by unfold ES.slotted; split <;> rfl) (by unfold ES.slotted; split <;> simp)
    exact h2.pushI (by omega) o2.1.slot_le
  · have o2 := o1.worded
    have h2 : OkI (st.tagged u).worded := h1.more (by unfold ES.worded; split <;> rfl) (by unfold ES.worded; split <;> simp)
    exact h2.pushI (by omega) o2.1.word_le

theorem eRun_ok : ∀ (fs : List Fld) {st : ES} {n : Nat}, OkE st n → OkI st → OkE (eRun fs st) (n + fs.length) ∧ OkI (eRun fs st)
  | [], _, _, o, h => ⟨o, h⟩
  | f :: fs, st, n, o, h => by
    have := eRun_ok fs (o.step f.t.kind f.union) (h.step o f.t.kind f.union)
    unfold eRun
    rw [List.length_cons, show n + (fs.length + 1) = n + 1 + fs.length by omega]
    exact this

theorem eRun_start (fs : List Fld) : OkE (eRun fs ES.start) fs.length ∧ OkI (eRun fs ES.start) := by
  have := eRun_ok fs okE_start (by intro i hi; simp [ES.start] at hi)
  simpa using this

theorem sLay_len {ks : List Int} {st : LS} (h : sLay ks = some st) : OkS st ks.length := by
  unfold sLay at h
  split at h
  · cases h
  · have := sRun_ok okS_start h
    simpa using this

/-- every kind that is laid out is not negative -/
def OkK (st : ES) : Prop := ∀ k ∈ st.ts, 0 ≤ k

theorem OkK.step {st : ES} (h : OkK st) {k : Int} (hk : 0 ≤ k) (u : Bool) : OkK (eStep st k u) := by
  have h1 : OkK (st.tagged u) := by
    unfold ES.tagged
    split
    · intro x hx; simp at hx; rcases hx with hx | rfl; exact h x hx; omega
    · exact h
  unfold eStep ES.place
  split
  · exact h1
  split
  · intro x hx
    simp only [ES.pushT, ES.pushI, List.mem_append, List.mem_singleton] at hx
    rcases hx with hx | rfl; exact h1 x hx; omega
  split
  · unfold ES.slotted
    split
    · intro x hx; simp only [ES.pushI, List.mem_append, List.mem_singleton] at hx; rcases hx with hx | rfl; exact h1 x hx; omega
    · exact h1
  · unfold ES.worded
    split
    · intro x hx; simp only [ES.pushI, List.mem_append, List.mem_singleton] at hx; rcases hx with hx | rfl; exact h1 x hx; omega
    · exact h1

theorem eRun_kinds : ∀ (fs : List Fld) {st : ES}, OkK st → (∀ f ∈ fs, 0 ≤ f.t.kind) → OkK (eRun fs st)
  | [], _, h, _ => h
  | f :: fs, _, h, hk => eRun_kinds fs (h.step (hk f (List.mem_cons_self ..)) f.union) (fun g hg => hk g (List.mem_cons_of_mem _ hg))

end Go.Proofs.Ygcfae
