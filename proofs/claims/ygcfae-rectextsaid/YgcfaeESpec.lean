import Derived.Test.YgcfaeLSpec
namespace Go.Proofs.Ygcfae
open Go.RowKit

/-- what a field's entry is: r says of each entry what it was made for: -1 the tag, -2 the word, -3 the slot, else the field -/
structure FOk (E : ES) (r : List Int) (k : Nat) (f : Fld) (i : Int) : Prop where
  void : f.t.kind = 14 → i = -1
  plain : f.t.kind ≠ 14 → f.union = false → 0 ≤ i ∧ r[i.toNat]? = some (k : Int) ∧ E.ts[i.toNat]? = some f.t.kind
  uptr : f.t.kind ≠ 14 → f.union = true → ptrK f.t.kind = true → i = E.slot ∧ 0 ≤ i
  uscal : f.t.kind ≠ 14 → f.union = true → ptrK f.t.kind = false → i = E.word ∧ 0 ≤ i

structure ESpec (fs : List Fld) (E : ES) (r : List Int) : Prop where
  len : r.length = E.ts.length
  ixl : E.ix.length = fs.length
  tag : 0 ≤ E.tag → r[E.tag.toNat]? = some (-1) ∧ E.ts[E.tag.toNat]? = some 6
  word : 0 ≤ E.word → r[E.word.toNat]? = some (-2) ∧ E.ts[E.word.toNat]? = some 8
  slot : 0 ≤ E.slot → r[E.slot.toNat]? = some (-3) ∧ E.ts[E.slot.toNat]? = some 11
  fld : ∀ (k : Nat) f i, fs[k]? = some f → E.ix[k]? = some i → FOk E r k f i

theorem get_snoc {α : Type} {l : List α} {i : Nat} {v : α} (h : l[i]? = some v) (x : α) : (l ++ [x])[i]? = some v := by
  rw [List.getElem?_append_left (List.getElem?_eq_some_iff.1 h).1]; exact h
theorem get_last {α : Type} (l : List α) (x : α) : (l ++ [x])[l.length]? = some x := by simp

theorem eSpec_start : ESpec [] ES.start [] := by
  refine ⟨rfl, rfl, ?_, ?_, ?_, ?_⟩
  · intro h; simp [ES.start] at h
  · intro h; simp [ES.start] at h
  · intro h; simp [ES.start] at h
  · intro k f i h; simp at h

theorem ESpec.tagged {fs : List Fld} {E : ES} {r : List Int} (h : ESpec fs E r) (u : Bool) : ∃ r', ESpec fs (E.tagged u) r' := by
  unfold ES.tagged
  split
  · refine ⟨r ++ [-1], ?_, h.ixl, ?_, ?_, ?_, ?_⟩
    · simp [h.len]
    · intro _
      simp only [Int.toNat_natCast]
      exact ⟨by rw [← h.len]; exact get_last _ _, get_last _ _⟩
    · intro h0; exact ⟨get_snoc (h.word h0).1 _, get_snoc (h.word h0).2 _⟩
    · intro h0; exact ⟨get_snoc (h.slot h0).1 _, get_snoc (h.slot h0).2 _⟩
    · intro k f i hf hi
      have o := h.fld k f i hf hi
      exact ⟨o.void, fun h1 h2 => ⟨(o.plain h1 h2).1, get_snoc (o.plain h1 h2).2.1 _, get_snoc (o.plain h1 h2).2.2 _⟩, o.uptr, o.uscal⟩
  · exact ⟨r, h⟩

theorem ESpec.slotted {fs : List Fld} {E : ES} {r : List Int} (h : ESpec fs E r) : ∃ r', ESpec fs E.slotted r' := by
  unfold ES.slotted
  split
  · rename_i hneg
    refine ⟨r ++ [-3], ?_, h.ixl, ?_, ?_, ?_, ?_⟩
    · simp [h.len]
    · intro h0; exact ⟨get_snoc (h.tag h0).1 _, get_snoc (h.tag h0).2 _⟩
    · intro h0; exact ⟨get_snoc (h.word h0).1 _, get_snoc (h.word h0).2 _⟩
    · intro _
      simp only [Int.toNat_natCast]
      exact ⟨by rw [← h.len]; exact get_last _ _, get_last _ _⟩
    · intro k f i hf hi
      have o := h.fld k f i hf hi
      refine ⟨o.void, fun h1 h2 => ⟨(o.plain h1 h2).1, get_snoc (o.plain h1 h2).2.1 _, get_snoc (o.plain h1 h2).2.2 _⟩, fun h1 h2 h3 => ?_, o.uscal⟩
      obtain ⟨e1, e2⟩ := o.uptr h1 h2 h3
      omega
  · exact ⟨r, h⟩

theorem ESpec.worded {fs : List Fld} {E : ES} {r : List Int} (h : ESpec fs E r) : ∃ r', ESpec fs E.worded r' := by
  unfold ES.worded
  split
  · rename_i hneg
    refine ⟨r ++ [-2], ?_, h.ixl, ?_, ?_, ?_, ?_⟩
    · simp [h.len]
    · intro h0; exact ⟨get_snoc (h.tag h0).1 _, get_snoc (h.tag h0).2 _⟩
    · intro _
      simp only [Int.toNat_natCast]
      exact ⟨by rw [← h.len]; exact get_last _ _, get_last _ _⟩
    · intro h0; exact ⟨get_snoc (h.slot h0).1 _, get_snoc (h.slot h0).2 _⟩
    · intro k f i hf hi
      have o := h.fld k f i hf hi
      refine ⟨o.void, fun h1 h2 => ⟨(o.plain h1 h2).1, get_snoc (o.plain h1 h2).2.1 _, get_snoc (o.plain h1 h2).2.2 _⟩, o.uptr, fun h1 h2 h3 => ?_⟩
      obtain ⟨e1, e2⟩ := o.uscal h1 h2 h3
      omega
  · exact ⟨r, h⟩

theorem ESpec.pushI {fs : List Fld} {E : ES} {r : List Int} (h : ESpec fs E r) {f : Fld} {i : Int} (o : FOk E r fs.length f i) : ESpec (fs ++ [f]) (E.pushI i) r := by
  refine ⟨h.len, by simp [ES.pushI, h.ixl], h.tag, h.word, h.slot, ?_⟩
  intro k g j hg hj
  have hx := h.ixl
  rcases snoc_get hg with ⟨hk, hg⟩ | ⟨rfl, rfl⟩
  · simp only [ES.pushI] at hj
    rw [List.getElem?_append_left (by omega)] at hj
    have := h.fld k g j hg hj
    exact ⟨this.void, this.plain, this.uptr, this.uscal⟩
  · simp only [ES.pushI] at hj
    rw [← hx, get_last] at hj
    cases hj
    exact ⟨o.void, o.plain, o.uptr, o.uscal⟩

theorem ESpec.pushIT {fs : List Fld} {E : ES} {r : List Int} (h : ESpec fs E r) {f : Fld} (h14 : f.t.kind ≠ 14) (hu : f.union = false) :
    ESpec (fs ++ [f]) ((E.pushI E.ts.length).pushT f.t.kind) (r ++ [(fs.length : Int)]) := by
  refine ⟨by simp [ES.pushT, ES.pushI, h.len], by simp [ES.pushI, ES.pushT, h.ixl], ?_, ?_, ?_, ?_⟩
  · intro h0; exact ⟨get_snoc (h.tag h0).1 _, get_snoc (h.tag h0).2 _⟩
  · intro h0; exact ⟨get_snoc (h.word h0).1 _, get_snoc (h.word h0).2 _⟩
  · intro h0; exact ⟨get_snoc (h.slot h0).1 _, get_snoc (h.slot h0).2 _⟩
  · intro k g j hg hj
    have hx := h.ixl
    rcases snoc_get hg with ⟨hk, hg⟩ | ⟨rfl, rfl⟩
    · simp only [ES.pushI, ES.pushT] at hj
      rw [List.getElem?_append_left (by omega)] at hj
      have o := h.fld k g j hg hj
      exact ⟨o.void, fun h1 h2 => ⟨(o.plain h1 h2).1, get_snoc (o.plain h1 h2).2.1 _, get_snoc (o.plain h1 h2).2.2 _⟩, o.uptr, o.uscal⟩
    · simp only [ES.pushI, ES.pushT] at hj
      rw [← hx, get_last] at hj
      cases hj
      refine ⟨fun e => absurd e h14, fun _ _ => ⟨by omega, ?_, ?_⟩, fun _ e => (by rw [hu] at e; cases e), fun _ e => (by rw [hu] at e; cases e)⟩
      · rw [Int.toNat_natCast, ← h.len]; exact get_last _ _
      · simp only [Int.toNat_natCast, ES.pushT, ES.pushI]; exact get_last _ _

theorem ESpec.step {fs : List Fld} {E : ES} {r : List Int} {n : Nat} (h : ESpec fs E r) (ok : OkE E n) (f : Fld) : ∃ r', ESpec (fs ++ [f]) (eStep E f.t.kind f.union) r' := by
  obtain ⟨r1, h1⟩ := h.tagged f.union
  have ok1 := ok.tagged f.union
  unfold eStep ES.place
  split
  · rename_i h14
    have h14 : f.t.kind = 14 := by simpa using h14
    exact ⟨r1, h1.pushI ⟨fun _ => rfl, fun e => absurd h14 e, fun e => absurd h14 e, fun e => absurd h14 e⟩⟩
  · rename_i h14
    have h14 : f.t.kind ≠ 14 := by simpa using h14
    split
    · rename_i hu
      have hu : f.union = false := by simpa using hu
      exact ⟨_, h1.pushIT h14 hu⟩
    · rename_i hu
      have hu : f.union = true := by simpa using hu
      split
      · rename_i hp
        obtain ⟨r2, h2⟩ := h1.slotted
        exact ⟨r2, h2.pushI ⟨fun e => absurd e h14, fun _ e => (by rw [hu] at e; cases e), fun _ _ _ => ⟨rfl, ok1.slotted.2⟩, fun _ _ e => (by rw [hp] at e; cases e)⟩⟩
      · rename_i hp
        obtain ⟨r2, h2⟩ := h1.worded
        exact ⟨r2, h2.pushI ⟨fun e => absurd e h14, fun _ e => (by rw [hu] at e; cases e), fun _ _ e => absurd e hp, fun _ _ _ => ⟨rfl, ok1.worded.2⟩⟩⟩

theorem eSpec_run : ∀ (fs fs0 : List Fld) {E : ES} {r : List Int} {n : Nat}, ESpec fs0 E r → OkE E n → ∃ r', ESpec (fs0 ++ fs) (eRun fs E) r'
  | [], fs0, _, r, _, h, _ => ⟨r, by simpa [eRun] using h⟩
  | f :: fs, fs0, _, _, _, h, ok => by
    obtain ⟨r1, h1⟩ := h.step ok f
    obtain ⟨r2, h2⟩ := eSpec_run fs (fs0 ++ [f]) h1 (ok.step f.t.kind f.union)
    exact ⟨r2, by simpa [eRun] using h2⟩

theorem eSpec_all (fs : List Fld) : ∃ r, ESpec fs (eRun fs ES.start) r := by
  have := eSpec_run fs [] eSpec_start okE_start
  simpa using this

end Go.Proofs.Ygcfae
