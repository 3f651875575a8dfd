import Derived.Test.YgcfaePLawB
import Derived.Test.YgcfaeLaw
namespace Go.Proofs.Ygcfae
open Go.RowKit

/-! Layout depends on the kinds alone; the fields put in order. -/

/-- fields alike to the layout -/
def AlikeF (f g : Fld) : Prop := g.t.kind = f.t.kind ∧ g.union = f.union

theorem eRun_alike : ∀ (fs gs : List Fld) (st : ES), fs.length = gs.length → (∀ i (h : i < fs.length) (h' : i < gs.length), AlikeF fs[i] gs[i]) → eRun gs st = eRun fs st
  | [], [], _, _, _ => rfl
  | [], _ :: _, _, h, _ => by simp at h
  | _ :: _, [], _, h, _ => by simp at h
  | f :: fs, g :: gs, st, h, ha => by
    have h0 := ha 0 (by simp) (by simp)
    simp only [List.getElem_cons_zero] at h0
    unfold eRun
    rw [h0.1, h0.2]
    refine eRun_alike fs gs _ (by simpa using h) ?_
    intro i hi hi'
    have := ha (i + 1) (by simpa using hi) (by simpa using hi')
    simpa using this

theorem layF_alike {ps : List Plc} {f g : Fld} {i : Int} (h : AlikeF f g) : (layF ps g i).p = (layF ps f i).p := by
  unfold layF
  rw [h.1, h.2]

/-- what Layout gives of fields alike to others -/
theorem rLay_alike {fs gs : List Fld} {r : RL} (hl : fs.length = gs.length) (ha : ∀ i (h : i < fs.length) (h' : i < gs.length), AlikeF fs[i] gs[i]) (hr : rLay fs = some r) :
    ∃ q, rLay gs = some q ∧ q.tag = r.tag ∧ q.data = r.data ∧ q.ptrs = r.ptrs ∧ q.fs.length = gs.length ∧
      ∀ i (h : i < gs.length) (h1 : i < q.fs.length) (h2 : i < r.fs.length), q.fs[i] = { gs[i] with p := (r.fs[i]).p } := by
  have hrl := rLay_len hr
  unfold rLay at hr ⊢
  split at hr
  · cases hr
  next h16 =>
  rw [if_neg (show ¬ 16 < gs.length by omega)]
  split at hr
  · cases hr
  next h14 =>
  have h14' : ¬ gs.any (fun f => decide (14 < f.t.kind)) = true := by
    rw [List.any_eq_true] at h14 ⊢
    rintro ⟨g, hg, hk⟩
    apply h14
    obtain ⟨i, hi, rfl⟩ := List.mem_iff_getElem.1 hg
    exact ⟨fs[i]'(by omega), List.getElem_mem _, by rw [← (ha i (by omega) hi).1]; exact hk⟩
  rw [if_neg h14', eRun_alike fs gs ES.start hl ha]
  split at hr
  · cases hr
  next st hst =>
  cases hr
  have hix := (eRun_start fs).1.ix_len
  refine ⟨_, rfl, rfl, rfl, rfl, by simp only [List.length_zipWith]; omega, ?_⟩
  intro i hi h1 h2
  simp only [List.getElem_zipWith]
  have := layF_alike (ps := st.ps) (i := (eRun fs ES.start).ix[i]'(by omega)) (ha i (by omega) hi)
  rw [← this]
  rfl

theorem tag_step (st : ES) (k : Int) (u : Bool) : 0 ≤ (eStep st k u).tag ↔ 0 ≤ st.tag ∨ u = true := by
  have hp : ∀ (s : ES), (s.place k u).tag = s.tag := by
    intro s
    unfold ES.place ES.slotted ES.worded
    repeat' split
    all_goals rfl
  unfold eStep
  rw [hp]
  unfold ES.tagged
  split
  · next h =>
    simp only [Bool.and_eq_true, decide_eq_true_eq] at h
    simp only [h.1]
    constructor
    · intro _; exact .inr trivial
    · intro _; omega
  · next h =>
    simp only [Bool.and_eq_true, decide_eq_true_eq, not_and] at h
    constructor
    · exact .inl
    · rintro (h1 | h1)
      · exact h1
      · have := h h1; omega

theorem tag_run : ∀ (fs : List Fld) (st : ES), 0 ≤ (eRun fs st).tag ↔ 0 ≤ st.tag ∨ fs.any (fun f => f.union) = true
  | [], st => by simp [eRun]
  | f :: fs, st => by
    unfold eRun
    rw [tag_run fs, tag_step]
    simp only [List.any_cons, Bool.or_eq_true]
    constructor
    · rintro ((h | h) | h)
      · exact .inl h
      · exact .inr (.inl h)
      · exact .inr (.inr h)
    · rintro (h | h | h)
      · exact .inl (.inl h)
      · exact .inl (.inr h)
      · exact .inr h

/-- a struct has a tag just where it has a union -/
theorem tag_bits {fs : List Fld} {r : RL} (hr : rLay fs = some r) : r.tag.bits = 0 ↔ fs.any (fun f => f.union) = false := by
  have ht := tag_run fs ES.start
  have hs : ¬ (0 : Int) ≤ ES.start.tag := by decide
  unfold rLay at hr
  split at hr
  · cases hr
  split at hr
  · cases hr
  split at hr
  · cases hr
  next st hst =>
  cases hr
  obtain ⟨rr, hE⟩ := eSpec_all fs
  have hL := lSpec_lay hst
  by_cases h : 0 ≤ (eRun fs ES.start).tag
  · have hany : fs.any (fun f => f.union) = true := by
      rcases ht.1 h with h1 | h1
      · exact absurd h1 hs
      · exact h1
    obtain ⟨hro, hts⟩ := hE.tag h
    obtain ⟨p, hp, hpl⟩ := hL.at hts
    obtain ⟨q1, q2, q3, a, q4, q5⟩ := hpl.scal (by decide)
    rw [hany]
    simp only [placeOf_at h hp]
    rw [show wd 6 = 16 from rfl] at q1
    rw [q1]
    constructor
    · intro h; cases h
    · intro h; cases h
  · have hany : fs.any (fun f => f.union) = false := by
      cases hb : fs.any (fun f => f.union) with
      | false => rfl
      | true => exact absurd (ht.2 (.inr hb)) h
    have hz : placeOf st.ps (eRun fs ES.start).tag = Plc.zero := by unfold placeOf; rw [if_neg h]
    simp only [hz, hany]
    exact ⟨fun _ => trivial, fun _ => rfl⟩

/-- the fields put in the order of their numbers -/
theorem sort_print {ss : List Str} {us : List Bs} {fs : List Fld} (hnm : ∀ i, i < fs.length → (fAt fs i).name.toList ≠ []) : ∀ (gs : List Fld) (ns : List Nat) (acc : List Fld), PreL ss us fs gs ns → (∀ n ∈ ns, n < fs.length) → ns.Pairwise (· ≠ ·) →
    acc.length = fs.length → (∀ n ∈ ns, fAt acc n = Fld.zero) →
    ∃ out, sortP fs.length gs ns acc = some out ∧ out.length = fs.length ∧ (∀ n, n ∈ ns → Pre ss us (fAt fs n) (fAt out n)) ∧ (∀ n, n ∉ ns → fAt out n = fAt acc n)
  | [], [], acc, _, _, _, ha, _ => ⟨acc, rfl, ha, fun n hn => by simp at hn, fun _ _ => rfl⟩
  | [], _ :: _, _, h, _, _, _, _ => h.elim
  | _ :: _, [], _, h, _, _, _, _ => h.elim
  | g :: gs, n :: ns, acc, h, hlt, hpw, ha, hz => by
    rw [List.pairwise_cons] at hpw
    have hn := hlt n (List.mem_cons_self ..)
    have h0 := hz n (List.mem_cons_self ..)
    obtain ⟨out, h1, h2, h3, h4⟩ := sort_print hnm gs ns (acc.set n g) h.2 (fun m hm => hlt m (List.mem_cons_of_mem _ hm)) hpw.2 (by rw [List.length_set]; exact ha)
      (fun m hm => by
        have hne : n ≠ m := hpw.1 m hm
        have := hz m (List.mem_cons_of_mem _ hm)
        unfold fAt at this ⊢
        rw [List.getD_eq_getElem?_getD, List.getElem?_set_ne hne, ← List.getD_eq_getElem?_getD]; exact this)
    refine ⟨out, ?_, h2, ?_, ?_⟩
    · simp only [sortP]
      rw [if_neg (by omega), if_neg, h1]
      have : acc.getD n Fld.zero = Fld.zero := h0
      rw [this, show Fld.zero.name.toList = [] from ByteArray.toList_mk _]; decide
    · intro m hm
      by_cases hmn : m ∈ ns
      · exact h3 m hmn
      · have hmn' : m = n := by
          rcases List.mem_cons.1 hm with h | h
          · exact h
          · exact absurd h hmn
        subst hmn'
        rw [h4 m hmn]
        have : fAt (acc.set m g) m = g := by
          unfold fAt
          rw [List.getD_eq_getElem?_getD, List.getElem?_set_self (by omega)]; rfl
        rw [this]
        exact h.1
    · intro m hm
      rw [List.mem_cons, not_or] at hm
      rw [h4 m hm.2]
      unfold fAt
      rw [List.getD_eq_getElem?_getD, List.getElem?_set_ne (fun e => hm.1 e.symm), ← List.getD_eq_getElem?_getD]

theorem ixs_lt {u : Bool} {fs : List Fld} {i : Nat} (h : i ∈ ixs u fs) : i < fs.length ∧ (fAt fs i).union = u := by
  unfold ixs at h
  rw [List.mem_filter, List.mem_range] at h
  exact ⟨h.1, by simpa using h.2⟩
theorem ixs_pw (u : Bool) (fs : List Fld) : (ixs u fs).Pairwise (· ≠ ·) := List.Pairwise.filter _ (List.Pairwise.imp (fun h => by omega) List.pairwise_lt_range)
theorem ixs_mem {u : Bool} {fs : List Fld} {i : Nat} (h : i < fs.length) (hu : (fAt fs i).union = u) : i ∈ ixs u fs := by
  unfold ixs
  rw [List.mem_filter, List.mem_range]
  exact ⟨h, by simpa using hu⟩
theorem ixs_len (fs : List Fld) : (ixs false fs).length + (ixs true fs).length = fs.length := by
  have : ∀ l : List Nat, (l.filter fun i => (fAt fs i).union == false).length + (l.filter fun i => (fAt fs i).union == true).length = l.length := by
    intro l
    induction l with
    | nil => rfl
    | cons i l ih =>
      rw [List.filter_cons, List.filter_cons]
      cases (fAt fs i).union
      · rw [if_pos (by decide), if_neg (by decide), List.length_cons, List.length_cons]; omega
      · rw [if_neg (by decide), if_pos (by decide), List.length_cons, List.length_cons]; omega
  have h := this (List.range fs.length)
  rw [List.length_range] at h
  exact h

end Go.Proofs.Ygcfae
