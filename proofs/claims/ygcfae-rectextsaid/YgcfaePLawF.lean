import Derived.Test.YgcfaePLawE
import Derived.Laws.Bits64b
import Derived.Test.YgcfaeVal
namespace Go.Proofs.Ygcfae
open Go.RowKit

/-! What Check asks, as propositions; whatever the parser gives passes Check. -/

theorem dup_names {fs : List Fld} (h : ∀ i, i < fs.length → dupB fs i (fAt fs i) = false) : NamesD fs := by
  have one : ∀ i j, j < i → i < fs.length → (fAt fs j).name.toList ≠ (fAt fs i).name.toList := by
    intro i j hji hi he
    have := h i hi
    unfold dupB at this
    rw [List.any_eq_false] at this
    refine this fs[j] (List.mem_take_iff_getElem.2 ⟨j, by omega, rfl⟩) ?_
    rw [fAt_eq (by omega)] at he
    simpa using he
  intro i j hi hj hne he
  rcases Nat.lt_or_ge i j with h1 | h1
  · exact one j i h1 hj he
  · exact one i j (by omega) hi he.symm

theorem whole_sok {ss : List Str} {t : Str} (h : wholeB t ss.length = true) (hf : ∀ f ∈ t.fs, FldOK f) : SOK ss t := by
  unfold wholeB at h
  rw [Bool.and_eq_true] at h
  obtain ⟨h1, h2⟩ := h
  have hh : headBad t = false := by simpa using h1
  unfold headBad at hh
  simp only [Bool.or_eq_false_iff, decide_eq_false_iff_not] at hh
  split at h2
  · cases h2
  next r hr =>
  simp only [Bool.and_eq_true] at h2
  obtain ⟨⟨⟨h3, h4⟩, h5⟩, h6⟩ := h2
  have hrl := rLay_len hr
  unfold fieldsB at h6
  rw [List.all_eq_true] at h6
  have hfb : ∀ i (hi : i < t.fs.length), fieldB t.fs ss.length i (fAt t.fs i) (fAt r.fs i) = true := fun i hi => h6 i (List.mem_range.2 hi)
  have hx : ∀ i (hi : i < t.fs.length), fAt t.fs i = fAt r.fs i ∧ isNameB (fAt t.fs i).name.toList false = true ∧ soundB (fAt t.fs i).t ss.length (fAt t.fs i).union = true ∧ dfltOK (fAt t.fs i) = true ∧ dupB t.fs i (fAt t.fs i) = false := by
    intro i hi
    have := hfb i hi
    unfold fieldB at this
    simp only [Bool.and_eq_true, Bool.not_eq_true'] at this
    exact ⟨(fldEq_iff _ _).1 this.1.1.1.1, this.1.1.1.2, this.1.1.2, this.1.2, this.2⟩
  refine ⟨by simpa using hh.1.1, hh.1.2, ⟨r, hr, (plcEq_iff _ _).1 h3, by simpa using h4, by simpa using h5, ?_⟩, ?_, dup_names fun i hi => (hx i hi).2.2.2.2⟩
  · apply List.ext_getElem hrl
    intro i h1 h2
    have := (hx i h2).1
    rw [fAt_eq h2, fAt_eq h1] at this
    exact this.symm
  · intro f hfm
    obtain ⟨i, hi, rfl⟩ := List.mem_iff_getElem.1 hfm
    have := hx i hi
    rw [fAt_eq hi] at this
    exact ⟨hf _ hfm, this.2.1, this.2.2.1, this.2.2.2.1⟩

theorem sok_whole {ss : List Str} {t : Str} (h : SOK ss t) : wholeB t ss.length = true := by
  obtain ⟨r, hr, h1, h2, h3, h4⟩ := h.lay
  have hs := h.short
  have hh : headBad t = false := by
    unfold headBad
    rw [h.name, h.free]
    simp
    omega
  unfold wholeB
  rw [hh, hr]
  simp only [Bool.not_false, Bool.true_and, Bool.and_eq_true]
  refine ⟨⟨⟨(plcEq_iff _ _).2 h1, by simpa using h2⟩, by simpa using h3⟩, ?_⟩
  unfold fieldsB
  rw [List.all_eq_true]
  intro i hi
  have hi := List.mem_range.1 hi
  have hf := h.fok (fAt t.fs i) (by rw [fAt_eq hi]; exact List.getElem_mem _)
  show fieldB t.fs ss.length i (fAt t.fs i) (fAt r.fs i) = true
  unfold fieldB
  simp only [Bool.and_eq_true, Bool.not_eq_true']
  refine ⟨⟨⟨⟨(fldEq_iff _ _).2 (by rw [h4]), hf.name⟩, hf.sound⟩, hf.dflt⟩, ?_⟩
  unfold dupB
  rw [List.any_eq_false]
  intro g hg he
  obtain ⟨j, hj, rfl⟩ := List.mem_take_iff_getElem.1 hg
  have := h.names j i (by omega) hi (by omega)
  rw [fAt_eq (by omega)] at this
  exact this (by simpa using he)

theorem check_cok {ss : List Str} (h : checkB ss = true) (hf : ∀ t ∈ ss, ∀ f ∈ t.fs, FldOK f) : COK ss := by
  unfold checkB strsB at h
  rw [Bool.and_eq_true, List.all_eq_true] at h
  have hx : ∀ i (hi : i < ss.length), wholeB ss[i] ss.length = true ∧ ((ss.take i).any fun s => s.name.toList == ss[i].name.toList) = false := by
    intro i hi
    have := h.2 i (List.mem_range.2 hi)
    unfold strB at this
    simp only [Bool.and_eq_true, Bool.not_eq_true', List.getD_eq_getElem?_getD, List.getElem?_eq_getElem hi, Option.getD_some] at this
    exact this
  refine ⟨by simpa using h.1, ?_, ?_⟩
  · intro t ht
    obtain ⟨i, hi, rfl⟩ := List.mem_iff_getElem.1 ht
    exact whole_sok (hx i hi).1 (hf _ ht)
  · rw [List.pairwise_iff_getElem]
    intro i j hi hj hij he
    simp only [List.length_map] at hi hj
    simp only [List.getElem_map] at he
    have := (hx j hj).2
    rw [List.any_eq_false] at this
    exact this ss[i] (List.mem_take_iff_getElem.2 ⟨i, by omega, rfl⟩) (by simpa using he)

theorem cok_check {ss : List Str} (h : COK ss) : checkB ss = true := by
  unfold checkB strsB
  rw [Bool.and_eq_true, List.all_eq_true]
  refine ⟨by simpa using h.len, ?_⟩
  intro i hi
  have hi := List.mem_range.1 hi
  unfold strB
  simp only [Bool.and_eq_true, Bool.not_eq_true', List.getD_eq_getElem?_getD, List.getElem?_eq_getElem hi, Option.getD_some]
  refine ⟨sok_whole (h.strs _ (List.getElem_mem _)), ?_⟩
  rw [List.any_eq_false]
  intro s hs he
  obtain ⟨j, hj, rfl⟩ := List.mem_take_iff_getElem.1 hs
  have := List.pairwise_iff_getElem.1 h.names j i (by simp; omega) (by simpa using hi) (by omega)
  simp only [List.getElem_map] at this
  exact this (by simpa using he)

/-! the parser's fields -/

theorem kindFrom_some2 {s : Bs} : ∀ {n k0 k : Nat}, kindFrom s n k0 = some k → k0 ≤ k ∧ k < k0 + n ∧ kindNameB k = s ∧ s ≠ []
  | 0, _, _, h => by cases h
  | n + 1, k0, k, h => by
    unfold kindFrom at h
    split at h
    · next hc =>
      cases h
      simp only [Bool.and_eq_true, bne_iff_ne, beq_iff_eq] at hc
      exact ⟨by omega, by omega, hc.2, hc.1⟩
    · have := kindFrom_some2 h
      exact ⟨by omega, by omega, this.2.2⟩
theorem kindOf_range2 {s : Bs} {k : Nat} (h : kindOfB s = some k) : k ≤ 11 ∨ k = 14 := by
  obtain ⟨-, h1, h2, h3⟩ := kindFrom_some2 h
  rcases (show k ≤ 11 ∨ k = 12 ∨ k = 13 ∨ k = 14 by omega) with h | rfl | rfl | h
  · exact .inl h
  · exact absurd h2.symm h3
  · exact absurd h2.symm h3
  · exact .inr h


/-- a field as it has been read, nu uses so far -/
structure RF (nu : Nat) (f : Fld) : Prop where
  name : isNameB f.name.toList false = true
  d0 : 0 ≤ f.dflt
  d1 : f.dflt ≤ 18446744073709551615
  dflt : dfltOK f = true
  typ : (f.t.nest = 0 ∧ f.t.elem = 0 ∧ ((0 ≤ f.t.kind ∧ f.t.kind ≤ 11 ∧ f.t.ref = 0) ∨ (f.t.kind = 13 ∧ 0 ≤ f.t.ref ∧ f.t.ref < nu) ∨ (f.t.kind = 14 ∧ f.t.ref = 0 ∧ f.union = true))) ∨
    (f.t.kind = 12 ∧ (f.t.nest = 1 ∨ f.t.nest = 2) ∧ ((1 ≤ f.t.elem ∧ f.t.elem ≤ 11 ∧ f.t.ref = 0) ∨ (f.t.elem = 13 ∧ 0 ≤ f.t.ref ∧ f.t.ref < nu)))

theorem RF.mono {nu nv : Nat} {f : Fld} (h : RF nu f) (hn : nu ≤ nv) : RF nv f := ⟨h.name, h.d0, h.d1, h.dflt, by
  rcases h.typ with ⟨a, b, c⟩ | ⟨a, b, c⟩
  · refine .inl ⟨a, b, ?_⟩
    rcases c with c | c | c
    · exact .inl c
    · exact .inr (.inl ⟨c.1, c.2.1, by omega⟩)
    · exact .inr (.inr c)
  · refine .inr ⟨a, b, ?_⟩
    rcases c with c | c
    · exact .inl c
    · exact .inr ⟨c.1, c.2.1, by omega⟩⟩

theorem lists_le : ∀ {r n : Nat} {l l1 : Lx} {m : Nat}, n ≤ 2 → listsB r n l = some (m, l1) → m ≤ 2
  | 0, _, _, _, _, _, h => by cases h
  | r + 1, n, l, l1, m, hn, h => by
    unfold listsB at h
    split at h
    · split at h
      · cases h
      · split at h
        · cases h
        · exact lists_le (by omega) h
    · cases h; exact hn

theorem inner_use {l : Lx} {k : Nat} {us : List Bs} {l1 : Lx} (h : innerB l = some (k, us, l1)) : (k ≤ 11 ∨ k = 13 ∨ k = 14) ∧ (k = 13 → us.length = 1) := by
  unfold innerB at h
  split at h
  · next k' hk =>
    have := kindOf_range2 hk
    cases h
    exact ⟨by omega, by omega⟩
  · split at h
    · cases h
    · cases h; exact ⟨by omega, fun _ => rfl⟩

theorem typ_rf {u : Bool} {nu : Nat} {l l1 : Lx} {t : Typ} {us : List Bs} (h : typB u nu l = some (t, us, l1)) :
    (t.nest = 0 ∧ t.elem = 0 ∧ ((0 ≤ t.kind ∧ t.kind ≤ 11 ∧ t.ref = 0) ∨ (t.kind = 13 ∧ 0 ≤ t.ref ∧ t.ref < nu + us.length) ∨ (t.kind = 14 ∧ t.ref = 0 ∧ u = true))) ∨
    (t.kind = 12 ∧ (t.nest = 1 ∨ t.nest = 2) ∧ ((1 ≤ t.elem ∧ t.elem ≤ 11 ∧ t.ref = 0) ∨ (t.elem = 13 ∧ 0 ≤ t.ref ∧ t.ref < nu + us.length))) := by
  unfold typB at h
  split at h
  · cases h
  next n l2 hL =>
  have hn := lists_le (by omega) hL
  split at h
  · cases h
  next k us' l3 hI =>
  obtain ⟨hk, hu⟩ := inner_use hI
  split at h
  · cases h
  next hb =>
  split at h
  · cases h
  · cases h
    unfold mkTyp
    unfold badTyp at hb
    by_cases hn0 : 0 < n
    · rw [if_pos hn0]
      have hk0 : k ≠ 0 := by rintro rfl; simp [hn0] at hb
      have hk14 : k ≠ 14 := by rintro rfl; simp [hn0] at hb
      refine .inr ⟨rfl, ?_, ?_⟩
      · show (n : Int) = 1 ∨ (n : Int) = 2
        omega
      · show (1 ≤ (k : Int) ∧ (k : Int) ≤ 11 ∧ (if k = 13 then (nu : Int) else 0) = 0) ∨ ((k : Int) = 13 ∧ 0 ≤ (if k = 13 then (nu : Int) else 0) ∧ (if k = 13 then (nu : Int) else 0) < nu + us.length)
        by_cases h13 : k = 13
        · have := hu h13
          rw [if_pos h13]
          right; omega
        · rw [if_neg h13]
          left; omega
    · rw [if_neg hn0]
      refine .inl ⟨rfl, rfl, ?_⟩
      show (0 ≤ (k : Int) ∧ (k : Int) ≤ 11 ∧ (if k = 13 then (nu : Int) else 0) = 0) ∨ ((k : Int) = 13 ∧ 0 ≤ (if k = 13 then (nu : Int) else 0) ∧ (if k = 13 then (nu : Int) else 0) < nu + us.length) ∨ ((k : Int) = 14 ∧ (if k = 13 then (nu : Int) else 0) = 0 ∧ u = true)
      by_cases h13 : k = 13
      · have := hu h13
        rw [if_pos h13]
        right; left; omega
      · rw [if_neg h13]
        by_cases h14 : k = 14
        · right; right
          subst h14
          refine ⟨rfl, rfl, ?_⟩
          cases u with
          | true => rfl
          | false => simp at hb
        · left; omega

theorem and_le {x : Int} {m : Int} (h0 : 0 ≤ m) (h1 : m ≤ 18446744073709551615) : 0 ≤ bits BinOp.and IntKind.u64 (IntKind.u64.wrap x) m ∧ bits BinOp.and IntKind.u64 (IntKind.u64.wrap x) m ≤ m := by
  have hw : 0 ≤ IntKind.u64.wrap x ∧ IntKind.u64.wrap x < 18446744073709551616 := by
    have : IntKind.u64.wrap x = x % 18446744073709551616 := rfl
    rw [this]
    omega
  obtain ⟨a, ha⟩ : ∃ a : Nat, IntKind.u64.wrap x = (a : Int) := ⟨(IntKind.u64.wrap x).toNat, by omega⟩
  obtain ⟨b, hb⟩ : ∃ b : Nat, m = (b : Int) := ⟨m.toNat, by omega⟩
  rw [ha] at hw ⊢
  subst hb
  rw [bits_and_u64_nat a b (by omega) (by omega)]
  have := Nat.and_le_right (n := a) (m := b)
  exact ⟨by omega, by omega⟩

theorem val_fits {kind : Int} {neg : Bool} {s : Bs} {v : Int} (hw : wd kind ≠ 0) (h : valB kind neg s = some v) : 0 ≤ v ∧ v ≤ mostB kind := by
  have hm := mostB_fits hw
  rw [valB_eq] at h
  unfold valC at h
  split at h
  · next h1 =>
    simp only [Bool.and_eq_true, beq_iff_eq] at h1
    have hk := h1.1.1
    subst hk
    have : mostB 0 = 1 := by decide
    rw [this]
    cases h
    split <;> omega
  split at h
  · cases h
  split at h
  · cases h
  split at h
  · cases h
  split at h
  · split at h
    · cases h
      exact and_le hm.1 hm.2
    · cases h
  split at h
  · split at h
    · cases h; omega
    · cases h
  · split at h
    · cases h; omega
    · cases h

theorem def_fits {kind : Int} {l l1 : Lx} {v : Int} (h : defB kind l = some (v, l1)) : 0 ≤ v ∧ v ≤ 18446744073709551615 ∧ (decide (64 ≤ wd kind) || (v / 2 ^ (wd kind).toNat == 0)) = true := by
  unfold defB at h
  split at h
  · unfold valueB at h
    split at h
    · cases h
    next hw =>
    simp only at h
    split at h
    · cases h
    next v' hv =>
    cases h
    have h1 := val_fits hw hv
    have h2 := mostB_fits hw
    refine ⟨h1.1, by omega, ?_⟩
    rw [Bool.or_eq_true]
    right
    have h3 := h1.2
    unfold mostB at h3
    have : v / 2 ^ (wd kind).toNat = 0 := Int.ediv_eq_zero_of_lt h1.1 (by omega)
    simpa using this
  · cases h
    simp

/-- what has been read of a struct is sound -/
structure RdOK (r : Rd) : Prop where
  rf : ∀ f ∈ r.fs, RF r.us.length f
  names : (r.fs.map fun f => f.name.toList).Pairwise (· ≠ ·)
  len : r.ns.length = r.fs.length

theorem field_ok {u : Bool} {r q : Rd} (h : fieldP u r = some q) (hr : RdOK r) : RdOK q ∧ ∃ vs, q.us = r.us ++ vs := by
  unfold fieldP at h
  split at h
  · cases h
  next name l1 hN =>
  split at h
  · cases h
  next hdup =>
  split at h
  · cases h
  split at h
  · cases h
  split at h
  · cases h
  split at h
  · cases h
  split at h
  · cases h
  next t us l4 hT =>
  split at h
  · cases h
  next v l5 hD =>
  split at h
  · cases h
  · cases h
    have hnm : isNameB name false = true := by
      unfold nameB at hN
      split at hN
      · next h1 => cases hN; exact h1
      · cases hN
    have hd := def_fits hD
    refine ⟨⟨?_, ?_, by simp [hr.len]⟩, us, rfl⟩
    · intro f hf
      simp only [List.mem_append, List.mem_singleton] at hf
      rcases hf with hf | rfl
      · exact (hr.rf f hf).mono (by simp)
      · refine ⟨by rw [bsV_toList]; exact hnm, hd.1, hd.2.1, hd.2.2, ?_⟩
        have := typ_rf hT
        simp only [List.length_append, Int.natCast_add]
        exact this
    · simp only [List.map_append, List.map_cons, List.map_nil]
      rw [List.pairwise_append]
      refine ⟨hr.names, List.pairwise_singleton _ _, ?_⟩
      intro a ha b hb e
      rw [List.mem_singleton] at hb
      subst hb
      subst e
      obtain ⟨f, hf, he⟩ := List.mem_map.1 ha
      apply hdup
      rw [List.any_eq_true]
      exact ⟨f, hf, by rw [he, bsV_toList]; simp⟩

theorem fields_ok : ∀ {n : Nat} {r q : Rd}, fieldsP n r = some q → RdOK r → RdOK q ∧ ∃ vs, q.us = r.us ++ vs
  | 0, _, _, h, _ => by cases h
  | n + 1, r, q, h, hr => by
    rw [fieldsP_succ] at h
    split at h
    · cases h; exact ⟨hr, [], by simp⟩
    · split at h
      · cases h
      next r1 hF =>
      obtain ⟨h1, vs, h2⟩ := field_ok hF hr
      obtain ⟨h3, vs', h4⟩ := fields_ok h h1
      exact ⟨h3, vs ++ vs', by rw [h4, h2, List.append_assoc]⟩

theorem union_ok {r q : Rd} (h : unionP r = some q) (hr : RdOK r) : RdOK q ∧ ∃ vs, q.us = r.us ++ vs := by
  unfold unionP at h
  split at h
  · cases h
  split at h
  · cases h
  split at h
  · cases h
  next r2 hF =>
  cases h
  obtain ⟨h3, vs', h4⟩ := fields_ok hF ⟨hr.rf, hr.names, hr.len⟩
  exact ⟨⟨h3.rf, h3.names, h3.len⟩, vs', h4⟩

theorem members_ok : ∀ {n : Nat} {r q : Rd}, membersP n r = some q → RdOK r → RdOK q ∧ ∃ vs, q.us = r.us ++ vs
  | 0, _, _, h, _ => by cases h
  | n + 1, r, q, h, hr => by
    rw [membersP_succ] at h
    split at h
    · cases h; exact ⟨hr, [], by simp⟩
    · split at h
      · cases h
      next r1 hF =>
      have : RdOK r1 ∧ ∃ vs, r1.us = r.us ++ vs := by
        split at hF
        · exact union_ok hF hr
        · exact field_ok hF hr
      obtain ⟨h1, vs, h2⟩ := this
      obtain ⟨h3, vs', h4⟩ := members_ok h h1
      exact ⟨h3, vs ++ vs', by rw [h4, h2, List.append_assoc]⟩

end Go.Proofs.Ygcfae
