import Derived.Test.YgcfaePLawC
namespace Go.Proofs.Ygcfae
open Go.RowKit

/-! A printed schema is read back. -/

/-- what Check gives of a struct -/
structure SOK (ss : List Str) (t : Str) : Prop where
  name : isNameB t.name.toList true = true
  free : builtInB t.name.toList = false
  lay : ∃ r, rLay t.fs = some r ∧ r.tag = t.tag ∧ (r.data : Int) = t.data ∧ (r.ptrs : Int) = t.ptrs ∧ r.fs = t.fs
  fok : ∀ f ∈ t.fs, FOK ss f
  names : NamesD t.fs

theorem SOK.short {ss : List Str} {t : Str} (h : SOK ss t) : t.fs.length ≤ 16 := by
  obtain ⟨r, hr, -⟩ := h.lay
  exact rLay_short hr

theorem ixs_any {fs : List Fld} : fs.any (fun f => f.union) = false ↔ ixs true fs = [] := by
  constructor
  · intro h
    rw [List.eq_nil_iff_forall_not_mem]
    intro i hi
    obtain ⟨h1, h2⟩ := ixs_lt hi
    rw [fAt_eq h1] at h2
    rw [List.any_eq_false] at h
    exact h _ (List.getElem_mem h1) h2
  · intro h
    rw [List.any_eq_false]
    intro f hf hu
    obtain ⟨i, hi, rfl⟩ := List.mem_iff_getElem.1 hf
    have : i ∈ ixs true fs := ixs_mem hi (by rw [fAt_eq hi]; exact hu)
    rw [h] at this
    simp at this

theorem readIx_union (ss : List Str) (fs : List Fld) : ∀ (is : List Nat) (r : Rd), (∀ i ∈ is, (fAt fs i).union = false) → r.fs.any (fun f => f.union) = false → (readIx ss fs is r).fs.any (fun f => f.union) = false
  | [], _, _, h => h
  | i :: is, r, hi, h => by
    refine readIx_union ss fs is _ (fun j hj => hi j (List.mem_cons_of_mem _ hj)) ?_
    rw [List.any_append, h]
    simp [preF, hi i (List.mem_cons_self ..)]

theorem readIx_l (ss : List Str) (fs : List Fld) : ∀ (is : List Nat) (r : Rd), (readIx ss fs is r).l = r.l
  | [], _ => rfl
  | i :: is, r => by rw [readIx, readIx_l ss fs is]

theorem readIx_app (ss : List Str) (fs : List Fld) : ∀ (is js : List Nat) (r : Rd), readIx ss fs (is ++ js) r = readIx ss fs js (readIx ss fs is r)
  | [], _, _ => rfl
  | i :: is, js, r => by rw [List.cons_append, readIx, readIx_app ss fs is js, readIx]

theorem readIx_at (ss : List Str) (fs : List Fld) : ∀ (is : List Nat) (r : Rd) (l : Lx), readIx ss fs is { r with l := l } = { readIx ss fs is r with l := l }
  | [], _, _ => rfl
  | i :: is, r, l => readIx_at ss fs is ⟨r.fs ++ [preF r.us.length (fAt fs i)], r.ns ++ [i], r.us ++ useT ss (fAt fs i).t, r.l⟩ l

/-- the indices in the order of their print -/
def order (fs : List Fld) : List Nat := ixs false fs ++ ixs true fs

/-- the members of a printed struct -/
theorem body_print {ss : List Str} (hss : NamesOK ss) {t : Str} (h : SOK ss t) (us : List Bs) (X : Bs) :
    membersP 17 ⟨[], [], us, lex (printFs ss [32, 32] false t.fs 0 ++ ((if t.tag.bits = 0 then [] else sUnionP ++ printFs ss [32, 32, 32, 32] true t.fs 0 ++ [32, 32, 125, 10]) ++ (125 :: X)))⟩ =
      some { readIx ss t.fs (order t.fs) ⟨[], [], us, lex (125 :: X)⟩ with l := lex (125 :: X) } := by
  have h16 := h.short
  have hln := ixs_len t.fs
  obtain ⟨r, hr, htag, -⟩ := h.lay
  have htb := tag_bits hr
  rw [htag] at htb
  have hm := members_print hss h.fok h16 h.names (ixs false t.fs) ⟨[], [], us, lex (125 :: X)⟩ (17 - (ixs false t.fs).length)
    ((if t.tag.bits = 0 then [] else sUnionP ++ printFs ss [32, 32, 32, 32] true t.fs 0 ++ [32, 32, 125, 10]) ++ (125 :: X)) trivial (fun n hn => by simp at hn)
    (fun i hi => ⟨(ixs_lt hi).1, (ixs_lt hi).2, by simp⟩) (ixs_pw _ _) (by simp; omega)
  rw [show (ixs false t.fs).length + (17 - (ixs false t.fs).length) = 17 by omega] at hm
  rw [printFs_ix, hm]
  have hns := readIx_ns ss t.fs (ixs false t.fs) ⟨[], [], us, lex (125 :: X)⟩
  have hpre := readIx_pre ss t.fs (ixs false t.fs) ⟨[], [], us, lex (125 :: X)⟩ trivial
  have hun := readIx_union ss t.fs (ixs false t.fs) ⟨[], [], us, lex (125 :: X)⟩ (fun i hi => (ixs_lt hi).2) rfl
  by_cases hb : t.tag.bits = 0
  · have hnil := ixs_any.1 (htb.1 hb)
    rw [if_pos hb, List.nil_append, show 17 - (ixs false t.fs).length = (16 - (ixs false t.fs).length) + 1 by omega, membersP_succ, lex_sign (by decide)]
    simp [order, hnil]
  · have hne : ixs true t.fs ≠ [] := fun e => hb (htb.2 (ixs_any.2 e))
    have hpos : 0 < (ixs true t.fs).length := List.length_pos_iff.2 hne
    rw [if_neg hb, show 17 - (ixs false t.fs).length = (15 - (ixs false t.fs).length) + 1 + 1 by omega, membersP_succ]
    rw [order, readIx_app]
    generalize readIx ss t.fs (ixs false t.fs) ⟨[], [], us, lex (125 :: X)⟩ = r1 at *
    simp only [List.nil_append] at hns
    have e1 : sUnionP ++ printFs ss [32, 32, 32, 32] true t.fs 0 ++ [32, 32, 125, 10] ++ 125 :: X = 32 :: 32 :: (sUnion ++ (32 :: 123 :: 10 :: (printFs ss [32, 32, 32, 32] true t.fs 0 ++ (32 :: 32 :: 125 :: 10 :: 125 :: X)))) := by
      simp [sUnionP, sUnion]
    rw [e1, lex_sp, lex_sp, lex_word (by decide) (by decide) (by rfl)]
    have e2 : (sUnion == [125]) = false := by decide
    simp only [e2, Bool.false_eq_true, if_false]
    rw [if_pos (by decide)]
    have hf := fields_print hss h.fok h16 h.names (ixs true t.fs) r1 (17 - (ixs true t.fs).length) (32 :: 32 :: 125 :: 10 :: 125 :: X) hpre
      (fun n hn => by rw [hns] at hn; exact (ixs_lt hn).1)
      (fun i hi => ⟨(ixs_lt hi).1, (ixs_lt hi).2, by rw [hns]; intro h2; have := (ixs_lt hi).2; rw [(ixs_lt h2).2] at this; cases this⟩) (ixs_pw _ _) (by rw [hns]; omega)
    have hR : ∀ q : Rd, fieldsP (17 - (ixs true t.fs).length) ⟨q.fs, q.ns, q.us, lex (32 :: 32 :: 125 :: 10 :: 125 :: X)⟩ = some ⟨q.fs, q.ns, q.us, ⟨[125], 10 :: 125 :: X⟩⟩ := by
      intro q
      rw [show 17 - (ixs true t.fs).length = (16 - (ixs true t.fs).length) + 1 by omega, fieldsP_succ, lex_sp, lex_sp, lex_sign (by decide)]
      simp
    rw [show (ixs true t.fs).length + (17 - (ixs true t.fs).length) = 17 by omega, hR] at hf
    -- the first token of the union's fields
    have htok : (lex (printIx ss [32, 32, 32, 32] t.fs (ixs true t.fs) ++ (32 :: 32 :: 125 :: 10 :: 125 :: X))).tok ≠ [125] := by
      cases hi : ixs true t.fs with
      | nil => exact absurd hi hne
      | cons i is =>
        have hil := (ixs_lt (u := true) (fs := t.fs) (i := i) (by rw [hi]; exact List.mem_cons_self ..)).1
        have hfo : FOK ss (fAt t.fs i) := by rw [fAt_eq hil]; exact h.fok _ (List.getElem_mem _)
        have e : printIx ss [32, 32, 32, 32] t.fs (i :: is) ++ (32 :: 32 :: 125 :: 10 :: 125 :: X) = 32 :: 32 :: 32 :: 32 :: (printF ss (fAt t.fs i) i ++ (printIx ss [32, 32, 32, 32] t.fs is ++ (32 :: 32 :: 125 :: 10 :: 125 :: X))) := by simp [printIx]
        rw [e, lex_sp, lex_sp, lex_sp, lex_sp, tok_printF hfo]
        have := (name_not hfo.name).1
        simpa using this
    have hU : unionP ⟨r1.fs, r1.ns, r1.us, ⟨sUnion, 32 :: 123 :: 10 :: (printFs ss [32, 32, 32, 32] true t.fs 0 ++ (32 :: 32 :: 125 :: 10 :: 125 :: X))⟩⟩ =
        some { readIx ss t.fs (ixs true t.fs) r1 with l := lex (125 :: X) } := by
      unfold unionP
      simp only [nx]
      rw [lex_sp, expect_sign (by decide)]
      simp only [lex_nl]
      rw [printFs_ix, if_neg (by simp [htok, hun]), hf]
      simp [Rd.go, nx, lex_nl]
    rw [hU]
    simp only
    rw [membersP_succ, if_pos (by rw [lex_sign (by decide)]; rfl)]

theorem brk_sp (X : Bs) : brk (32 :: X) = true := rfl

theorem mapM_some {α β : Type} {f : α → Option β} {g : α → β} : ∀ (l : List α), (∀ x ∈ l, f x = some (g x)) → l.mapM f = some (l.map g)
  | [], _ => rfl
  | x :: xs, h => by
    rw [List.mapM_cons, h x (List.mem_cons_self ..), mapM_some xs (fun y hy => h y (List.mem_cons_of_mem _ hy))]
    rfl

/-- a struct as it is read: its fields' references the numbers of their uses -/
structure PreS (ss : List Str) (us : List Bs) (t q : Str) : Prop where
  name : q.name = t.name
  tag : q.tag = t.tag
  data : q.data = t.data
  ptrs : q.ptrs = t.ptrs
  len : q.fs.length = t.fs.length
  fld : ∀ i, i < t.fs.length → ∃ g, Pre ss us (fAt t.fs i) g ∧ fAt q.fs i = { g with p := (fAt t.fs i).p }

theorem PreS.mono {ss : List Str} {us : List Bs} {t q : Str} (h : PreS ss us t q) (vs : List Bs) : PreS ss (us ++ vs) t q :=
  ⟨h.name, h.tag, h.data, h.ptrs, h.len, fun i hi => by
    obtain ⟨g, h1, h2⟩ := h.fld i hi
    exact ⟨g, h1.mono vs, h2⟩⟩

/-- the fields read, put in order and laid out -/
theorem order_print {ss : List Str} {t : Str} (h : SOK ss t) (us : List Bs) (l : Lx) :
    ∃ o, orderP (readIx ss t.fs (order t.fs) ⟨[], [], us, l⟩).fs (readIx ss t.fs (order t.fs) ⟨[], [], us, l⟩).ns = some o ∧
      PreS ss (readIx ss t.fs (order t.fs) ⟨[], [], us, l⟩).us t ⟨t.name, o.fs, o.tag, o.data, o.ptrs⟩ := by
  have hns := readIx_ns ss t.fs (order t.fs) ⟨[], [], us, l⟩
  have hpre := readIx_pre ss t.fs (order t.fs) ⟨[], [], us, l⟩ trivial
  generalize readIx ss t.fs (order t.fs) ⟨[], [], us, l⟩ = r at *
  simp only [List.nil_append] at hns
  have hln := ixs_len t.fs
  have hlen : r.fs.length = t.fs.length := by rw [hpre.len, hns, order, List.length_append]; exact hln
  have hnm : ∀ i, i < t.fs.length → (fAt t.fs i).name.toList ≠ [] := fun i hi => by
    rw [fAt_eq hi]
    exact (isName_word (h.fok _ (List.getElem_mem _)).name).1
  have hmem : ∀ n, n < t.fs.length → n ∈ r.ns := fun n hn => by
    rw [hns, order, List.mem_append]
    cases hu : (fAt t.fs n).union with
    | false => exact .inl (ixs_mem hn hu)
    | true => exact .inr (ixs_mem hn hu)
  have hpw : r.ns.Pairwise (· ≠ ·) := by
    rw [hns, order, List.pairwise_append]
    refine ⟨ixs_pw _ _, ixs_pw _ _, ?_⟩
    intro a ha b hb e
    subst e
    have h1 := (ixs_lt ha).2
    rw [(ixs_lt hb).2] at h1
    cases h1
  obtain ⟨out, h1, h2, h3, -⟩ := sort_print hnm r.fs r.ns (List.replicate t.fs.length Fld.zero) hpre
    (fun n hn => by rw [hns, order, List.mem_append] at hn; rcases hn with hn | hn <;> exact (ixs_lt hn).1) hpw (by simp)
    (fun n hn => by
      unfold fAt
      rw [List.getD_eq_getElem?_getD, List.getElem?_replicate]
      split <;> rfl)
  obtain ⟨q, hq, q1, q2, q3, q4⟩ := h.lay
  obtain ⟨o, ho, o1, o2, o3, o4, o5⟩ := rLay_alike (fs := t.fs) (gs := out) h2.symm (fun i hi hi' => by
    have := h3 i (hmem i hi)
    rw [fAt_eq hi, fAt_eq hi'] at this
    exact ⟨this.kind, this.union⟩) hq
  refine ⟨o, ?_, rfl, by rw [← q1]; exact o1, by rw [← q2]; exact congrArg _ o2, by rw [← q3]; exact congrArg _ o3, by rw [← h2]; exact o4, ?_⟩
  · unfold orderP
    rw [hlen, h1]
    exact ho
  · intro i hi
    refine ⟨fAt out i, h3 i (hmem i hi), ?_⟩
    have hi2 : i < out.length := by omega
    have hi3 : i < o.fs.length := by omega
    have hi4 : i < q.fs.length := by rw [q4]; exact hi
    have := o5 i hi2 hi3 hi4
    rw [fAt_eq hi3, fAt_eq hi2, this]
    congr 1
    rw [fAt_eq hi]
    simp only [q4]

theorem strct_print {ss : List Str} (hss : NamesOK ss) {t : Str} (h : SOK ss t) (qs : List Str) (us : List Bs) (X : Bs) (h4 : qs.length < 4) (hdup : qs.any (fun q => q.name.toList == t.name.toList) = false) :
    ∃ q vs, strctP ⟨qs, us, lex (printT ss t ++ X)⟩ = some ⟨qs ++ [q], us ++ vs, lex X⟩ ∧ PreS ss (us ++ vs) t q := by
  obtain ⟨o, ho, hp⟩ := order_print h us (lex (125 :: 10 :: X))
  obtain ⟨vs, hvs⟩ := readIx_us ss t.fs (order t.fs) ⟨[], [], us, lex (125 :: 10 :: X)⟩
  refine ⟨⟨t.name, o.fs, o.tag, o.data, o.ptrs⟩, vs, ?_, by rw [← hvs]; exact hp⟩
  have hb := body_print hss h us (10 :: X)
  have e : printT ss t ++ X = sStruct ++ (32 :: (t.name.toList ++ (32 :: 123 :: 10 :: (printFs ss [32, 32] false t.fs 0 ++ ((if t.tag.bits = 0 then [] else sUnionP ++ printFs ss [32, 32, 32, 32] true t.fs 0 ++ [32, 32, 125, 10]) ++ (125 :: 10 :: X)))))) := by
    simp [printT]
  rw [e]
  unfold strctP
  simp only [expect_word (w := sStruct) (r := 32 :: (t.name.toList ++ (32 :: 123 :: 10 :: (printFs ss [32, 32] false t.fs 0 ++ ((if t.tag.bits = 0 then [] else sUnionP ++ printFs ss [32, 32, 32, 32] true t.fs 0 ++ [32, 32, 125, 10]) ++ (125 :: 10 :: X)))))) (by decide) (by decide) rfl, lex_sp]
  simp only [name_word (s := t.name.toList) (r := 32 :: 123 :: 10 :: (printFs ss [32, 32] false t.fs 0 ++ ((if t.tag.bits = 0 then [] else sUnionP ++ printFs ss [32, 32, 32, 32] true t.fs 0 ++ [32, 32, 125, 10]) ++ (125 :: 10 :: X)))) h.name rfl, lex_sp]
  rw [if_neg (by omega), if_neg (by rw [h.free, hdup]; simp), expect_sign (by decide)]
  simp only [lex_nl, hb, ho]
  rw [expect_sign (by decide)]
  simp only [lex_nl, bsV_of, hvs]
end Go.Proofs.Ygcfae
