import Derived.Test.YgcfaePLawD
namespace Go.Proofs.Ygcfae
open Go.RowKit

/-! A printed schema is read back: the whole. -/

def UOK (ss : List Str) (us : List Bs) : Prop := ∀ u ∈ us, ∃ i, i < ss.length ∧ u = nameAt ss i

theorem uok_app {ss : List Str} {us vs : List Bs} (h : UOK ss us) (h' : UOK ss vs) : UOK ss (us ++ vs) := by
  intro u hu
  rw [List.mem_append] at hu
  rcases hu with hu | hu
  · exact h u hu
  · exact h' u hu

theorem named_ref {ss : List Str} {f : Fld} (h : FOK ss f) (hn : f.t.named = true) : 0 ≤ f.t.ref ∧ f.t.ref.toNat < ss.length := by
  have hc := sound_cases h.ok.t h.sound
  have h0 := h.ok.t.r0
  simp only [Typ.named, Bool.or_eq_true, Bool.and_eq_true, beq_iff_eq] at hn
  exact ⟨h0, by omega⟩

theorem readIx_uok {ss : List Str} {fs : List Fld} (hok : ∀ f ∈ fs, FOK ss f) : ∀ (is : List Nat) (r : Rd), (∀ i ∈ is, i < fs.length) → ∃ vs, (readIx ss fs is r).us = r.us ++ vs ∧ UOK ss vs
  | [], r, _ => ⟨[], by simp [readIx], by intro u hu; simp at hu⟩
  | i :: is, r, hi => by
    obtain ⟨vs, h1, h2⟩ := readIx_uok hok is ⟨r.fs ++ [preF r.us.length (fAt fs i)], r.ns ++ [i], r.us ++ useT ss (fAt fs i).t, r.l⟩ (fun j hj => hi j (List.mem_cons_of_mem _ hj))
    refine ⟨useT ss (fAt fs i).t ++ vs, by rw [readIx, h1]; simp, uok_app ?_ h2⟩
    have hil := hi i (List.mem_cons_self ..)
    have hf : FOK ss (fAt fs i) := by rw [fAt_eq hil]; exact hok _ (List.getElem_mem _)
    unfold useT
    split
    · next hn =>
      intro u hu
      rw [List.mem_singleton] at hu
      exact ⟨_, (named_ref hf hn).2, hu⟩
    · intro u hu; simp at hu

theorem order_lt {fs : List Fld} {i : Nat} (h : i ∈ order fs) : i < fs.length := by
  unfold order at h
  rw [List.mem_append] at h
  rcases h with h | h <;> exact (ixs_lt h).1

theorem strct_print2 {ss : List Str} (hss : NamesOK ss) {t : Str} (h : SOK ss t) (qs : List Str) (us : List Bs) (X : Bs) (h4 : qs.length < 4) (hdup : qs.any (fun q => q.name.toList == t.name.toList) = false) :
    ∃ q vs, strctP ⟨qs, us, lex (printT ss t ++ X)⟩ = some ⟨qs ++ [q], us ++ vs, lex X⟩ ∧ PreS ss (us ++ vs) t q ∧ UOK ss vs := by
  obtain ⟨q, vs, h1, h2⟩ := strct_print hss h qs us X h4 hdup
  obtain ⟨o, ho, hp⟩ := order_print h us (lex (125 :: 10 :: X))
  obtain ⟨vs', hvs, huok⟩ := readIx_uok h.fok (order t.fs) ⟨[], [], us, lex (125 :: 10 :: X)⟩ (fun i hi => order_lt hi)
  have hb := body_print hss h us (10 :: X)
  have e : strctP ⟨qs, us, lex (printT ss t ++ X)⟩ = some ⟨qs ++ [⟨t.name, o.fs, o.tag, o.data, o.ptrs⟩], us ++ vs', lex X⟩ := by
    have e : printT ss t ++ X = sStruct ++ (32 :: (t.name.toList ++ (32 :: 123 :: 10 :: (printFs ss [32, 32] false t.fs 0 ++ ((if t.tag.bits = 0 then [] else sUnionP ++ printFs ss [32, 32, 32, 32] true t.fs 0 ++ [32, 32, 125, 10]) ++ (125 :: 10 :: X)))))) := by
      simp [printT]
    rw [e]
    unfold strctP
    simp only [expect_word (w := sStruct) (r := 32 :: (t.name.toList ++ (32 :: 123 :: 10 :: (printFs ss [32, 32] false t.fs 0 ++ ((if t.tag.bits = 0 then [] else sUnionP ++ printFs ss [32, 32, 32, 32] true t.fs 0 ++ [32, 32, 125, 10]) ++ (125 :: 10 :: X)))))) (by decide) (by decide) rfl, lex_sp]
    simp only [name_word (s := t.name.toList) (r := 32 :: 123 :: 10 :: (printFs ss [32, 32] false t.fs 0 ++ ((if t.tag.bits = 0 then [] else sUnionP ++ printFs ss [32, 32, 32, 32] true t.fs 0 ++ [32, 32, 125, 10]) ++ (125 :: 10 :: X)))) h.name rfl, lex_sp]
    rw [if_neg (by omega), if_neg (by rw [h.free, hdup]; simp), expect_sign (by decide)]
    simp only [lex_nl, hb, ho]
    rw [expect_sign (by decide)]
    simp only [lex_nl, bsV_of, hvs]
  rw [hvs] at hp
  exact ⟨_, vs', e, hp, huok⟩

def PreSL (ss : List Str) (us : List Bs) : List Str → List Str → Prop
  | [], [] => True
  | t :: ts, q :: qs => PreS ss us t q ∧ PreSL ss us ts qs
  | [], _ :: _ => False
  | _ :: _, [] => False

theorem PreSL.mono {ss : List Str} {us : List Bs} (vs : List Bs) : ∀ {ts qs : List Str}, PreSL ss us ts qs → PreSL ss (us ++ vs) ts qs
  | [], [], _ => trivial
  | _ :: _, _ :: _, h => ⟨h.1.mono vs, PreSL.mono vs h.2⟩
  | [], _ :: _, h => h.elim
  | _ :: _, [], h => h.elim
theorem PreSL.len {ss : List Str} {us : List Bs} : ∀ {ts qs : List Str}, PreSL ss us ts qs → ts.length = qs.length
  | [], [], _ => rfl
  | _ :: _, _ :: _, h => by simp [PreSL.len h.2]
  | [], _ :: _, h => h.elim
  | _ :: _, [], h => h.elim
theorem PreSL.names {ss : List Str} {us : List Bs} : ∀ {ts qs : List Str}, PreSL ss us ts qs → qs.map (fun q => q.name.toList) = ts.map (fun q => q.name.toList)
  | [], [], _ => rfl
  | t :: ts, q :: qs, h => by simp [h.1.name, PreSL.names h.2]
  | [], _ :: _, h => h.elim
  | _ :: _, [], h => h.elim

theorem structsP_succ (n : Nat) (r : Rs) : structsP (n + 1) r = if r.l.tok == [] then some r else match strctP r with
    | none => none
    | some r1 => structsP n r1 := rfl

theorem tok_printT (ss : List Str) (t : Str) (X : Bs) : (lex (printT ss t ++ X)).tok = sStruct := by
  have e : printT ss t ++ X = sStruct ++ (32 :: (t.name.toList ++ ([32, 123, 10] ++ printFs ss [32, 32] false t.fs 0 ++ (if t.tag.bits = 0 then [] else sUnionP ++ printFs ss [32, 32, 32, 32] true t.fs 0 ++ [32, 32, 125, 10]) ++ [125, 10] ++ X))) := by
    simp [printT]
  rw [e, lex_word (by decide) (by decide) rfl]

theorem structs_print {ss : List Str} (hss : NamesOK ss) : ∀ (ts qs : List Str) (us : List Bs) (m : Nat), (∀ t ∈ ts, SOK ss t) → qs.length + ts.length ≤ 4 → (qs.map (fun q => q.name.toList) ++ ts.map (fun q => q.name.toList)).Pairwise (· ≠ ·) →
    ∃ qs' vs, structsP (ts.length + 1 + m) ⟨qs, us, lex (ts.flatMap (printT ss))⟩ = some ⟨qs ++ qs', us ++ vs, lex []⟩ ∧ PreSL ss (us ++ vs) ts qs' ∧ UOK ss vs
  | [], qs, us, m, _, _, _ => ⟨[], [], by rw [List.length_nil, show (0 : Nat) + 1 + m = m + 1 by omega, structsP_succ]; simp [lex, skip], trivial, by intro u hu; simp at hu⟩
  | t :: ts, qs, us, m, hok, hl, hpw => by
    simp only [List.length_cons] at hl
    have hdup : qs.any (fun q => q.name.toList == t.name.toList) = false := by
      rw [List.any_eq_false]
      intro q hq he
      have := (List.pairwise_append.1 hpw).2.2 q.name.toList (List.mem_map.2 ⟨q, hq, rfl⟩) t.name.toList (by simp)
      exact this (by simpa using he)
    obtain ⟨q, vs, h1, h2, h3⟩ := strct_print2 hss (hok t (List.mem_cons_self ..)) qs us (ts.flatMap (printT ss)) (by omega) hdup
    have hpw2 : ((qs ++ [q]).map (fun q => q.name.toList) ++ ts.map (fun q => q.name.toList)).Pairwise (· ≠ ·) := by
      simp only [List.map_append, List.map_cons, List.map_nil, List.append_assoc, List.cons_append, List.nil_append, h2.name]
      simpa using hpw
    obtain ⟨qs', vs', h4, h5, h6⟩ := structs_print hss ts (qs ++ [q]) (us ++ vs) m (fun x hx => hok x (List.mem_cons_of_mem _ hx)) (by simp; omega) hpw2
    refine ⟨q :: qs', vs ++ vs', ?_, ⟨by rw [← List.append_assoc]; exact h2.mono vs', by rw [← List.append_assoc]; exact h5⟩, uok_app h3 h6⟩
    rw [List.length_cons, show ts.length + 1 + 1 + m = (ts.length + 1 + m) + 1 by omega, List.flatMap_cons, structsP_succ, tok_printT, h1]
    simp only [h4]
    rw [if_neg (by decide)]
    simp

theorem find_name {ss qs : List Str} (hn : qs.map (fun q => q.name.toList) = ss.map (fun q => q.name.toList)) (hpw : (ss.map (fun q => q.name.toList)).Pairwise (· ≠ ·)) {i : Nat} (hi : i < ss.length) : refOf qs (nameAt ss i) = some i := by
  have hl : qs.length = ss.length := by simpa using congrArg List.length hn
  have hq : ∀ j (hj : j < qs.length), (qs[j]).name.toList = nameAt ss j := by
    intro j hj
    have := congrArg (fun l => l.getD j []) hn
    simpa [nameAt, hj, show j < ss.length by omega] using this
  have hs : ∀ j k, j < ss.length → k < ss.length → nameAt ss j = nameAt ss k → j = k := by
    intro j k hj hk he
    rcases Nat.lt_trichotomy j k with h | h | h
    · exfalso
      have := List.pairwise_iff_getElem.1 hpw j k (by simpa using hj) (by simpa using hk) h
      apply this
      simpa [nameAt, hj, hk] using he
    · exact h
    · exfalso
      have := List.pairwise_iff_getElem.1 hpw k j (by simpa using hk) (by simpa using hj) h
      apply this
      simpa [nameAt, hj, hk] using he.symm
  unfold refOf
  rw [List.findIdx?_eq_some_iff_getElem]
  refine ⟨by omega, by rw [hq i (by omega)]; simp, ?_⟩
  intro j hj
  rw [hq j (by omega)]
  intro he
  have := hs j i (by omega) hi (by simpa using he)
  omega

theorem bind_print {ss : List Str} (hpw : (ss.map (fun q => q.name.toList)).Pairwise (· ≠ ·)) (hok : ∀ t ∈ ss, SOK ss t) {qs : List Str} {us : List Bs} (hp : PreSL ss us ss qs) (hu : UOK ss us) : bindP qs us = some ss := by
  have hn := hp.names
  have hm : us.mapM (refOf qs) = some (us.map fun u => (refOf qs u).getD 0) := by
    refine mapM_some us fun u hu' => ?_
    obtain ⟨i, hi, rfl⟩ := hu u hu'
    rw [find_name hn hpw hi]; rfl
  unfold bindP
  rw [hm]
  simp only [Option.some.injEq]
  have key : ∀ (f g : Fld), FOK ss f → Pre ss us f g → bindF (us.map fun u => (refOf qs u).getD 0) { g with p := f.p } = f := by
    intro f g hf hpre
    have hnm : g.t.named = f.t.named := by unfold Typ.named; rw [hpre.kind, hpre.elem]
    obtain ⟨fn, ⟨fk, fe, fr, fne⟩, fp, fd, fu⟩ := f
    obtain ⟨gn, ⟨gk, ge, gr, gne⟩, gp, gd, gu⟩ := g
    have h1 := hpre.name
    have h2 := hpre.dflt
    have h3 := hpre.union
    have h4 := hpre.kind
    have h5 := hpre.elem
    have h6 := hpre.nest
    simp only at h1 h2 h3 h4 h5 h6
    subst h1 h2 h3 h4 h5 h6
    unfold bindF bindT
    simp only
    cases hb : (Typ.named ⟨gk, ge, fr, gne⟩) with
    | false =>
      have h7 := hpre.plain hb
      simp only at h7
      subst h7
      rw [if_neg (by rw [hb]; simp)]
    | true =>
      obtain ⟨n, h7, h8⟩ := hpre.ref hb
      simp only at h7
      subst h7
      obtain ⟨hr0, hrl⟩ := named_ref hf hb
      rw [if_pos (by rw [hnm]; exact hb)]
      simp only at hr0 hrl h8 ⊢
      have : ((us.map fun u => (refOf qs u).getD 0).getD n 0) = fr.toNat := by
        rw [List.getD_eq_getElem?_getD, List.getElem?_map, h8]
        simp only [Option.map_some, Option.getD_some]
        rw [find_name hn hpw hrl]; rfl
      rw [show ((n : Int)).toNat = n from rfl, this]
      congr 2
      omega
  have skey : ∀ (t q : Str), SOK ss t → PreS ss us t q → bindS (us.map fun u => (refOf qs u).getD 0) q = t := by
    intro t q ht hpre
    obtain ⟨tn, tf, tt, td, tp⟩ := t
    obtain ⟨qn, qf, qt, qd, qp⟩ := q
    have h1 := hpre.name
    have h2 := hpre.tag
    have h3 := hpre.data
    have h4 := hpre.ptrs
    simp only at h1 h2 h3 h4
    subst h1 h2 h3 h4
    unfold bindS
    simp only [Str.mk.injEq, true_and, and_true]
    have hl := hpre.len
    simp only at hl
    apply List.ext_getElem
    · simp [hl]
    · intro i h1 h2
      rw [List.getElem_map]
      obtain ⟨g, hg, he⟩ := hpre.fld i h2
      simp only at hg he
      rw [fAt_eq h2] at hg he
      rw [fAt_eq (by omega)] at he
      rw [he]
      exact key _ g (ht.fok _ (List.getElem_mem _)) hg
  have all : ∀ (ts qs' : List Str), (∀ t ∈ ts, SOK ss t) → PreSL ss us ts qs' → qs'.map (bindS (us.map fun u => (refOf qs u).getD 0)) = ts := by
    intro ts
    induction ts with
    | nil =>
      intro qs' _ h
      cases qs' with
      | nil => rfl
      | cons => exact h.elim
    | cons t ts ih =>
      intro qs' ht h
      cases qs' with
      | nil => exact h.elim
      | cons q qs' =>
        rw [List.map_cons, skey t q (ht t (List.mem_cons_self ..)) h.1, ih qs' (fun x hx => ht x (List.mem_cons_of_mem _ hx)) h.2]
  exact all ss qs hok hp

/-- what Check gives of a schema -/
structure COK (ss : List Str) : Prop where
  len : ss.length ≤ 4
  strs : ∀ t ∈ ss, SOK ss t
  names : (ss.map (fun q => q.name.toList)).Pairwise (· ≠ ·)

theorem parse_print {ss : List Str} (h : COK ss) (hl : (printS ss).length ≤ 4096) : parseP (printS ss) = some ss := by
  have hss : NamesOK ss := fun t ht => ⟨(h.strs t ht).name, (h.strs t ht).free⟩
  have hlen := h.len
  obtain ⟨qs, vs, h1, h2, h3⟩ := structs_print hss ss [] [] (5 - ss.length) h.strs (by simpa using h.len) (by simpa using h.names)
  rw [show ss.length + 1 + (5 - ss.length) = 6 by omega] at h1
  unfold parseP
  rw [if_neg (by omega)]
  unfold printS
  rw [h1]
  simp only [List.nil_append] at h2 ⊢
  exact bind_print h.names h.strs h2 h3
end Go.Proofs.Ygcfae
