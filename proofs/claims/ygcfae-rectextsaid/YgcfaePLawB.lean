import Derived.Test.YgcfaePLaw
namespace Go.Proofs.Ygcfae
open Go.RowKit

/-! What the parser makes of the printed fields of a struct. -/

def fAt (fs : List Fld) (i : Nat) : Fld := fs.getD i Fld.zero
theorem fAt_eq {fs : List Fld} {i : Nat} (h : i < fs.length) : fAt fs i = fs[i] := by simp [fAt, h]

/-- the indices of the fields in (u) or not in the union -/
def ixs (u : Bool) (fs : List Fld) : List Nat := (List.range fs.length).filter fun i => (fAt fs i).union == u

def printIx (ss : List Str) (ind : Bs) (fs : List Fld) (is : List Nat) : Bs := is.flatMap fun i => ind ++ printF ss (fAt fs i) i

theorem printFs_gen (ss : List Str) (ind : Bs) (u : Bool) : ∀ (gs pre : List Fld), printFs ss ind u gs pre.length = printIx ss ind (pre ++ gs) ((List.range' pre.length gs.length).filter fun i => (fAt (pre ++ gs) i).union == u)
  | [], pre => by simp [printFs, printIx]
  | f :: gs, pre => by
    have ih := printFs_gen ss ind u gs (pre ++ [f])
    simp only [List.length_append, List.length_cons, List.length_nil, List.append_assoc, List.cons_append, List.nil_append, Nat.zero_add] at ih
    have hf : fAt (pre ++ f :: gs) pre.length = f := by simp [fAt]
    unfold printFs
    rw [ih, List.length_cons, List.range'_succ, List.filter_cons, hf]
    by_cases hu : f.union = u
    · have hb : (f.union == u) = true := by simpa using hu
      rw [if_pos hu, if_pos hb]
      simp [printIx, hf]
    · have hb : ¬ (f.union == u) = true := by simpa using hu
      rw [if_neg hu, if_neg hb]
      simp [printIx]

theorem printFs_ix (ss : List Str) (ind : Bs) (u : Bool) (fs : List Fld) : printFs ss ind u fs 0 = printIx ss ind fs (ixs u fs) := by
  have := printFs_gen ss ind u fs []
  simpa [ixs, List.range_eq_range'] using this

/-- what Check gives of a field -/
structure FOK (ss : List Str) (f : Fld) : Prop where
  ok : FldOK f
  name : isNameB f.name.toList false = true
  sound : soundB f.t ss.length f.union = true
  dflt : dfltOK f = true

/-- a field as it is read, its reference the number of its use -/
structure Pre (ss : List Str) (us : List Bs) (f g : Fld) : Prop where
  name : g.name = f.name
  p : g.p = Plc.zero
  dflt : g.dflt = f.dflt
  union : g.union = f.union
  kind : g.t.kind = f.t.kind
  elem : g.t.elem = f.t.elem
  nest : g.t.nest = f.t.nest
  plain : f.t.named = false → g.t.ref = f.t.ref
  ref : f.t.named = true → ∃ n : Nat, g.t.ref = n ∧ us[n]? = some (nameAt ss f.t.ref.toNat)

theorem Pre.mono {ss : List Str} {us : List Bs} {f g : Fld} (h : Pre ss us f g) (vs : List Bs) : Pre ss (us ++ vs) f g :=
  ⟨h.name, h.p, h.dflt, h.union, h.kind, h.elem, h.nest, h.plain, fun hn => by
    obtain ⟨n, h1, h2⟩ := h.ref hn
    exact ⟨n, h1, by rw [List.getElem?_append_left (List.getElem?_eq_some_iff.1 h2).1]; exact h2⟩⟩

theorem pre_preF (ss : List Str) (us : List Bs) (f : Fld) : Pre ss (us ++ useT ss f.t) f (preF us.length f) := by
  unfold preF preT useT
  cases h : f.t.named with
  | false => exact ⟨rfl, rfl, rfl, rfl, rfl, rfl, rfl, fun _ => rfl, fun h => by simp_all⟩
  | true => exact ⟨rfl, rfl, rfl, rfl, rfl, rfl, rfl, fun h => by simp_all, fun _ => ⟨us.length, rfl, by simp⟩⟩

def PreL (ss : List Str) (us : List Bs) (fs : List Fld) : List Fld → List Nat → Prop
  | [], [] => True
  | g :: gs, n :: ns => Pre ss us (fAt fs n) g ∧ PreL ss us fs gs ns
  | [], _ :: _ => False
  | _ :: _, [] => False

theorem PreL.mono {ss : List Str} {us : List Bs} {fs : List Fld} (vs : List Bs) : ∀ {gs : List Fld} {ns : List Nat}, PreL ss us fs gs ns → PreL ss (us ++ vs) fs gs ns
  | [], [], _ => trivial
  | _ :: _, _ :: _, h => ⟨h.1.mono vs, PreL.mono vs h.2⟩
  | [], _ :: _, h => h.elim
  | _ :: _, [], h => h.elim
theorem PreL.snoc {ss : List Str} {us : List Bs} {fs : List Fld} {g : Fld} {n : Nat} (hg : Pre ss us (fAt fs n) g) : ∀ {gs : List Fld} {ns : List Nat}, PreL ss us fs gs ns → PreL ss us fs (gs ++ [g]) (ns ++ [n])
  | [], [], _ => ⟨hg, trivial⟩
  | _ :: _, _ :: _, h => ⟨h.1, PreL.snoc hg h.2⟩
  | [], _ :: _, h => h.elim
  | _ :: _, [], h => h.elim
theorem PreL.len {ss : List Str} {us : List Bs} {fs : List Fld} : ∀ {gs : List Fld} {ns : List Nat}, PreL ss us fs gs ns → gs.length = ns.length
  | [], [], _ => rfl
  | _ :: _, _ :: _, h => by simp [PreL.len h.2]
  | [], _ :: _, h => h.elim
  | _ :: _, [], h => h.elim
theorem PreL.names {ss : List Str} {us : List Bs} {fs : List Fld} {s : Bs} : ∀ {gs : List Fld} {ns : List Nat}, PreL ss us fs gs ns → (∀ n ∈ ns, (fAt fs n).name.toList ≠ s) → gs.any (fun g => g.name.toList == s) = false
  | [], [], _, _ => rfl
  | g :: gs, n :: ns, h, hn => by
    rw [List.any_cons, PreL.names h.2 (fun m hm => hn m (List.mem_cons_of_mem _ hm)), Bool.or_false, h.1.name]
    simpa using hn n (List.mem_cons_self ..)
  | [], _ :: _, h, _ => h.elim
  | _ :: _, [], h, _ => h.elim

/-- the fields of these indices read -/
def readIx (ss : List Str) (fs : List Fld) : List Nat → Rd → Rd
  | [], r => r
  | i :: is, r => readIx ss fs is ⟨r.fs ++ [preF r.us.length (fAt fs i)], r.ns ++ [i], r.us ++ useT ss (fAt fs i).t, r.l⟩

theorem readIx_ns (ss : List Str) (fs : List Fld) : ∀ (is : List Nat) (r : Rd), (readIx ss fs is r).ns = r.ns ++ is
  | [], r => by simp [readIx]
  | i :: is, r => by rw [readIx, readIx_ns ss fs is]; simp
theorem readIx_pre (ss : List Str) (fs : List Fld) : ∀ (is : List Nat) (r : Rd), PreL ss r.us fs r.fs r.ns → PreL ss (readIx ss fs is r).us fs (readIx ss fs is r).fs (readIx ss fs is r).ns
  | [], _, h => h
  | i :: is, r, h => readIx_pre ss fs is _ (PreL.snoc (pre_preF ss r.us (fAt fs i)) (PreL.mono _ h))
theorem readIx_us (ss : List Str) (fs : List Fld) : ∀ (is : List Nat) (r : Rd), ∃ vs, (readIx ss fs is r).us = r.us ++ vs
  | [], r => ⟨[], by simp [readIx]⟩
  | i :: is, r => by
    obtain ⟨vs, h⟩ := readIx_us ss fs is ⟨r.fs ++ [preF r.us.length (fAt fs i)], r.ns ++ [i], r.us ++ useT ss (fAt fs i).t, r.l⟩
    exact ⟨useT ss (fAt fs i).t ++ vs, by rw [readIx, h]; simp⟩

/-- no two fields of one name -/
def NamesD (fs : List Fld) : Prop := ∀ i j, i < fs.length → j < fs.length → i ≠ j → (fAt fs i).name.toList ≠ (fAt fs j).name.toList

theorem tok_printF {ss : List Str} {f : Fld} (h : FOK ss f) (i : Nat) (X : Bs) : (lex (printF ss f i ++ X)).tok = f.name.toList := by
  have e : printF ss f i ++ X = f.name.toList ++ (32 :: 64 :: (printI i ++ (32 :: 58 :: (rep f.t.nest.toNat sListP ++ (printK ss f.t ++ (rep f.t.nest.toNat [41] ++ (printD f.dflt ++ ([59, 10] ++ X)))))))) := by simp [printF]
  have hw := isName_word h.name
  rw [e, lex_word hw.1 hw.2.1 rfl]

theorem name_not {s : Bs} (h : isNameB s false = true) : (s == [125]) = false ∧ (s == sUnion) = false ∧ (s == [123]) = false := by
  have hw := isName_word h
  refine ⟨?_, by simpa using hw.2.2, ?_⟩
  · cases hs : (s == [125]) with
    | false => rfl
    | true => have := eq_of_beq hs; subst this; exact absurd hw.2.1 (by decide)
  · cases hs : (s == [123]) with
    | false => rfl
    | true => have := eq_of_beq hs; subst this; exact absurd hw.2.1 (by decide)

theorem membersP_succ (n : Nat) (r : Rd) : membersP (n + 1) r = if r.l.tok == [125] then some r else match (if r.l.tok == sUnion then unionP r else fieldP false r) with
    | none => none
    | some r1 => membersP n r1 := rfl
theorem fieldsP_succ (n : Nat) (r : Rd) : fieldsP (n + 1) r = if r.l.tok == [125] then some r else match fieldP true r with
    | none => none
    | some r1 => fieldsP n r1 := rfl

/-- one printed field read -/
theorem one_print {ss : List Str} (hss : NamesOK ss) {fs : List Fld} (hok : ∀ f ∈ fs, FOK ss f) (h16 : fs.length ≤ 16) (hD : NamesD fs) {i : Nat} (hi : i < fs.length) {r : Rd} (hp : PreL ss r.us fs r.fs r.ns) (hns : ∀ n ∈ r.ns, n < fs.length) (hni : i ∉ r.ns) (hlen : r.ns.length < 16) (X : Bs) :
    fieldP (fAt fs i).union ⟨r.fs, r.ns, r.us, lex (printF ss (fAt fs i) i ++ X)⟩ = some ⟨r.fs ++ [preF r.us.length (fAt fs i)], r.ns ++ [i], r.us ++ useT ss (fAt fs i).t, lex X⟩ := by
  have hf : FOK ss (fAt fs i) := by rw [fAt_eq hi]; exact hok _ (List.getElem_mem _)
  refine field_print hss hf.ok hf.name hf.sound hf.dflt (by omega) _ _ _ _ ?_ (by rw [hp.len]; exact hlen)
  exact hp.names fun n hn => hD n i (hns n hn) hi (fun e => hni (e ▸ hn))

theorem members_print {ss : List Str} (hss : NamesOK ss) {fs : List Fld} (hok : ∀ f ∈ fs, FOK ss f) (h16 : fs.length ≤ 16) (hD : NamesD fs) : ∀ (is : List Nat) (r : Rd) (m : Nat) (X : Bs), PreL ss r.us fs r.fs r.ns → (∀ n ∈ r.ns, n < fs.length) → (∀ i ∈ is, i < fs.length ∧ (fAt fs i).union = false ∧ i ∉ r.ns) → is.Pairwise (· ≠ ·) →
    r.ns.length + is.length ≤ 16 → membersP (is.length + m) { r with l := lex (printIx ss [32, 32] fs is ++ X) } = membersP m { readIx ss fs is r with l := lex X }
  | [], r, m, X, _, _, _, _, _ => by simp [printIx, readIx]
  | i :: is, r, m, X, hp, hns, his, hpw, hl => by
    obtain ⟨hi, hu, hni⟩ := his i (List.mem_cons_self ..)
    have hf : FOK ss (fAt fs i) := by rw [fAt_eq hi]; exact hok _ (List.getElem_mem _)
    rw [List.pairwise_cons] at hpw
    simp only [List.length_cons] at hl
    have e : printIx ss [32, 32] fs (i :: is) ++ X = 32 :: 32 :: (printF ss (fAt fs i) i ++ (printIx ss [32, 32] fs is ++ X)) := by simp [printIx]
    rw [e, lex_sp, lex_sp, List.length_cons, show is.length + 1 + m = (is.length + m) + 1 by omega, membersP_succ]
    have ht := tok_printF hf i (printIx ss [32, 32] fs is ++ X)
    have hn := name_not hf.name
    have h1 := one_print hss hok h16 hD hi hp hns hni (by omega) (printIx ss [32, 32] fs is ++ X)
    rw [hu] at h1
    simp only [ht, hn.1, hn.2.1, h1, Bool.false_eq_true, if_false]
    have ih := members_print hss hok h16 hD is ⟨r.fs ++ [preF r.us.length (fAt fs i)], r.ns ++ [i], r.us ++ useT ss (fAt fs i).t, r.l⟩ m X (PreL.snoc (pre_preF ss r.us (fAt fs i)) (PreL.mono _ hp))
      (by intro n hn; rw [List.mem_append] at hn; rcases hn with hn | hn; exact hns n hn; rw [List.mem_singleton] at hn; omega)
      (by
        intro j hj
        obtain ⟨h1, h2, h3⟩ := his j (List.mem_cons_of_mem _ hj)
        refine ⟨h1, h2, ?_⟩
        rw [List.mem_append, List.mem_singleton]
        rintro (h4 | h4)
        · exact h3 h4
        · exact hpw.1 j hj h4.symm)
      hpw.2 (by simp; omega)
    exact ih

theorem fields_print {ss : List Str} (hss : NamesOK ss) {fs : List Fld} (hok : ∀ f ∈ fs, FOK ss f) (h16 : fs.length ≤ 16) (hD : NamesD fs) : ∀ (is : List Nat) (r : Rd) (m : Nat) (X : Bs), PreL ss r.us fs r.fs r.ns → (∀ n ∈ r.ns, n < fs.length) → (∀ i ∈ is, i < fs.length ∧ (fAt fs i).union = true ∧ i ∉ r.ns) → is.Pairwise (· ≠ ·) →
    r.ns.length + is.length ≤ 16 → fieldsP (is.length + m) { r with l := lex (printIx ss [32, 32, 32, 32] fs is ++ X) } = fieldsP m { readIx ss fs is r with l := lex X }
  | [], r, m, X, _, _, _, _, _ => by simp [printIx, readIx]
  | i :: is, r, m, X, hp, hns, his, hpw, hl => by
    obtain ⟨hi, hu, hni⟩ := his i (List.mem_cons_self ..)
    have hf : FOK ss (fAt fs i) := by rw [fAt_eq hi]; exact hok _ (List.getElem_mem _)
    rw [List.pairwise_cons] at hpw
    simp only [List.length_cons] at hl
    have e : printIx ss [32, 32, 32, 32] fs (i :: is) ++ X = 32 :: 32 :: 32 :: 32 :: (printF ss (fAt fs i) i ++ (printIx ss [32, 32, 32, 32] fs is ++ X)) := by simp [printIx]
    rw [e, lex_sp, lex_sp, lex_sp, lex_sp, List.length_cons, show is.length + 1 + m = (is.length + m) + 1 by omega, fieldsP_succ]
    have ht := tok_printF hf i (printIx ss [32, 32, 32, 32] fs is ++ X)
    have hn := name_not hf.name
    have h1 := one_print hss hok h16 hD hi hp hns hni (by omega) (printIx ss [32, 32, 32, 32] fs is ++ X)
    rw [hu] at h1
    simp only [ht, hn.1, h1, Bool.false_eq_true, if_false]
    have ih := fields_print hss hok h16 hD is ⟨r.fs ++ [preF r.us.length (fAt fs i)], r.ns ++ [i], r.us ++ useT ss (fAt fs i).t, r.l⟩ m X (PreL.snoc (pre_preF ss r.us (fAt fs i)) (PreL.mono _ hp))
      (by intro n hn; rw [List.mem_append] at hn; rcases hn with hn | hn; exact hns n hn; rw [List.mem_singleton] at hn; omega)
      (by
        intro j hj
        obtain ⟨h1, h2, h3⟩ := his j (List.mem_cons_of_mem _ hj)
        refine ⟨h1, h2, ?_⟩
        rw [List.mem_append, List.mem_singleton]
        rintro (h4 | h4)
        · exact h3 h4
        · exact hpw.1 j hj h4.symm)
      hpw.2 (by simp; omega)
    exact ih

end Go.Proofs.Ygcfae
