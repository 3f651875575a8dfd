import Derived.Test.YgcfaePPrint

namespace Go.Proofs.Ygcfae
open Go.RowKit

/-! What the parser makes of a printed field. -/

theorem bsV_of (s : ByteArray) : bsV s.toList = s := toList_inj (bsV_toList _)

def nameAt (ss : List Str) (i : Nat) : Bs := (ss.map (fun s => s.name.toList)).getD i []
def useT (ss : List Str) (t : Typ) : List Bs := if t.named then [nameAt ss t.ref.toNat] else []
def preT (nu : Nat) (t : Typ) : Typ := if t.named then { t with ref := nu } else t
def preF (nu : Nat) (f : Fld) : Fld := ⟨f.name, preT nu f.t, Plc.zero, f.dflt, f.union⟩

theorem rep_zero (l : Bs) : rep 0 l = [] := rfl
theorem rep_succ (n : Nat) (l : Bs) : rep (n + 1) l = l ++ rep n l := by simp [rep, List.replicate_succ]

theorem lists_rep : ∀ (m r n : Nat) (X : Bs), n + m ≤ 2 → (lex X).tok ≠ sList → listsB (m + 1 + r) n (lex (rep m sListP ++ X)) = some (n + m, lex X)
  | 0, r, n, X, _, hX => by
    rw [show 0 + 1 + r = r + 1 by omega, rep_zero, List.nil_append]
    unfold listsB
    rw [if_neg (by simpa using hX)]; rfl
  | m + 1, r, n, X, h, hX => by
    rw [show m + 1 + 1 + r = (m + 1 + r) + 1 by omega, rep_succ, List.append_assoc]
    have e : lex (sListP ++ (rep m sListP ++ X)) = ⟨sList, 40 :: (rep m sListP ++ X)⟩ := by
      have := lex_word (w := sList) (r := 40 :: (rep m sListP ++ X)) (by decide) (by decide) rfl
      exact this
    rw [e]
    unfold listsB
    simp only [nx]
    rw [if_pos (by decide), if_neg (by omega), expect_sign (by decide)]
    simp only
    rw [lists_rep m r (n + 1) X (by omega) hX, show n + 1 + m = n + (m + 1) by omega]

theorem closes_rep : ∀ (m : Nat) (X : Bs), closesB m (lex (rep m [41] ++ X)) = some (lex X)
  | 0, X => rfl
  | m + 1, X => by
    rw [rep_succ, List.append_assoc]
    unfold closesB
    rw [show [41] ++ (rep m [41] ++ X) = 41 :: (rep m [41] ++ X) from rfl, expect_sign (by decide)]
    exact closes_rep m X

theorem brk_rep (m : Nat) {X : Bs} (h : brk X = true) : brk (rep m [41] ++ X) = true := by
  cases m with
  | zero => exact h
  | succ m => rw [rep_succ]; rfl

/-- the structs of a schema that passes Check have such names -/
def NamesOK (ss : List Str) : Prop := ∀ s ∈ ss, isNameB s.name.toList true = true ∧ builtInB s.name.toList = false

theorem nameAt_ok {ss : List Str} (h : NamesOK ss) {i : Nat} (hi : i < ss.length) : isNameB (nameAt ss i) true = true ∧ builtInB (nameAt ss i) = false := by
  have e : nameAt ss i = ss[i].name.toList := by simp [nameAt, hi]
  rw [e]
  exact h _ (List.getElem_mem _)

/-- the facts that sound gives -/
theorem sound_cases {t : Typ} {n : Int} {u : Bool} (hok : TypOK t) (h : soundB t n u = true) :
    (t.nest = 0 ∧ t.elem = 0 ∧ ((t.kind ≤ 11 ∧ t.ref = 0) ∨ (t.kind = 13 ∧ t.ref < n) ∨ (t.kind = 14 ∧ t.ref = 0 ∧ u = true))) ∨
    (t.kind = 12 ∧ (t.nest = 1 ∨ t.nest = 2) ∧ ((1 ≤ t.elem ∧ t.elem ≤ 11 ∧ t.ref = 0) ∨ (t.elem = 13 ∧ t.ref < n))) := by
  obtain ⟨k0, k1, e0, e1, r0, r1, n0, n1⟩ := hok
  unfold soundB at h
  by_cases h12 : t.kind = 12
  · rw [if_pos h12] at h
    right
    by_cases h13 : t.elem = 13
    · rw [if_pos (.inr ⟨h12, h13⟩)] at h
      simp only [Bool.and_eq_true, decide_eq_true_eq] at h
      exact ⟨h12, by omega, .inr ⟨h13, h.2⟩⟩
    · rw [if_neg (by omega)] at h
      simp only [Bool.and_eq_true, decide_eq_true_eq] at h
      exact ⟨h12, by omega, .inl ⟨by omega, by omega, h.2⟩⟩
  · rw [if_neg h12] at h
    left
    by_cases h13 : t.kind = 13
    · rw [if_pos (.inl h13)] at h
      simp only [Bool.and_eq_true, Bool.or_eq_true, decide_eq_true_eq] at h
      exact ⟨h.1.1.2, h.1.2, .inr (.inl ⟨h13, h.2⟩)⟩
    · rw [if_neg (by omega)] at h
      simp only [Bool.and_eq_true, Bool.or_eq_true, decide_eq_true_eq] at h
      refine ⟨h.1.1.2, h.1.2, ?_⟩
      by_cases h14 : t.kind = 14
      · right; right
        refine ⟨h14, h.2, ?_⟩
        rcases h.1.1.1.2 with h | h
        · omega
        · exact h
      · left; exact ⟨by omega, h.2⟩

theorem not_builtIn {s : Bs} (h : builtInB s = false) : kindOfB s = none ∧ s ≠ sList := by
  simp only [builtInB, Bool.or_eq_false_iff] at h
  exact ⟨by simpa using h.1, by simpa using h.2⟩

/-- the innermost word of a printed type -/
theorem inner_print {ss : List Str} (hss : NamesOK ss) {t : Typ} {u : Bool} (hok : TypOK t) (h : soundB t ss.length u = true) {X : Bs} (hX : brk X = true) :
    innerB (lex (printK ss t ++ X)) = some (t.deep.toNat, useT ss t, lex X) ∧ (lex (printK ss t ++ X)).tok ≠ sList ∧ badTyp t.deep.toNat t.nest.toNat u = false := by
  have hc := sound_cases hok h
  obtain ⟨k0, k1, e0, e1, r0, r1, n0, n1⟩ := hok
  by_cases h13 : t.deep = 13
  · have hr : t.ref.toNat < ss.length ∧ t.named = true ∧ badTyp 13 t.nest.toNat u = false := by
      unfold Typ.deep at h13
      rcases hc with ⟨hn, he, hc⟩ | ⟨hk, hn, hc⟩
      · rw [if_neg (by omega)] at h13
        refine ⟨by omega, by simp [Typ.named, h13], by simp [badTyp]⟩
      · rw [if_pos (by omega)] at h13
        refine ⟨by omega, by simp [Typ.named, h13, hk], by simp [badTyp]⟩
    have hN := nameAt_ok hss hr.1
    have hB := not_builtIn hN.2
    have hW := isName_word hN.1
    have e : printK ss t = nameAt ss t.ref.toNat := by unfold printK; rw [if_pos h13]; rfl
    rw [e, lex_word hW.1 hW.2.1 hX]
    refine ⟨?_, hB.2, by rw [h13]; exact hr.2.2⟩
    have hn := name_word hN.1 hX
    rw [lex_word hW.1 hW.2.1 hX] at hn
    unfold innerB useT
    rw [if_pos hr.2.1, h13]
    simp only [hB.1, hn]
    rfl
  · have hr : (t.deep.toNat ≤ 11 ∨ t.deep.toNat = 14) ∧ t.named = false ∧ badTyp t.deep.toNat t.nest.toNat u = false := by
      unfold Typ.deep at h13 ⊢
      rcases hc with ⟨hn, he, hc⟩ | ⟨hk, hn, hc⟩
      · rw [if_neg (by omega)] at h13 ⊢
        refine ⟨by omega, by simp [Typ.named]; omega, ?_⟩
        rcases hc with hc | hc | hc
        · simp only [badTyp, hn, Bool.or_eq_false_iff, Bool.and_eq_false_iff, decide_eq_false_iff_not, beq_eq_false_iff_ne]
          exact ⟨.inl (by omega), .inl (by simp)⟩
        · omega
        · simp [badTyp, hn, hc.2.2]
      · rw [if_pos (by omega)] at h13 ⊢
        refine ⟨by omega, by simp [Typ.named, hk]; omega, ?_⟩
        simp only [badTyp, Bool.or_eq_false_iff, Bool.and_eq_false_iff, decide_eq_false_iff_not, beq_eq_false_iff_ne]
        exact ⟨.inl (by omega), .inr (by omega)⟩
    have hk := kind_print hr.1
    have e : printK ss t = kindNameB t.deep.toNat := by unfold printK; rw [if_neg h13]
    rw [e, lex_word hk.2.1 hk.2.2.1 hX]
    refine ⟨?_, by simpa using hk.2.2.2, hr.2.2⟩
    unfold innerB useT
    simp only [hk.1, hr.2.1, nx]
    rfl

theorem mkTyp_print {t : Typ} {n : Int} {u : Bool} (hok : TypOK t) (h : soundB t n u = true) (nu : Nat) : mkTyp t.deep.toNat t.nest.toNat nu = preT nu t := by
  have hc := sound_cases hok h
  obtain ⟨kind, elem, ref, nest⟩ := t
  obtain ⟨k0, k1, e0, e1, r0, r1, n0, n1⟩ := hok
  simp only at *
  unfold mkTyp preT Typ.named Typ.deep
  simp only
  rcases hc with ⟨hn, he, hc⟩ | ⟨hk, hn, hc⟩
  · subst hn he
    rcases hc with hc | hc | hc
    · have e1 : (kind == 13) = false := by simp; omega
      have e2 : (kind == 12) = false := by simp; omega
      have e3 : ¬ kind.toNat = 13 := by omega
      simp [e1, e2, e3, hc.2]
      omega
    · simp [hc.1]
    · simp [hc.1, hc.2.1]
  · subst hk
    have hp : 0 < nest := by omega
    rcases hc with hc | hc
    · have e1 : (elem == 13) = false := by simp; omega
      have e3 : ¬ elem.toNat = 13 := by omega
      simp [hp, e1, e3, hc.2.2]
      omega
    · simp [hp, hc.1]
      omega

theorem typ_print {ss : List Str} (hss : NamesOK ss) {t : Typ} {u : Bool} (hok : TypOK t) (h : soundB t ss.length u = true) (nu : Nat) {X : Bs} (hX : brk X = true) :
    typB u nu (lex (rep t.nest.toNat sListP ++ (printK ss t ++ (rep t.nest.toNat [41] ++ X)))) = some (preT nu t, useT ss t, lex X) := by
  obtain ⟨h1, h2, h3⟩ := inner_print hss hok h (brk_rep t.nest.toNat hX)
  have hc := sound_cases hok h
  have hn : t.nest.toNat ≤ 2 := by omega
  have hl := lists_rep t.nest.toNat (2 - t.nest.toNat) 0 (printK ss t ++ (rep t.nest.toNat [41] ++ X)) (by omega) h2
  rw [show t.nest.toNat + 1 + (2 - t.nest.toNat) = 3 by omega, Nat.zero_add] at hl
  unfold typB
  rw [hl]
  simp only [h1, h3, closes_rep, mkTyp_print hok h nu]
  rfl

theorem wd_le (k : Int) : wd k ≤ 64 := by
  unfold wd
  generalize k.toNat = n
  by_cases h : n < 11
  · have : ∀ n : Fin 11, ([1, 8, 16, 32, 64, 8, 16, 32, 64, 32, 64] : List Int).getD n.1 0 ≤ 64 := by decide
    exact this ⟨n, h⟩
  · rw [List.getD_eq_getElem?_getD, List.getElem?_eq_none (by simp; omega)]; decide

theorem preT_kind (nu : Nat) (t : Typ) : (preT nu t).kind = t.kind := by unfold preT; split <;> rfl

theorem brk_printD (v : Int) (R : Bs) : brk (printD v ++ ([59, 10] ++ R)) = true := by
  unfold printD; split <;> rfl

theorem def_print {f : Fld} (hf : FldOK f) (hd : dfltOK f = true) (R : Bs) : defB f.t.kind (lex (printD f.dflt ++ ([59, 10] ++ R))) = some (f.dflt, lex ([59, 10] ++ R)) := by
  have hwn := wd_nonneg f.t.kind
  unfold printD defB
  by_cases h0 : f.dflt = 0
  · rw [if_pos h0, h0, List.nil_append, show [59, 10] ++ R = 59 :: 10 :: R from rfl, lex_sign (by decide), if_neg (by simp)]
  · have h1 := hf.d0
    have h2 := hf.d1
    have hm : f.dflt ≤ mostB f.t.kind := by
      unfold dfltOK at hd
      unfold mostB
      simp only [Bool.or_eq_true, decide_eq_true_eq, beq_iff_eq] at hd
      rcases hd with hd | hd
      · have h64 : wd f.t.kind ≤ 64 := wd_le f.t.kind
        have e : (wd f.t.kind).toNat = 64 := by omega
        rw [e]
        omega
      · have hp : (0 : Int) < 2 ^ (wd f.t.kind).toNat := Int.pow_pos (by decide)
        rcases Int.lt_or_le f.dflt (2 ^ (wd f.t.kind).toNat) with hh | hh
        · omega
        · have := Int.le_ediv_of_mul_le (a := 1) hp (by omega : 1 * (2 : Int) ^ (wd f.t.kind).toNat ≤ f.dflt)
          omega
    have hw : wd f.t.kind ≠ 0 := by
      intro e
      unfold mostB at hm
      rw [e] at hm
      simp at hm
      omega
    rw [if_neg h0]
    rw [show [32, 61, 32, 48, 120] ++ hexFrom 16 f.dflt.toNat ++ ([59, 10] ++ R) = 32 :: 61 :: 32 :: ([48, 120] ++ hexFrom 16 f.dflt.toNat ++ ([59, 10] ++ R)) from rfl, lex_sp, lex_sign (by decide), if_pos (by rfl)]
    simp only [nx]
    rw [lex_sp]
    exact valueB_hex hw (by omega) hm h2 rfl

theorem field_print {ss : List Str} (hss : NamesOK ss) {f : Fld} (hf : FldOK f) (hn : isNameB f.name.toList false = true) (hs : soundB f.t ss.length f.union = true) (hd : dfltOK f = true)
    {i : Nat} (hi : i < 16) (fs : List Fld) (ns : List Nat) (us : List Bs) (R : Bs) (hdup : fs.any (fun g => g.name.toList == f.name.toList) = false) (hlen : fs.length < 16) :
    fieldP f.union ⟨fs, ns, us, lex (printF ss f i ++ R)⟩ = some ⟨fs ++ [preF us.length f], ns ++ [i], us ++ useT ss f.t, lex R⟩ := by
  have ho := ord_print hi
  have e : printF ss f i ++ R = f.name.toList ++ (32 :: 64 :: (printI i ++ (32 :: 58 :: (rep f.t.nest.toNat sListP ++ (printK ss f.t ++ (rep f.t.nest.toNat [41] ++ (printD f.dflt ++ ([59, 10] ++ R)))))))) := by
    simp [printF]
  rw [e]
  unfold fieldP
  simp only [name_word hn (r := 32 :: 64 :: (printI i ++ (32 :: 58 :: (rep f.t.nest.toNat sListP ++ (printK ss f.t ++ (rep f.t.nest.toNat [41] ++ (printD f.dflt ++ ([59, 10] ++ R)))))))) rfl, hdup, lex_sp]
  rw [if_neg (by simp), if_neg (by omega), expect_sign (by decide)]
  simp only [lex_word ho.2.1 ho.2.2 (r := 32 :: 58 :: (rep f.t.nest.toNat sListP ++ (printK ss f.t ++ (rep f.t.nest.toNat [41] ++ (printD f.dflt ++ ([59, 10] ++ R)))))) rfl, ho.1, nx, lex_sp]
  rw [expect_sign (by decide)]
  simp only [typ_print hss hf.t hs us.length (brk_printD f.dflt R), preT_kind, def_print hf hd]
  rw [show [59, 10] ++ R = 59 :: 10 :: R from rfl, expect_sign (by decide)]
  simp only [lex_nl, preF, bsV_of]

end Go.Proofs.Ygcfae
