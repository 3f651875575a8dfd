import Derived.Test.YgcfaePTwin
namespace Go.Proofs.Ygcfae
open Go.RowKit

/-! The plain twin of rec.Print, and the laws of the lexer on what it writes. -/

def hexD (d : Nat) : UInt8 := if d < 10 then UInt8.ofNat (48 + d) else UInt8.ofNat (55 + d)

/-- the last n digits in hex, none ahead of the first that counts -/
def hexFrom : Nat → Nat → Bs
  | 0, _ => []
  | n + 1, v => (if v / 16 ^ n = 0 then [] else [hexD (v / 16 ^ n % 16)]) ++ hexFrom n v

def sListP : Bs := [76, 105, 115, 116, 40]

def printD (v : Int) : Bs := if v = 0 then [] else [32, 61, 32, 48, 120] ++ hexFrom 16 v.toNat

/-- the innermost kind of a type -/
def Typ.deep (t : Typ) : Int := if 0 < t.nest then t.elem else t.kind

def printK (ss : List Str) (t : Typ) : Bs := if t.deep = 13 then (ss.map (fun s => s.name.toList)).getD t.ref.toNat [] else kindNameB t.deep.toNat

def rep (n : Nat) (l : Bs) : Bs := (List.replicate n l).flatten

def printI (i : Nat) : Bs := (if 9 < i then [49] else []) ++ [UInt8.ofNat (48 + i % 10)]

/-- (*Schema).printField -/
def printF (ss : List Str) (f : Fld) (i : Nat) : Bs :=
  f.name.toList ++ [32, 64] ++ printI i ++ [32, 58] ++ rep f.t.nest.toNat sListP ++ printK ss f.t ++ rep f.t.nest.toNat [41] ++ printD f.dflt ++ [59, 10]

def printFs (ss : List Str) (ind : Bs) (u : Bool) (fs : List Fld) (i : Nat) : Bs :=
  match fs with
  | [] => []
  | f :: fs => (if f.union = u then ind ++ printF ss f i else []) ++ printFs ss ind u fs (i + 1)

def sUnionP : Bs := [32, 32, 117, 110, 105, 111, 110, 32, 123, 10]

def printT (ss : List Str) (t : Str) : Bs :=
  sStruct ++ [32] ++ t.name.toList ++ [32, 123, 10] ++ printFs ss [32, 32] false t.fs 0 ++
  (if t.tag.bits = 0 then [] else sUnionP ++ printFs ss [32, 32, 32, 32] true t.fs 0 ++ [32, 32, 125, 10]) ++ [125, 10]

/-- rec.Print, of a schema that passes Check -/
def printS (ss : List Str) : Bs := ss.flatMap (printT ss)

/-! the lexer -/

theorem lex_sp (l : Bs) : lex (32 :: l) = lex l := by simp [lex, skip]
theorem lex_nl (l : Bs) : lex (10 :: l) = lex l := by simp [lex, skip]

theorem wc_not {c : UInt8} (h : isWc c = true) : (c == 35) = false ∧ (c != 32 && c != 9 && c != 10 && c != 13) = true := by
  have h1 : (48 ≤ c.toNat ∧ c.toNat ≤ 57) ∨ (65 ≤ c.toNat ∧ c.toNat ≤ 122) := by
    simp [isWc, isL, isD] at h; omega
  have ne : ∀ k : UInt8, (k.toNat < 48) → c ≠ k := by rintro k hk rfl; omega
  have := ne 35 (by decide); have := ne 32 (by decide); have := ne 9 (by decide); have := ne 10 (by decide); have := ne 13 (by decide)
  simp_all

/-- a text that does not go on with a letter or a digit -/
def brk : Bs → Bool
  | [] => true
  | c :: _ => !(isWc c)

theorem takeW_app {w r : Bs} (hw : w.all isWc = true) (hr : brk r = true) : (w ++ r).takeWhile isWc = w ∧ (w ++ r).dropWhile isWc = r := by
  induction w with
  | nil =>
    cases r with
    | nil => exact ⟨rfl, rfl⟩
    | cons c cs =>
      have hc : isWc c = false := by simpa [brk] using hr
      simp [hc]
  | cons c cs ih =>
    simp only [List.all_cons, Bool.and_eq_true] at hw
    have := ih hw.2
    simp [hw.1, this.1, this.2]

theorem lex_word {w r : Bs} (hne : w ≠ []) (hw : w.all isWc = true) (hr : brk r = true) : lex (w ++ r) = ⟨w, r⟩ := by
  cases w with
  | nil => exact absurd rfl hne
  | cons c cs =>
    simp only [List.all_cons, Bool.and_eq_true] at hw
    have h1 := wc_not hw.1
    have h2 := takeW_app hw.2 hr
    have hs : skip false (c :: cs ++ r) = c :: (cs ++ r) := by
      simp only [List.cons_append, skip, h1.1, h1.2, Bool.or_false]
      simp
    unfold lex
    rw [hs]
    simp only [hw.1, if_true, h2.1, h2.2]

def signB (c : UInt8) : Bool := !(isWc c) && c != 35 && (c != 32 && c != 9 && c != 10 && c != 13)

theorem lex_sign {c : UInt8} {r : Bs} (h : signB c = true) : lex (c :: r) = ⟨[c], r⟩ := by
  simp only [signB, Bool.and_eq_true] at h
  have h1 : isWc c = false := by simpa using h.1.1
  have h2 : (c == 35) = false := by simpa [bne] using h.1.2
  have hs : skip false (c :: r) = c :: r := by
    simp only [skip, h2]
    simp [h.2]
  unfold lex
  rw [hs]
  simp [h1]

theorem expect_sign {c : UInt8} {r : Bs} (h : signB c = true) : expectB [c] (lex (c :: r)) = some (lex r) := by
  rw [lex_sign h]; simp [expectB, nx]

theorem expect_word {w r : Bs} (hne : w ≠ []) (hw : w.all isWc = true) (hr : brk r = true) : expectB w (lex (w ++ r)) = some (lex r) := by
  rw [lex_word hne hw hr]; simp [expectB, nx]

theorem isName_word {s : Bs} {cap : Bool} (h : isNameB s cap = true) : s ≠ [] ∧ s.all isWc = true ∧ s ≠ sUnion := by
  cases s with
  | nil => simp [isNameB] at h
  | cons c cs =>
    simp only [isNameB, Bool.and_eq_true] at h
    refine ⟨by simp, ?_, by simpa using h.1.2⟩
    simp only [List.all_cons, Bool.and_eq_true]
    exact ⟨by simp [isWc, h.1.1.1.2], h.2⟩

theorem name_word {s r : Bs} {cap : Bool} (h : isNameB s cap = true) (hr : brk r = true) : nameB cap (lex (s ++ r)) = some (s, lex r) := by
  have := isName_word h
  rw [lex_word this.1 this.2.1 hr]
  simp [nameB, h, nx]

/-! numbers -/

theorem hexD_lt (d : Nat) (h : d < 16) : digV (hexD d) = some d ∧ isWc (hexD d) = true := by
  have : ∀ d : Fin 16, digV (hexD d.1) = some d.1 ∧ isWc (hexD d.1) = true := by decide
  exact this ⟨d, h⟩

theorem hexFrom_word (v : Nat) : ∀ n, (hexFrom n v).all isWc = true
  | 0 => rfl
  | n + 1 => by
    unfold hexFrom
    rw [List.all_append, hexFrom_word v n, Bool.and_true]
    split
    · rfl
    · simp [(hexD_lt (v / 16 ^ n % 16) (by omega)).2]

theorem numFrom_hex (v : Nat) (hv : v ≤ 18446744073709551615) : ∀ n, numFrom 16 (v / 16 ^ n) (hexFrom n v) = some v
  | 0 => by simp [hexFrom, numFrom]
  | n + 1 => by
    unfold hexFrom
    have e : v / 16 ^ (n + 1) = v / 16 ^ n / 16 := by rw [Nat.pow_succ, Nat.div_div_eq_div_mul]
    split
    · next h0 => rw [e, h0]; have := numFrom_hex v hv n; rw [h0] at this; simpa using this
    · have hd := (hexD_lt (v / 16 ^ n % 16) (by omega)).1
      have hle : v / 16 ^ n ≤ v := Nat.div_le_self _ _
      have e2 : v / 16 ^ n / 16 * 16 + v / 16 ^ n % 16 = v / 16 ^ n := by omega
      simp only [List.cons_append, List.nil_append, numFrom, hd]
      rw [if_neg (by omega), e, e2, if_neg (by omega)]
      exact numFrom_hex v hv n

theorem hexFrom_ne {v : Nat} (hv : v ≠ 0) : ∀ n, v < 16 ^ n → hexFrom n v ≠ []
  | 0, h => by simp at h; omega
  | n + 1, h => by
    unfold hexFrom
    split
    · next h0 =>
      have : v < 16 ^ n := by
        rcases Nat.div_eq_zero_iff.1 h0 with h | h
        · exact absurd h (by have := Nat.pow_pos (n := n) (show 0 < 16 by decide); omega)
        · exact h
      simpa using hexFrom_ne hv n this
    · simp

theorem numB_hex {v : Nat} (hv : v ≠ 0) (hv2 : v ≤ 18446744073709551615) : numB ([48, 120] ++ hexFrom 16 v) = some v := by
  have hne := hexFrom_ne hv 16 (by have : (16 : Nat) ^ 16 = 18446744073709551616 := by decide
                                   omega)
  have hl : 0 < (hexFrom 16 v).length := List.length_pos_iff.2 hne
  unfold numB
  rw [if_pos (by simp [isHex]; omega)]
  have := numFrom_hex v hv2 16
  rw [Nat.div_eq_of_lt (show v < 16 ^ 16 by omega)] at this
  simpa using this

theorem ord_print {i : Nat} (h : i < 16) : ordB (printI i) = some i ∧ printI i ≠ [] ∧ (printI i).all isWc = true := by
  have : ∀ i : Fin 16, ordB (printI i.1) = some i.1 ∧ printI i.1 ≠ [] ∧ (printI i.1).all isWc = true := by decide
  exact this ⟨i, h⟩

theorem kind_print {k : Nat} (h : k ≤ 11 ∨ k = 14) : kindOfB (kindNameB k) = some k ∧ kindNameB k ≠ [] ∧ (kindNameB k).all isWc = true ∧ (kindNameB k == sList) = false := by
  have : ∀ k : Fin 15, (k.1 ≤ 11 ∨ k.1 = 14) → kindOfB (kindNameB k.1) = some k.1 ∧ kindNameB k.1 ≠ [] ∧ (kindNameB k.1).all isWc = true ∧ (kindNameB k.1 == sList) = false := by decide
  exact this ⟨k, by omega⟩ h

theorem valueB_hex {kind v : Int} {r : Bs} (hw : wd kind ≠ 0) (h0 : 0 < v) (h1 : v ≤ mostB kind) (h2 : v ≤ 18446744073709551615) (hr : brk r = true) :
    valueB kind (lex ([48, 120] ++ hexFrom 16 v.toNat ++ r)) = some (v, lex r) := by
  have hW : ([48, 120] ++ hexFrom 16 v.toNat).all isWc = true := by
    rw [List.all_append, hexFrom_word]; decide
  rw [lex_word (by simp) hW hr]
  have hn := numB_hex (v := v.toNat) (by omega) (by omega)
  unfold valueB
  rw [if_neg hw]
  have e1 : ([48, 120] ++ hexFrom 16 v.toNat == [45]) = false := by simp
  simp only [e1]
  have e2 : valB kind false ([48, 120] ++ hexFrom 16 v.toNat) = some v := by
    have hh : isHex ([48, 120] ++ hexFrom 16 v.toNat) = true := by simp [isHex]
    unfold valB
    rw [if_neg (by simp [sTrue, sFalse])]
    simp only [List.cons_append, List.nil_append] at hn hh ⊢
    have e3 : isD 48 = true := by decide
    have e4 : ((v.toNat : Nat) : Int) = v := by omega
    simp [e3, e4, h1, hh, hn]
  simp only [List.cons_append, List.nil_append] at e2 ⊢
  simp [e2, nx]

end Go.Proofs.Ygcfae
