import Derived.Test.YgcfaeData
namespace Go.Proofs.Ygcfae
open Go.RowKit

/-- a layout so far: the places, the words of the two sections, the bits that are taken -/
structure LS where
  ps : List Plc
  data : Nat
  ptrs : Nat
  used : List Int

def LS.start : LS := ⟨[], 0, 0, [0, 0, 0, 0, 0, 0, 0, 0]⟩

/-- s bits at bit a of the word x, set -/
def orAt (x s : Int) (a : Nat) : Int := bits BinOp.or IntKind.u64 x (IntKind.u64.wrap (18446744073709551615 / 2 ^ (64 - s).toNat * 2 ^ (a % 64)))

/-- a scalar of kind k laid at bit a -/
def LS.put (st : LS) (k : Int) (a : Nat) : LS :=
  { st with ps := st.ps ++ [⟨wd k, (a : Int) / wd k, 0, false⟩], used := st.used.set (a / 64) (orAt (st.used.getD (a / 64) 0) (wd k) a) }

def sStep (st : LS) (k : Int) : Option LS :=
  if 13 < k then none
  else if wd k = 0 then
    if st.ptrs = 8 then none else some { st with ps := st.ps ++ [⟨0, 0, st.ptrs, true⟩], ptrs := st.ptrs + 1 }
  else match fitGo (wd k) (st.used.take st.data) 0 with
    | some a => some (st.put k a)
    | none => if st.data = 8 then none else some ({ st with data := st.data + 1 }.put k (st.data * 64))

def sRun : List Int → LS → Option LS
  | [], st => some st
  | k :: ks, st => match sStep st k with
    | none => none
    | some st' => sRun ks st'

/-- schema.Layout on the kinds of types -/
def sLay (ks : List Int) : Option LS := if 16 < ks.length then none else sRun ks LS.start

structure OkS (st : LS) (k : Nat) : Prop where
  data_le : st.data ≤ 8
  ptrs_le : st.ptrs ≤ 8
  used_len : st.used.length = 8
  ps_len : st.ps.length = k

theorem sStep_ok {st st' : LS} {k : Nat} {kd : Int} (h : OkS st k) (hs : sStep st kd = some st') : OkS st' (k + 1) := by
  obtain ⟨h1, h2, h3, h4⟩ := h
  unfold sStep at hs
  split at hs
  · cases hs
  split at hs
  · split at hs
    · cases hs
    · cases hs
      exact ⟨h1, by simp only; omega, h3, by simp [h4]⟩
  · split at hs
    · cases hs
      exact ⟨h1, h2, by simp [LS.put, h3], by simp [LS.put, h4]⟩
    · split at hs
      · cases hs
      · cases hs
        exact ⟨by simp only [LS.put]; omega, h2, by simp [LS.put, h3], by simp [LS.put, h4]⟩

theorem sRun_ok {ks : List Int} : ∀ {st st' : LS} {k : Nat}, OkS st k → sRun ks st = some st' → OkS st' (k + ks.length) := by
  induction ks with
  | nil => intro st st' k h hs; simp only [sRun, Option.some.injEq] at hs; subst hs; simpa using h
  | cons kd ks ih =>
    intro st st' k h hs
    unfold sRun at hs
    split at hs
    · cases hs
    · rename_i st1 h1
      have := ih (sStep_ok h h1) hs
      rw [List.length_cons, show k + (ks.length + 1) = k + 1 + ks.length by omega]
      exact this

theorem okS_start : OkS LS.start 0 := ⟨by decide, by decide, rfl, rfl⟩

theorem wd_nonneg (k : Int) : 0 ≤ wd k ∧ wd k ≤ 64 := by
  unfold wd
  have : ∀ n : Nat, 0 ≤ ([1, 8, 16, 32, 64, 8, 16, 32, 64, 32, 64] : List Int).getD n 0 ∧ ([1, 8, 16, 32, 64, 8, 16, 32, 64, 32, 64] : List Int).getD n 0 ≤ 64 := by
    intro n
    by_cases h : n < 11
    · have : ∀ m : Fin 11, 0 ≤ ([1, 8, 16, 32, 64, 8, 16, 32, 64, 32, 64] : List Int).getD m.1 0 ∧ ([1, 8, 16, 32, 64, 8, 16, 32, 64, 32, 64] : List Int).getD m.1 0 ≤ 64 := by decide
      exact this ⟨n, h⟩
    · rw [List.getD_eq_getElem?_getD, List.getElem?_eq_none (by simp; omega)]
      simp
  exact this _

theorem div_bd {a : Nat} {s : Int} (hs : 0 < s) (ha : a < 512) : 0 ≤ (a : Int) / s ∧ (a : Int) / s ≤ 65535 := by
  constructor
  · exact Int.ediv_nonneg (by omega) (by omega)
  · have := Int.ediv_le_self (a := (a : Int)) s (by omega)
    omega

end Go.Proofs.Ygcfae
