import Derived.Test.YgcfaeRLay
namespace Go.Proofs.Ygcfae
open Go.RowKit

/-- the widths of scalars -/
def IsW (s : Nat) : Prop := s = 1 ∨ s = 8 ∨ s = 16 ∨ s = 32 ∨ s = 64

theorem wd_isW {k : Int} (h : wd k ≠ 0) : ∃ s, wd k = ((s : Nat) : Int) ∧ IsW s := by
  by_cases h0 : 10 < k
  · exact absurd (wd_big k h0) h
  · by_cases hneg : k < 0
    · refine ⟨1, ?_, .inl rfl⟩
      unfold wd; rw [show k.toNat = 0 by omega]; rfl
    · obtain ⟨n, rfl⟩ := Int.eq_ofNat_of_zero_le (show 0 ≤ k by omega)
      rcases (show n = 0 ∨ n = 1 ∨ n = 2 ∨ n = 3 ∨ n = 4 ∨ n = 5 ∨ n = 6 ∨ n = 7 ∨ n = 8 ∨ n = 9 ∨ n = 10 by omega) with rfl | rfl | rfl | rfl | rfl | rfl | rfl | rfl | rfl | rfl | rfl
      · exact ⟨1, rfl, .inl rfl⟩
      · exact ⟨8, rfl, .inr (.inl rfl)⟩
      · exact ⟨16, rfl, .inr (.inr (.inl rfl))⟩
      · exact ⟨32, rfl, .inr (.inr (.inr (.inl rfl)))⟩
      · exact ⟨64, rfl, .inr (.inr (.inr (.inr rfl)))⟩
      · exact ⟨8, rfl, .inr (.inl rfl)⟩
      · exact ⟨16, rfl, .inr (.inr (.inl rfl))⟩
      · exact ⟨32, rfl, .inr (.inr (.inr (.inl rfl)))⟩
      · exact ⟨64, rfl, .inr (.inr (.inr (.inr rfl)))⟩
      · exact ⟨32, rfl, .inr (.inr (.inr (.inl rfl)))⟩
      · exact ⟨64, rfl, .inr (.inr (.inr (.inr rfl)))⟩

theorem mask_eq {s : Nat} (h : IsW s) : (18446744073709551615 : Int) / 2 ^ (64 - (s : Int)).toNat = ((2 ^ s - 1 : Nat) : Int) := by
  rcases h with rfl | rfl | rfl | rfl | rfl <;> decide

theorem free_bits {X : Nat} {a s : Nat} (hX : X < 2 ^ 64) (hs : IsW s) (hf : free (X : Int) a (s : Int) = true) : ∀ i, i < s → X.testBit (a + i) = false := by
  intro i hi
  unfold free at hf
  rw [mask_eq hs] at hf
  have e1 : (X : Int) / 2 ^ a = ((X / 2 ^ a : Nat) : Int) := by simp
  have hlt : X / 2 ^ a < 2 ^ 64 := Nat.lt_of_le_of_lt (Nat.div_le_self _ _) hX
  have hm : 2 ^ s - 1 < 2 ^ 64 := by rcases hs with rfl | rfl | rfl | rfl | rfl <;> decide
  rw [e1, u64_and_nat _ _ hlt hm] at hf
  have h0 : (X / 2 ^ a) &&& (2 ^ s - 1) = 0 := by
    have := beq_iff_eq.1 hf
    omega
  rw [Nat.and_two_pow_sub_one_eq_mod] at h0
  have : ((X / 2 ^ a) % 2 ^ s).testBit i = false := by rw [h0]; simp
  rw [Nat.testBit_mod_two_pow] at this
  simp only [hi, decide_true, Bool.true_and] at this
  rw [Nat.testBit_div_two_pow] at this
  rw [Nat.add_comm]; exact this

theorem or_bits {X : Nat} {a s : Nat} (hX : X < 2 ^ 64) (hs : IsW s) (ha : a % 64 + s ≤ 64) :
    ∃ Y : Nat, orAt (X : Int) (s : Int) a = (Y : Int) ∧ Y < 2 ^ 64 ∧ (∀ i, X.testBit i = true → Y.testBit i = true) ∧ ∀ i, i < s → Y.testBit (a % 64 + i) = true := by
  unfold orAt
  rw [mask_eq hs]
  have hm : (2 ^ s - 1) * 2 ^ (a % 64) < 2 ^ 64 := by
    have h1 : (2 ^ s - 1) * 2 ^ (a % 64) < 2 ^ s * 2 ^ (a % 64) := Nat.mul_lt_mul_of_pos_right (by have := Nat.two_pow_pos s; omega) (Nat.two_pow_pos _)
    have h2 : 2 ^ s * 2 ^ (a % 64) = 2 ^ (a % 64 + s) := by rw [← Nat.pow_add, Nat.add_comm]
    have h3 : 2 ^ (a % 64 + s) ≤ 2 ^ 64 := Nat.pow_le_pow_right (by omega) ha
    omega
  have e1 : ((2 ^ s - 1 : Nat) : Int) * 2 ^ (a % 64) = (((2 ^ s - 1) * 2 ^ (a % 64) : Nat) : Int) := by simp
  rw [e1]
  generalize hM : (2 ^ s - 1) * 2 ^ (a % 64) = M at hm
  have e2 : IntKind.u64.wrap (M : Int) = (M : Int) := by
    rw [IntKind.wrap_u64]
    omega
  rw [e2, u64_or_nat _ _ hX hm]
  refine ⟨X ||| M, rfl, Nat.or_lt_two_pow hX hm, ?_, ?_⟩
  · intro i hi
    rw [Nat.testBit_or, hi]; rfl
  · intro i hi
    rw [Nat.testBit_or, ← hM, Nat.testBit_mul_two_pow]
    simp [Nat.testBit_two_pow_sub_one, hi]

end Go.Proofs.Ygcfae
