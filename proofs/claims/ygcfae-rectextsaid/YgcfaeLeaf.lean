import Derived.Test.YgcfaeMem
namespace Go.Proofs.Ygcfae
open Go.RowKit

/-- the bits of a scalar kind, 0 for every other -/
def wd (k : Int) : Int := ([1, 8, 16, 32, 64, 8, 16, 32, 64, 32, 64] : List Int).getD k.toNat 0

theorem wd_big (k : Int) (h : 10 < k) : wd k = 0 := by
  obtain ⟨n, rfl⟩ := Int.eq_ofNat_of_zero_le (show 0 ≤ k by omega)
  have : 11 ≤ n := by omega
  simp only [wd, Int.toNat_natCast]
  rw [List.getD_eq_getElem?_getD, List.getElem?_eq_none (by simpa using this)]
  rfl

theorem index_wd (k : Int) (h0 : 0 ≤ k) (h1 : k ≤ 10) (w : World) :
    (Instr.index 137 (.agg #[.int .u8 1, .int .u8 8, .int .u8 16, .int .u8 32, .int .u8 64, .int .u8 8, .int .u8 16, .int .u8 32, .int .u8 64, .int .u8 32, .int .u8 64]) (.int .u8 k)).run Faeg.prog w = .ok (.int .u8 (wd k)) w := by
  obtain ⟨n, rfl⟩ := Int.eq_ofNat_of_zero_le h0
  rcases (show n = 0 ∨ n = 1 ∨ n = 2 ∨ n = 3 ∨ n = 4 ∨ n = 5 ∨ n = 6 ∨ n = 7 ∨ n = 8 ∨ n = 9 ∨ n = 10 by omega) with rfl | rfl | rfl | rfl | rfl | rfl | rfl | rfl | rfl | rfl | rfl
  all_goals kernel_rfl

set_option maxRecDepth 100000
set_option maxHeartbeats 400000 in
theorem widthOf_any (k : Int) (w : World) (h0 : 0 ≤ k) :
    Calls Faeg.prog 46 #[.int .u8 k] w fun e w' => e = .returned (.int .u8 (wd k)) ∧ w' = w := by
  by_cases h : 10 < k
  · have hw := wd_big k h
    have H : Hid (wd k = 0) := hw
    clear hw
    go_enter Faeg.func46, Faeg.ntmps46
    go_wp2
    go_ret
    rw [H.out]; exact ⟨rfl, rfl⟩
  · have hi := index_wd k h0 (by omega)
    go_enter Faeg.func46, Faeg.ntmps46
    go_wp2
    go_ret
    exact ⟨rfl, rfl⟩

set_option maxHeartbeats 400000 in
theorem width_any (k : Int) (w : World) (h0 : 0 ≤ k) :
    Calls Faeg.prog 32 #[.int .u8 k] w fun e w' => e = .returned (.int .u8 (wd k)) ∧ w' = w := by
  by_cases h : 10 < k
  · have hw := wd_big k h
    have H : Hid (wd k = 0) := hw
    clear hw
    go_enter Faeg.func32, Faeg.ntmps32
    go_wp2
    go_ret
    rw [H.out]; exact ⟨rfl, rfl⟩
  · have hi := index_wd k h0 (by omega)
    go_enter Faeg.func32, Faeg.ntmps32
    go_wp2
    go_ret
    exact ⟨rfl, rfl⟩

/-- does a field of this kind lie in the pointer section -/
def ptrK (k : Int) : Bool := k == 11 || k == 12 || k == 13

set_option maxHeartbeats 400000 in
theorem isPtr_any (k : Int) (w : World) :
    Calls Faeg.prog 45 #[.int .u8 k] w fun e w' => e = .returned (.bool (ptrK k)) ∧ w' = w := by
  go_enter Faeg.func45, Faeg.ntmps45
  go_wp2
  all_goals
    go_ret
    refine ⟨?_, rfl⟩
    simp [ptrK, *]

set_option maxHeartbeats 400000 in
theorem ownWidth_any (k : Int) (w : World) (h0 : 0 ≤ k) :
    Calls Faeg.prog 14 #[.int .u8 k] w fun e w' => e = .returned (.int .i64 (wd k)) ∧ w' = w := by
  by_cases h : 10 < k
  · have hw := wd_big k h
    have H : Hid (wd k = 0) := hw
    clear hw
    go_enter Faeg.func14, Faeg.ntmps14
    go_wp2
    go_ret
    rw [H.out]; exact ⟨rfl, rfl⟩
  · obtain ⟨n, rfl⟩ := Int.eq_ofNat_of_zero_le h0
    rcases (show n = 0 ∨ n = 1 ∨ n = 2 ∨ n = 3 ∨ n = 4 ∨ n = 5 ∨ n = 6 ∨ n = 7 ∨ n = 8 ∨ n = 9 ∨ n = 10 by omega) with rfl | rfl | rfl | rfl | rfl | rfl | rfl | rfl | rfl | rfl | rfl
    all_goals
      clear h h0
      go_enter Faeg.func14, Faeg.ntmps14
      go_wp2
      go_ret
      exact ⟨rfl, rfl⟩
end Go.Proofs.Ygcfae
