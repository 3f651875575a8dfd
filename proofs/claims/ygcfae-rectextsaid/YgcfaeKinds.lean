import Derived.Test.YgcfaeTxtLeaf
import Derived.Test.YgcfaeData
namespace Go.Proofs.Ygcfae
open Go.RowKit

def bsV (l : Bs) : ByteArray := ⟨l.toArray⟩
theorem bsV_toList (l : Bs) : (bsV l).toList = l := ByteArray.toList_mk l

theorem index_kn (k : Nat) (h1 : k ≤ 11) (w : World) :
    (Instr.index 158 (.agg #[.string ⟨#[66, 111, 111, 108]⟩, .string ⟨#[73, 110, 116, 56]⟩, .string ⟨#[73, 110, 116, 49, 54]⟩, .string ⟨#[73, 110, 116, 51, 50]⟩, .string ⟨#[73, 110, 116, 54, 52]⟩, .string ⟨#[85, 73, 110, 116, 56]⟩, .string ⟨#[85, 73, 110, 116, 49, 54]⟩, .string ⟨#[85, 73, 110, 116, 51, 50]⟩, .string ⟨#[85, 73, 110, 116, 54, 52]⟩, .string ⟨#[70, 108, 111, 97, 116, 51, 50]⟩, .string ⟨#[70, 108, 111, 97, 116, 54, 52]⟩, .string ⟨#[84, 101, 120, 116]⟩]) (.int .u8 (k : Int))).run Faeg.prog w = .ok (.string (bsV (kindNameB k))) w := by
  rcases (show k = 0 ∨ k = 1 ∨ k = 2 ∨ k = 3 ∨ k = 4 ∨ k = 5 ∨ k = 6 ∨ k = 7 ∨ k = 8 ∨ k = 9 ∨ k = 10 ∨ k = 11 by omega) with rfl | rfl | rfl | rfl | rfl | rfl | rfl | rfl | rfl | rfl | rfl | rfl
  all_goals kernel_rfl

set_option maxRecDepth 100000
set_option maxHeartbeats 400000 in
theorem kindName_any (k : Nat) (w : World) :
    Calls Faeg.prog 48 #[.int .u8 (k : Int)] w fun e w' => e = .returned (.string (bsV (kindNameB k))) ∧ w' = w := by
  by_cases h14 : k = 14
  · subst h14
    go_enter Faeg.func48, Faeg.ntmps48
    go_wp2
    go_ret
    exact ⟨rfl, rfl⟩
  · have h14' : ((k : Int) == 14) = false := by simp; omega
    by_cases h11 : 11 < k
    · have hk : Hid (kindNameB k = []) := by
        show _ = _
        unfold kindNameB
        rw [if_neg h14, List.getD_eq_getElem?_getD, List.getElem?_eq_none (by simp [kNames]; omega)]; rfl
      go_enter Faeg.func48, Faeg.ntmps48
      go_wp2
      go_ret
      rw [hk.out]
      exact ⟨rfl, rfl⟩
    · have hi := index_kn k (by omega)
      go_enter Faeg.func48, Faeg.ntmps48
      go_wp2
      go_ret
      exact ⟨rfl, rfl⟩

def kindV (r : Option Nat) : Int := ((r.getD 0 : Nat) : Int)

theorem kindFrom_hit {s : Bs} {n k : Nat} (h1 : s ≠ []) (h2 : kindNameB k = s) : kindFrom s (n + 1) k = some k := by
  have h3 : kindNameB k ≠ [] := by rw [h2]; exact h1
  simp [kindFrom, h2, h1]
theorem kindFrom_miss {s : Bs} {n k : Nat} (h : s = [] ∨ kindNameB k ≠ s) : kindFrom s (n + 1) k = kindFrom s n (k + 1) := by
  have hc : ¬ ((s != [] && kindNameB k == s) = true) := by
    simp
    rcases h with h | h
    · exact fun e => absurd h e
    · exact fun _ => h
  rw [kindFrom, if_neg hc]

set_option maxHeartbeats 400000 in
theorem kindOf_any (s : ByteArray) (w : World) :
    Calls Faeg.prog 71 #[.string s] w fun e w' => e = .returned (.tuple #[.int .u8 (kindV (kindOfB s.toList)), .bool (kindOfB s.toList).isSome]) ∧ w' = w := by
  go_enter Faeg.func71, Faeg.ntmps71
  go_wp2_with fail
  go_loop [4] (fun i => ∃ k : Nat, k ≤ 15 ∧ i = .int .u8 (k : Int) ∧ Hid (kindOfB s.toList = kindFrom s.toList (15 - k) k)) (fun i => 15 - (intOf i).toNat)
  case atStart => exact ⟨0, by omega, rfl, rfl⟩
  case round =>
    obtain ⟨k, hk, rfl, hr⟩ := hrel
    by_cases hlt : k ≤ 14
    · have e15 : 15 - k = (14 - k) + 1 := by omega
      have hbt := bsV_toList (kindNameB k)
      cases he : s.toList.isEmpty with
      | true =>
        have hm := kindFrom_miss (s := s.toList) (n := 14 - k) (k := k) (.inl (by simpa using he))
        have HN : Hid (kindOfB s.toList = kindFrom s.toList (15 - (k + 1)) (k + 1)) := by
          show _ = _
          rw [hr.out, e15, hm, show 14 - k = 15 - (k + 1) by omega]
        clear hm e15 hr
        go_wp2_with (first | (go_at_call 48; refine (kindName_any _ _).mono ?_; rintro e w' ⟨rfl, hw⟩; rw [hw]; clear hw))
        go_round
        case rel => exact ⟨k + 1, by omega, by go_num, HN⟩
        case measure => simp [intOf]; omega
      | false =>
        have hne : s.toList ≠ [] := by
          intro e; rw [e] at he; cases he
        cases hq : (kindNameB k == s.toList) with
        | false =>
          have hm := kindFrom_miss (s := s.toList) (n := 14 - k) (k := k) (.inr (by simpa using hq))
          have HN : Hid (kindOfB s.toList = kindFrom s.toList (15 - (k + 1)) (k + 1)) := by
            show _ = _
            rw [hr.out, e15, hm, show 14 - k = 15 - (k + 1) by omega]
          clear hm e15 hr hne
          go_wp2_with (first | (go_at_call 48; refine (kindName_any _ _).mono ?_; rintro e w' ⟨rfl, hw⟩; rw [hw]; clear hw))
          go_round
          case rel => exact ⟨k + 1, by omega, by go_num, HN⟩
          case measure => simp [intOf]; omega
        | true =>
          have HN : Hid (kindOfB s.toList = some k) := by
            show _ = _
            rw [hr.out, e15, kindFrom_hit hne (by simpa using hq)]
          clear e15 hr hne
          go_wp2_with (first | (go_at_call 48; refine (kindName_any _ _).mono ?_; rintro e w' ⟨rfl, hw⟩; rw [hw]; clear hw))
          go_ret2
          rw [HN.out]
          exact ⟨rfl, rfl⟩
    · have HN : Hid (kindOfB s.toList = none) := by
        show _ = _
        rw [hr.out, show 15 - k = 0 by omega]; rfl
      go_wp2_with fail
      go_ret2
      rw [HN.out]
      exact ⟨rfl, rfl⟩

set_option maxHeartbeats 400000 in
theorem builtIn_any (s : ByteArray) (w : World) :
    Calls Faeg.prog 50 #[.string s] w fun e w' => e = .returned (.bool (builtInB s.toList)) ∧ w' = w := by
  cases hk : (kindOfB s.toList).isSome with
  | true =>
    go_enter Faeg.func50, Faeg.ntmps50
    go_wp2_with (go_at_call 71; refine (kindOf_any _ _).mono ?_; rintro e w' ⟨rfl, hw⟩; rw [hw]; clear hw)
    go_ret
    exact ⟨ret_bool (by simp [builtInB, hk]), rfl⟩
  | false =>
    go_enter Faeg.func50, Faeg.ntmps50
    go_wp2_with (go_at_call 71; refine (kindOf_any _ _).mono ?_; rintro e w' ⟨rfl, hw⟩; rw [hw]; clear hw)
    go_ret
    exact ⟨ret_bool (by simp [builtInB, hk, sList]), rfl⟩
end Go.Proofs.Ygcfae
