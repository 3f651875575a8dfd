import Derived.Test.YgcfaePar
namespace Go.Proofs.Ygcfae
open Go.RowKit

theorem ord_drop {s : ByteArray} {k n : Nat} (h : k < s.size) (hd : isD s[k] = true) : ordFrom n (s.toList.drop k) = ordFrom (min (n * 10 + (s[k].toNat - 48)) 16) (s.toList.drop (k + 1)) := by
  rw [drop_cons h, ordFrom, if_pos hd]
theorem ord_stop {s : ByteArray} {k n : Nat} (h : k < s.size) (hd : isD s[k] = false) : ordFrom n (s.toList.drop k) = none := by
  rw [drop_cons h, ordFrom, if_neg (by simp [hd])]
theorem ord_end {s : ByteArray} {n : Nat} : ordFrom n (s.toList.drop s.size) = some n := by
  rw [show s.toList.drop s.size = [] by rw [List.drop_eq_nil_iff, tl_len]; exact Nat.le_refl _]; rfl

def natV (o : Option Nat) : Int := ((o.getD 0 : Nat) : Int)

set_option maxRecDepth 100000
set_option maxHeartbeats 400000 in
theorem ordinal_any (s : ByteArray) (w : World) (hs : s.size ≤ 4096) :
    Calls Faeg.prog 94 #[.string s] w fun e w' => e = .returned (.tuple #[.int .i64 (natV (ordB s.toList)), .bool (ordB s.toList).isSome]) ∧ w' = w := by
  by_cases h0 : s.size = 0
  · have he : s.toList = [] := List.eq_nil_of_length_eq_zero (by rw [tl_len]; exact h0)
    have hB : ordB s.toList = none := by rw [he]; rfl
    rw [hB]
    clear hB
    go_enter Faeg.func94, Faeg.ntmps94
    go_wp2_with fail
    go_loop [8, 4] (fun i n => i = .int .i64 0 ∧ n = .int .i64 0) (fun _ _ => 0)
    case atStart => exact ⟨rfl, rfl⟩
    case round =>
      obtain ⟨rfl, rfl⟩ := hrel
      go_wp2_with fail
      go_ret2
      exact ⟨rfl, rfl⟩
  · have hne : s.toList ≠ [] := by intro e; rw [← tl_len, e] at h0; exact h0 rfl
    have hemp : s.toList.isEmpty = false := by cases h : s.toList with
      | nil => exact absurd h hne
      | cons => rfl
    have hB : ordB s.toList = ordFrom 0 (s.toList.drop 0) := by unfold ordB; rw [if_neg hne, List.drop_zero]
    have HB : Hid _ := hB
    clear hB hne
    go_enter Faeg.func94, Faeg.ntmps94
    go_wp2_with fail
    go_loop [8, 4] (fun i v => ∃ k n : Nat, k ≤ s.size ∧ n ≤ 16 ∧ i = .int .i64 k ∧ v = .int .i64 n ∧ Hid (ordB s.toList = ordFrom n (s.toList.drop k))) (fun i _ => s.size - (intOf i).toNat)
    case atStart => exact ⟨0, 0, Nat.zero_le _, by omega, rfl, rfl, HB⟩
    case round =>
      obtain ⟨k, n, hk, hn, rfl, rfl, hF⟩ := hrel
      by_cases hlt : k < s.size
      · cases hd : isD s[k] with
        | false =>
          go_wp2_with (go_at_call 70; refine (digit_any _ _).mono ?_; rintro e w' ⟨rfl, hw⟩; rw [hw]; clear hw)
          go_ret2
          rw [hF.out, ord_stop hlt hd]
          exact ⟨rfl, rfl⟩
        | true =>
          have hd2 : 48 ≤ s[k].toNat ∧ s[k].toNat ≤ 57 := by simpa [isD] using hd
          go_wp2_with (go_at_call 70; refine (digit_any _ _).mono ?_; rintro e w' ⟨rfl, hw⟩; rw [hw]; clear hw)
          all_goals
            go_round
            case rel =>
              refine ⟨k + 1, min (n * 10 + (s[k].toNat - 48)) 16, by omega, by omega, by go_num, ?_, by rw [Hid, hF.out, ord_drop hlt hd]⟩
              go_num
            case measure => simp [intOf]; omega
      · have hke : k = s.size := by omega
        subst hke
        go_wp2_with fail
        go_ret2
        rw [hF.out, ord_end]
        exact ⟨by simp [natV], rfl⟩
end Go.Proofs.Ygcfae
