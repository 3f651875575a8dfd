import Derived.Test.YgcfaeNum
namespace Go.Proofs.Ygcfae
open Go.RowKit

/-- a letter that is a digit in hex -/
def isX (c : UInt8) : Bool := (decide (65 ≤ c.toNat) && decide (c.toNat ≤ 70)) || (decide (97 ≤ c.toNat) && decide (c.toNat ≤ 102))

theorem digV_x {c : UInt8} (h : isX c = true) : digV c = some ((c.toNat - 65) % 32 + 10) := by
  unfold digV; exact if_pos h
theorem digV_d {c : UInt8} (h : isD c = true) : digV c = some (c.toNat - 48) := by
  have : isX c = false := by simp [isD] at h; simp [isX]; omega
  unfold isX at this; unfold digV; rw [if_neg (by rw [this]; simp), if_pos h]
theorem digV_no {c : UInt8} (h : isX c = false) (h2 : isD c = false) : digV c = none := by
  unfold isX at h; unfold digV; rw [if_neg (by rw [h]; simp), if_neg (by rw [h2]; simp)]

theorem or_x {c : UInt8} (h : isX c = true) : bits BinOp.or IntKind.u8 (c.toNat : Int) 32 = 97 + (((c.toNat - 65) % 32 : Nat) : Int) := by
  have h' : c.toNat = 65 ∨ c.toNat = 66 ∨ c.toNat = 67 ∨ c.toNat = 68 ∨ c.toNat = 69 ∨ c.toNat = 70 ∨ c.toNat = 97 ∨ c.toNat = 98 ∨ c.toNat = 99 ∨ c.toNat = 100 ∨ c.toNat = 101 ∨ c.toNat = 102 := by
    simp [isX] at h; omega
  rcases h' with h | h | h | h | h | h | h | h | h | h | h | h <;> rw [h] <;> rfl

theorem num_no {base v k : Nat} {s : ByteArray} (h : k < s.size) (hd : digV s[k] = none) : numFrom base v (s.toList.drop k) = none := by
  rw [drop_cons h, numFrom, hd]
theorem num_big {base v k d : Nat} {s : ByteArray} (h : k < s.size) (hd : digV s[k] = some d) (hb : base ≤ d ∨ 18446744073709551615 < v * base + d) : numFrom base v (s.toList.drop k) = none := by
  rw [drop_cons h, numFrom, hd]
  simp only
  rcases hb with hb | hb
  · rw [if_pos hb]
  · by_cases h2 : base ≤ d
    · rw [if_pos h2]
    · rw [if_neg h2, if_pos hb]
theorem num_go {base v k d : Nat} {s : ByteArray} (h : k < s.size) (hd : digV s[k] = some d) (h1 : ¬ base ≤ d) (h2 : ¬ 18446744073709551615 < v * base + d) :
    numFrom base v (s.toList.drop k) = numFrom base (v * base + d) (s.toList.drop (k + 1)) := by
  rw [drop_cons h, numFrom, hd]
  simp only
  rw [if_neg h1, if_neg h2]
theorem num_end {base v : Nat} {s : ByteArray} : numFrom base v (s.toList.drop s.size) = some v := by
  rw [show s.toList.drop s.size = [] by rw [List.drop_eq_nil_iff, tl_len]; exact Nat.le_refl _]; rfl

theorem ext_to {s : ByteArray} {p e : Nat} : (s.extract p e).toList = (s.toList.take e).drop p := by
  rw [ByteArray.toList_eq, ByteArray.toList_eq, ByteArray.data_extract, Array.toList_extract, List.extract_eq_take_drop, List.drop_take]

set_option maxRecDepth 100000
set_option maxHeartbeats 1000000 in
theorem number_any (s : ByteArray) (w : World) (hs : s.size ≤ 4096) :
    Calls Faeg.prog 107 #[.string s] w fun e w' => e = .returned (.tuple #[.int .u64 (natV (numB s.toList)), .bool (numB s.toList).isSome]) ∧ Below w.heap.size w w' := by
  have hs2 := tl_len s
  obtain ⟨hx, hhx⟩ : ∃ hx, hx = (decide (2 < s.toList.length) && isHex s.toList) := ⟨_, rfl⟩
  have HX : Hid _ := hhx
  clear hhx
  go_enter Faeg.func107, Faeg.ntmps107
  go_upto_region 2 with fail
  go_cut [16] (fun v wc => v = .bool hx ∧ wc = w)
  case first =>
    by_cases h2 : 2 < s.size
    · have e1 : (s.extract 0 2).toList = s.toList.take 2 := by rw [ext_to, List.drop_zero]
      have h2' : decide ((2 : Int) < (s.size : Int)) = true := by simp; omega
      have h3 : (2 : Int) ≤ (s.size : Int) := by omega
      go_wp2_with fail
      go_meet
      exact ⟨by rw [HX.out, hs2, isHex]; simp [h2], rfl⟩
    · have h2' : decide ((2 : Int) < (s.size : Int)) = false := by simp; omega
      go_wp2_with fail
      go_meet
      exact ⟨by rw [HX.out, hs2]; simp [h2], rfl⟩
  case rest =>
    obtain ⟨rfl, rfl⟩ := hcut
    obtain ⟨w, rfl⟩ : ∃ w, w = wc := ⟨_, rfl⟩
    cases hx with
    | false =>
      have hN : numB s.toList = if s.toList = [] then none else numFrom 10 0 (s.toList.drop 0) := by
        unfold numB; rw [if_neg (by rw [← HX.out]; simp), List.drop_zero]
      have HN : Hid _ := hN
      clear hN
      go_wp2_with fail
      go_loop [21, 5] (fun i v => ∃ k n : Nat, k ≤ s.size ∧ n ≤ 18446744073709551615 ∧ i = .int .i64 k ∧ v = .int .u64 n ∧ Hid (numFrom 10 0 (s.toList.drop 0) = numFrom 10 n (s.toList.drop k))) (fun i _ => s.size - (intOf i).toNat)
      case atStart => exact ⟨0, 0, Nat.zero_le _, by omega, rfl, rfl, rfl⟩
      case round =>
        obtain ⟨k, n, hk, hn, rfl, rfl, hF⟩ := hrel
        by_cases hlt : k < s.size
        · have hne : s.toList ≠ [] := by intro e; rw [e] at hs2; simp at hs2; omega
          have HN : Hid (numB s.toList = numFrom 10 0 (s.toList.drop 0)) := by rw [Hid, HN.out, if_neg hne]
          clear hne
          go_upto_region 10 with fail
          go_cut [43] (fun v wc => v = .bool (isX s[k]) ∧ wc = w)
          case first =>
            go_wp2_with fail
            all_goals
              go_meet
              refine ⟨?_, rfl⟩
              congr 1
              rw [Bool.eq_iff_iff]
              simp [isX]
              omega
          case rest =>
            obtain ⟨rfl, rfl⟩ := hcut
            obtain ⟨w, rfl⟩ : ∃ w, w = wc := ⟨_, rfl⟩
            cases hX : isX s[k] with
            | true =>
              have hor := or_x hX
              have hdv := digV_x hX
              have HDV : Hid _ := hdv
              have hd16 : (s[k].toNat - 65) % 32 < 6 := by simp [isX] at hX; omega
              generalize (s[k].toNat - 65) % 32 = d at *
              clear hdv
              obtain ⟨D, hD0⟩ : ∃ D, D = d + 10 := ⟨_, rfl⟩
              rw [← hD0] at HDV
              have e0 : (97 + (d : Int) - 97 + 10) = (D : Int) := by omega
              go_wp2_with (go_at_call 70; refine (digit_any _ _).mono ?_; rintro e w' ⟨rfl, hw⟩; rw [hw]; clear hw)
              all_goals first
                | (go_ret2
                   rw [HN.out, hF.out, num_big hlt HDV.out (by omega)]
                   exact ⟨rfl, Below.refl _ _⟩)
                | (go_round
                   case rel => exact ⟨k + 1, n * 10 + D, by omega, by omega, by go_num, by go_num, by rw [Hid, hF.out, num_go hlt HDV.out (by omega) (by omega)]⟩
                   case measure => simp [intOf]; omega)
            | false =>
              cases hD : isD s[k] with
              | false =>
                go_wp2_with (go_at_call 70; refine (digit_any _ _).mono ?_; rintro e w' ⟨rfl, hw⟩; rw [hw]; clear hw)
                go_ret2
                rw [HN.out, hF.out, num_no hlt (digV_no hX hD)]
                exact ⟨rfl, Below.refl _ _⟩
              | true =>
                have hdv := digV_d hD
                have HDV : Hid _ := hdv
                have hd2 : 48 ≤ s[k].toNat ∧ s[k].toNat ≤ 57 := by simpa [isD] using hD
                obtain ⟨d, hd⟩ : ∃ d, d = s[k].toNat - 48 := ⟨_, rfl⟩
                rw [← hd] at HDV
                have e0 : ((s[k].toNat : Int) - 48) % 256 = (d : Int) := by omega
                clear hdv
                go_wp2_with (go_at_call 70; refine (digit_any _ _).mono ?_; rintro e w' ⟨rfl, hw⟩; rw [hw]; clear hw)
                all_goals first
                  | (go_ret2
                     rw [HN.out, hF.out, num_big hlt HDV.out (by omega)]
                     exact ⟨rfl, Below.refl _ _⟩)
                  | (go_round
                     case rel => exact ⟨k + 1, n * 10 + d, by omega, by omega, by go_num, by go_num, by rw [Hid, hF.out, num_go hlt HDV.out (by omega) (by omega)]⟩
                     case measure => simp [intOf]; omega)
        · have hke : k = s.size := by omega
          subst hke
          cases hemp : s.toList.isEmpty with
          | true =>
            have hne : s.toList = [] := by simpa using hemp
            have h0 : numFrom 10 0 (s.toList.drop 0) = some 0 := by rw [hne]; rfl
            have hn0 : 0 = n := Option.some.inj (h0.symm.trans (hF.out.trans num_end))
            subst hn0
            have h9 : Hid (numB s.toList = none) := by rw [Hid, HN.out, if_pos hne]
            clear h0 hF hne
            go_wp2_with fail
            go_ret2
            rw [h9.out]
            exact ⟨rfl, Below.refl _ _⟩
          | false =>
            have hne : ¬ s.toList = [] := by simpa using hemp
            clear hemp
            have hemp : s.toList.isEmpty = false := by simpa using hne
            have HNE : Hid _ := hne
            clear hne
            go_wp2_with fail
            go_ret2
            rw [HN.out, if_neg HNE.out, hF.out, num_end]
            exact ⟨rfl, Below.refl _ _⟩
    | true =>
      have h2 : 2 < s.size := by
        have := HX.out
        simp at this
        omega
      obtain ⟨t, ht⟩ : ∃ t, t = s.extract 2 s.size := ⟨_, rfl⟩
      have htl : t.toList = s.toList.drop 2 := by
        rw [ht, ext_to, List.take_of_length_le (by rw [tl_len]; exact Nat.le_refl _)]
      have hts : t.size = s.size - 2 := by
        rw [← tl_len, htl, List.length_drop, tl_len]
      have hN : numB s.toList = numFrom 16 0 (t.toList.drop 0) := by
        unfold numB; rw [if_pos (by rw [← HX.out]), List.drop_zero, htl]
      have HN : Hid _ := hN
      have ht1 : t.toList.isEmpty = false := by
        cases h : t.toList with
        | nil => rw [← tl_len, h] at hts; simp at hts; omega
        | cons => rfl
      clear hN htl
      go_upto_region 3 with fail
      go_quiet (fail)
      rw [← ht]
      have hbW : Below w.heap.size w (w.drewN nq) := below_drewN (Below.refl _ _) _
      generalize w.drewN nq = W at *
      clear ht
      go_wp2_with fail
      go_loop [21, 5] (fun i v => ∃ k n : Nat, k ≤ t.size ∧ n ≤ 18446744073709551615 ∧ i = .int .i64 k ∧ v = .int .u64 n ∧ Hid (numFrom 16 0 (t.toList.drop 0) = numFrom 16 n (t.toList.drop k))) (fun i _ => t.size - (intOf i).toNat)
      case atStart => exact ⟨0, 0, Nat.zero_le _, by omega, rfl, rfl, rfl⟩
      case round =>
        obtain ⟨k, n, hk, hn, rfl, rfl, hF⟩ := hrel
        by_cases hlt : k < t.size
        · go_upto_region 10 with fail
          go_cut [43] (fun v wc => v = .bool (isX t[k]) ∧ wc = W)
          case first =>
            go_wp2_with fail
            all_goals
              go_meet
              refine ⟨?_, rfl⟩
              congr 1
              rw [Bool.eq_iff_iff]
              simp [isX]
              omega
          case rest =>
            obtain ⟨rfl, rfl⟩ := hcut
            obtain ⟨W, rfl⟩ : ∃ W, W = wc := ⟨_, rfl⟩
            cases hX : isX t[k] with
            | true =>
              have hor := or_x hX
              have hdv := digV_x hX
              have HDV : Hid _ := hdv
              have hd16 : (t[k].toNat - 65) % 32 < 6 := by simp [isX] at hX; omega
              generalize (t[k].toNat - 65) % 32 = d at *
              clear hdv
              obtain ⟨D, hD0⟩ : ∃ D, D = d + 10 := ⟨_, rfl⟩
              rw [← hD0] at HDV
              have e0 : (97 + (d : Int) - 97 + 10) = (D : Int) := by omega
              go_wp2_with (go_at_call 70; refine (digit_any _ _).mono ?_; rintro e w' ⟨rfl, hw⟩; rw [hw]; clear hw)
              all_goals first
                | (go_ret2
                   rw [HN.out, hF.out, num_big hlt HDV.out (by omega)]
                   exact ⟨rfl, hbW⟩)
                | (go_round
                   case rel => exact ⟨k + 1, n * 16 + D, by omega, by omega, by go_num, by go_num, by rw [Hid, hF.out, num_go hlt HDV.out (by omega) (by omega)]⟩
                   case measure => simp [intOf]; omega)
            | false =>
              cases hD : isD t[k] with
              | false =>
                go_wp2_with (go_at_call 70; refine (digit_any _ _).mono ?_; rintro e w' ⟨rfl, hw⟩; rw [hw]; clear hw)
                go_ret2
                rw [HN.out, hF.out, num_no hlt (digV_no hX hD)]
                exact ⟨rfl, hbW⟩
              | true =>
                have hdv := digV_d hD
                have HDV : Hid _ := hdv
                have hd2 : 48 ≤ t[k].toNat ∧ t[k].toNat ≤ 57 := by simpa [isD] using hD
                obtain ⟨d, hd⟩ : ∃ d, d = t[k].toNat - 48 := ⟨_, rfl⟩
                rw [← hd] at HDV
                have e0 : ((t[k].toNat : Int) - 48) % 256 = (d : Int) := by omega
                clear hdv
                go_wp2_with (go_at_call 70; refine (digit_any _ _).mono ?_; rintro e w' ⟨rfl, hw⟩; rw [hw]; clear hw)
                all_goals first
                  | (go_ret2
                     rw [HN.out, hF.out, num_big hlt HDV.out (by omega)]
                     exact ⟨rfl, hbW⟩)
                  | (go_round
                     case rel => exact ⟨k + 1, n * 16 + d, by omega, by omega, by go_num, by go_num, by rw [Hid, hF.out, num_go hlt HDV.out (by omega) (by omega)]⟩
                     case measure => simp [intOf]; omega)
        · have hke : k = t.size := by omega
          subst hke
          go_wp2_with fail
          go_ret2
          rw [HN.out, hF.out, num_end]
          exact ⟨rfl, hbW⟩
end Go.Proofs.Ygcfae
