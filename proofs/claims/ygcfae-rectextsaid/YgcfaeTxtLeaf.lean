import Derived.Test.YgcfaeTxt
namespace Go.Proofs.Ygcfae
open Go.RowKit

theorem ret_bool {a b : Bool} (h : a = b) : Ending.returned (.bool a) = .returned (.bool b) := by rw [h]
theorem tl_len (s : ByteArray) : s.toList.length = s.size := by rw [ByteArray.toList_eq]; simp
theorem tl_get (s : ByteArray) (i : Nat) (h : i < s.size) : s.toList[i]'(by rw [tl_len]; exact h) = s[i] := by
  have : s.toList[i]? = some s[i] := by rw [ByteArray.toList_eq, List.getElem?_eq_getElem (by simpa using h)]; rfl
  rw [List.getElem?_eq_getElem (by rw [tl_len]; exact h)] at this
  exact Option.some.inj this
theorem tl_cons (s : ByteArray) (h : 0 < s.size) : s.toList = s[0] :: s.toList.drop 1 := by
  have := List.drop_eq_getElem_cons (l := s.toList) (i := 0) (by rw [tl_len]; exact h)
  rw [tl_get s 0 h] at this
  simpa using this

set_option maxRecDepth 100000
set_option maxHeartbeats 400000 in
theorem letter_any (c : UInt8) (w : World) :
    Calls Faeg.prog 69 #[.int .u8 (c.toNat : Int)] w fun e w' => e = .returned (.bool (isL c)) ∧ w' = w := by
  have hc : c.toNat < 256 := c.toNat_lt
  go_enter Faeg.func69, Faeg.ntmps69
  go_wp2
  all_goals
    go_ret
    refine ⟨ret_bool ?_, rfl⟩
    rw [Bool.eq_iff_iff]
    simp [isL]
    omega

set_option maxHeartbeats 400000 in
theorem digit_any (c : UInt8) (w : World) :
    Calls Faeg.prog 70 #[.int .u8 (c.toNat : Int)] w fun e w' => e = .returned (.bool (isD c)) ∧ w' = w := by
  have hc : c.toNat < 256 := c.toNat_lt
  go_enter Faeg.func70, Faeg.ntmps70
  go_wp2
  all_goals
    go_ret
    refine ⟨ret_bool ?_, rfl⟩
    rw [Bool.eq_iff_iff]
    simp [isD]
    omega

/-- the tests ahead of isName's loop -/
def hd0 (s : ByteArray) : UInt8 := s.toList.headD 0
def nameHead (s : ByteArray) (cap : Bool) : Bool :=
  s.toList.isEmpty || decide (8 < (s.size : Int)) || !(isL (hd0 s)) || (cap && decide ((90 : Int) < ((hd0 s).toNat : Int))) || (s.toList == [117, 110, 105, 111, 110])

theorem isNameB_eq (s : ByteArray) (cap : Bool) : isNameB s.toList cap = (!(nameHead s cap) && (s.toList.drop 1).all isWc) := by
  have hl := tl_len s
  unfold nameHead hd0
  cases h : s.toList with
  | nil => rfl
  | cons c cs =>
    rw [h] at hl
    simp only [List.length_cons] at hl
    rw [Bool.eq_iff_iff]
    simp only [isNameB, List.isEmpty_cons, List.headD_cons, Bool.false_or, List.drop_succ_cons, List.drop_zero, sUnion]
    have e1 : decide (cs.length < 8) = !decide (8 < (s.size : Int)) := by rw [Bool.eq_iff_iff]; simp; omega
    have e2 : decide (90 < c.toNat) = decide ((90 : Int) < (c.toNat : Int)) := by rw [Bool.eq_iff_iff]; simp; omega
    rw [e1, e2]
    by_cases h90 : (90 : Int) < (c.toNat : Int)
    all_goals
      cases decide (8 < (s.size : Int)) <;> cases isL c <;> cases cap <;> cases ((c :: cs) == [117, 110, 105, 111, 110]) <;> cases cs.all isWc <;> simp [h90]
    all_goals omega

theorem empty_size {s : ByteArray} (h : s.size = 0) : s.toList.isEmpty = true := by
  rw [List.isEmpty_iff_length_eq_zero, tl_len]; exact h
theorem empty_size' {s : ByteArray} (h : 0 < s.size) : s.toList.isEmpty = false := by
  cases he : s.toList.isEmpty with
  | false => rfl
  | true => rw [List.isEmpty_iff_length_eq_zero, tl_len] at he; omega
theorem head_get {s : ByteArray} (h : 0 < s.size) : hd0 s = s[0] := by unfold hd0; rw [tl_cons s h]; rfl

theorem all_take_succ {l : Bs} {k : Nat} (h : k < l.length) (p : UInt8 → Bool) : (l.take (k + 1)).all p = ((l.take k).all p && p l[k]) := by
  rw [List.take_succ_eq_append_getElem h, List.all_append]; simp

set_option maxHeartbeats 1000000 in
theorem isName_any (s : ByteArray) (cap : Bool) (w : World) :
    Calls Faeg.prog 49 #[.string s, .bool cap] w fun e w' => e = .returned (.bool (isNameB s.toList cap)) ∧ w' = w := by
  have HE : Hid _ := isNameB_eq s cap
  go_enter Faeg.func49, Faeg.ntmps49
  go_upto_region 1 with fail
  go_cut [30] (fun v wc => v = .bool (nameHead s cap) ∧ wc = w)
  case first =>
    by_cases h0 : s.size = 0
    · have he := empty_size h0
      go_wp2_with fail
      go_meet
      simp [nameHead, he]
    · have h1 : 0 < s.size := by omega
      have he := empty_size' h1
      have hh := head_get h1
      by_cases h8 : 8 < (s.size : Int)
      · clear hh
        go_wp2_with fail
        go_meet
        simp [nameHead, he, h8]
      · have h8' : decide (8 < (s.size : Int)) = false := by simpa using h8
        have HH : Hid _ := hh
        clear hh
        cases hl : isL s[0] with
        | false =>
          go_wp2_with (go_at_call 69; refine (letter_any _ _).mono ?_; rintro e w' ⟨rfl, hw⟩; rw [hw]; clear hw)
          go_meet
          simp [nameHead, HH.out, hl]
        | true =>
          cases cap with
          | false =>
            go_wp2_with (go_at_call 69; refine (letter_any _ _).mono ?_; rintro e w' ⟨rfl, hw⟩; rw [hw]; clear hw)
            go_meet
            simp [nameHead, HH.out, hl, he, h8']
          | true =>
            by_cases h90 : (90 : Int) < (s[0].toNat : Int)
            · go_wp2_with (go_at_call 69; refine (letter_any _ _).mono ?_; rintro e w' ⟨rfl, hw⟩; rw [hw]; clear hw)
              go_meet
              simp [nameHead, HH.out, h90]
            · have h90' : decide ((90 : Int) < (s[0].toNat : Int)) = false := by simpa using h90
              go_wp2_with (go_at_call 69; refine (letter_any _ _).mono ?_; rintro e w' ⟨rfl, hw⟩; rw [hw]; clear hw)
              go_meet
              simp [nameHead, HH.out, hl, he, h8', h90']
  case rest =>
    obtain ⟨rfl, rfl⟩ := hcut
    cases hn : nameHead s cap with
    | true =>
      go_wp2_with fail
      go_ret
      exact ⟨ret_bool (by rw [HE.out, hn]; rfl), rfl⟩
    | false =>
      have h8 : s.size ≤ 8 := by
        by_cases h : 8 < (s.size : Int)
        · simp [nameHead, h] at hn
        · omega
      have h1 : 0 < s.size := by
        by_cases h : s.size = 0
        · simp [nameHead, empty_size h] at hn
        · omega
      go_wp2_with fail
      go_loop [5] (fun i => ∃ k : Nat, k < s.size ∧ i = .int .i64 ((k + 1 : Nat) : Int) ∧ Hid (((s.toList.drop 1).take k).all isWc = true)) (fun i => s.size - (intOf i).toNat)
      case atStart => exact ⟨0, h1, rfl, rfl⟩
      case round =>
        obtain ⟨k, hk, rfl, ha⟩ := hrel
        by_cases hlt : k + 1 < s.size
        · have hg : (s.toList.drop 1)[k]'(by rw [List.length_drop, tl_len]; omega) = s[k + 1] := by
            rw [List.getElem_drop]
            have := tl_get s (k + 1) hlt
            simp only [Nat.add_comm 1 k]
            exact this
          have hs : Hid (((s.toList.drop 1).take (k + 1)).all isWc = isWc s[k + 1]) := by
            show _ = _
            rw [all_take_succ (by rw [List.length_drop, tl_len]; omega), ha.out, hg]; rfl
          clear hg
          have hw : isWc s[k + 1] = (isL s[k + 1] || isD s[k + 1]) := rfl
          have HW : Hid _ := hw
          clear hw
          cases hl : isL s[k + 1] with
          | true =>
            go_wp2_with (first | (go_at_call 69; refine (letter_any _ _).mono ?_; rintro e w' ⟨rfl, hw⟩; rw [hw]; clear hw) | (go_at_call 70; refine (digit_any _ _).mono ?_; rintro e w' ⟨rfl, hw⟩; rw [hw]; clear hw))
            go_round
            case rel => exact ⟨k + 1, hlt, by go_num, by rw [Hid, hs.out, HW.out, hl]; rfl⟩
            case measure => simp [intOf]; omega
          | false =>
            cases hd : isD s[k + 1] with
            | true =>
              go_wp2_with (first | (go_at_call 69; refine (letter_any _ _).mono ?_; rintro e w' ⟨rfl, hw⟩; rw [hw]; clear hw) | (go_at_call 70; refine (digit_any _ _).mono ?_; rintro e w' ⟨rfl, hw⟩; rw [hw]; clear hw))
              go_round
              case rel => exact ⟨k + 1, hlt, by go_num, by rw [Hid, hs.out, HW.out, hl, hd]; rfl⟩
              case measure => simp [intOf]; omega
            | false =>
              go_wp2_with (first | (go_at_call 69; refine (letter_any _ _).mono ?_; rintro e w' ⟨rfl, hw⟩; rw [hw]; clear hw) | (go_at_call 70; refine (digit_any _ _).mono ?_; rintro e w' ⟨rfl, hw⟩; rw [hw]; clear hw))
              go_ret
              refine ⟨ret_bool ?_, rfl⟩
              rw [HE.out, hn]
              have hf : ((s.toList.drop 1).take (k + 1)).all isWc = false := by rw [hs.out, HW.out, hl, hd]; rfl
              have : (s.toList.drop 1).all isWc = false := by
                cases h : (s.toList.drop 1).all isWc with
                | false => rfl
                | true =>
                  rw [List.all_eq_false] at hf
                  obtain ⟨x, hx, hx2⟩ := hf
                  exact absurd (List.all_eq_true.1 h x (List.mem_of_mem_take hx)) hx2
              rw [this]; rfl
        · go_wp2_with fail
          go_ret
          refine ⟨ret_bool ?_, rfl⟩
          rw [HE.out, hn]
          have := ha.out
          rw [List.take_of_length_le (by rw [List.length_drop, tl_len]; omega)] at this
          rw [this]; rfl
end Go.Proofs.Ygcfae
