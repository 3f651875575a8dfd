import Derived.Test.YgcfaeNumB
import Derived.Test.YgcfaeParB
import Derived.Test.YgcfaePLaw
namespace Go.Proofs.Ygcfae
open Go.RowKit

theorem Par.tok_len {w : World} {pb : Nat} {T : ByteArray} {l : Lx} {sv uv nv : Value} (h : Par w pb T l sv uv nv) : l.tok.length ≤ 4096 := by
  obtain ⟨p, e, hl, -⟩ := h
  rw [hl.tok, List.length_take, List.length_drop]
  have := hl.len
  omega

/-- valB over Booleans -/
def valC (c1 tr c2 b1 b2 b3 b4 neg sn : Bool) (num : Option Nat) (most : Int) : Option Int :=
  if c1 then some (if tr then 1 else 0)
  else if c2 then none
  else if b1 || b2 || b3 || b4 then none
  else match num with
    | none => none
    | some v =>
      if neg then (if (v : Int) ≤ most / 2 + 1 then some (bits BinOp.and IntKind.u64 (IntKind.u64.wrap (-(v : Int))) most) else none)
      else if sn then (if (v : Int) ≤ most / 2 then some v else none)
      else (if (v : Int) ≤ most then some v else none)

def badHead (s : Bs) : Bool := match s with
  | [] => true
  | c :: _ => !(isD c)

theorem valB_eq (kind : Int) (neg : Bool) (s : Bs) : valB kind neg s =
    valC (kind == 0 && !neg && (s == sTrue || s == sFalse)) (s == sTrue) (badHead s)
      ((kind == 9 || kind == 10) && !(isHex s)) (kind == 0 && !(isHex s)) (isHex s && neg) (neg && !(decide (1 ≤ kind) && decide (kind ≤ 4)))
      neg ((decide (1 ≤ kind) && decide (kind ≤ 4)) && !(isHex s)) (numB s) (mostB kind) := by
  unfold valB valC badHead
  cases s with
  | nil => rfl
  | cons c cs => rfl

theorem numFrom_le {base : Nat} : ∀ (s : Bs) (v n : Nat), v ≤ 18446744073709551615 → numFrom base v s = some n → n ≤ 18446744073709551615
  | [], v, n, hv, h => by simp [numFrom] at h; omega
  | c :: cs, v, n, hv, h => by
    unfold numFrom at h
    split at h
    · cases h
    · split at h
      · cases h
      · split at h
        · cases h
        · exact numFrom_le cs _ n (by omega) h
theorem numB_le {s : Bs} {n : Nat} (h : numB s = some n) : n ≤ 18446744073709551615 := by
  unfold numB at h
  split at h
  · exact numFrom_le _ _ _ (by omega) h
  · split at h
    · cases h
    · exact numFrom_le _ _ _ (by omega) h
theorem mostB_fits {k : Int} (h : wd k ≠ 0) : 0 ≤ mostB k ∧ mostB k ≤ 18446744073709551615 := by
  unfold mostB wd at *
  generalize k.toNat = n at *
  by_cases hn : n < 11
  · have : ∀ n : Fin 11, 0 ≤ (2 : Int) ^ (([1, 8, 16, 32, 64, 8, 16, 32, 64, 32, 64] : List Int).getD n.1 0).toNat - 1 ∧ (2 : Int) ^ (([1, 8, 16, 32, 64, 8, 16, 32, 64, 32, 64] : List Int).getD n.1 0).toNat - 1 ≤ 18446744073709551615 := by decide
    exact this ⟨n, hn⟩
  · exfalso
    apply h
    rw [List.getD_eq_getElem?_getD, List.getElem?_eq_none (by simp; omega)]; rfl

def VPost (o : Option (Int × Lx)) (pb : Nat) (T : ByteArray) (sv uv nv : Value) (w : World) : Ending → World → Prop := fun r w' =>
  Mod (· = pb) w w' ∧ match o with
    | none => r = .returned (.tuple #[.int .u64 0, .bool false]) ∧ Bad w' pb
    | some (v, l1) => r = .returned (.tuple #[.int .u64 v, .bool true]) ∧ Par w' pb T l1 sv uv nv

theorem shr_most {k : Int} (h : wd k ≠ 0) : mostB k = 18446744073709551615 / 2 ^ (64 - wd k).toNat := by
  unfold mostB wd at *
  generalize k.toNat = n at *
  by_cases hn : n < 11
  · have : ∀ n : Fin 11, (2 : Int) ^ (([1, 8, 16, 32, 64, 8, 16, 32, 64, 32, 64] : List Int).getD n.1 0).toNat - 1 = 18446744073709551615 / 2 ^ (64 - ([1, 8, 16, 32, 64, 8, 16, 32, 64, 32, 64] : List Int).getD n.1 0).toNat := by decide
    exact this ⟨n, hn⟩
  · exfalso
    apply h
    rw [List.getD_eq_getElem?_getD, List.getElem?_eq_none (by simp; omega)]; rfl

set_option maxRecDepth 100000
set_option maxHeartbeats 2000000 in
theorem value_any {w : World} {pb : Nat} {T : ByteArray} {l : Lx} {sv uv nv : Value} (kind : Int) (h : Par w pb T l sv uv nv) (hk0 : 0 ≤ kind) (hk1 : kind ≤ 255) :
    Calls Faeg.prog 96 #[.pointer (some ⟨pb, 0, none⟩), .int .u8 kind] w (VPost (valueB kind l) pb T sv uv nv w) := by
  have hwd : ∀ w, Calls Faeg.prog 32 #[.int .u8 kind] w fun e w' => e = .returned (.int .u8 (wd kind)) ∧ w' = w := fun w => width_any kind w hk0
  have HWD : Hid _ := hwd
  clear hwd
  obtain ⟨p, e, hl, ho⟩ := h
  obtain ⟨c0, c1, c2, -, -, -, -, -⟩ := pcs8 ho
  have hlt := ho.lt
  by_cases hw0 : wd kind = 0
  · have hV : valueB kind l = none := by unfold valueB; rw [if_pos hw0]
    rw [hV]
    clear hV
    have HP : Par w pb T l sv uv nv := ⟨p, e, hl, ho⟩
    go_enter Faeg.func96, Faeg.ntmps96
    go_upto_region 1 with fail
    go_quiet ((go_at_call 32; refine (HWD.out _).mono ?_; rintro e w' ⟨rfl, hww⟩; exact ⟨rfl, _, hww⟩))
    have HPW : Par (w.drewN nq) pb T l sv uv nv := HP
    have hMW : Mod (· = pb) w (w.drewN nq) := (Mod.refl _ _).drewN _
    generalize w.drewN nq = W at *
    go_wp2_with (go_at_call 93; refine (fail_as 7 HPW (by decide) (by decide)).mono ?_; rintro r w2 ⟨rfl, hB2, hm2⟩)
    go_ret2
    exact ⟨hMW.trans hm2, rfl, hB2⟩
  · have hwz : (wd kind == 0) = false := by simpa using hw0
    have HP : Par w pb T l sv uv nv := ⟨p, e, hl, ho⟩
    obtain ⟨s0, hs0⟩ : ∃ s0 : ByteArray, s0.toList = l.tok := ⟨bsV l.tok, bsV_toList _⟩
    obtain ⟨neg, hneg⟩ : ∃ neg, (s0.toList == [45]) = neg := ⟨_, rfl⟩
    obtain ⟨l1, hl1⟩ : ∃ l1, l1 = if neg then nx l else l := ⟨_, rfl⟩
    have hV : Hid (valueB kind l = match valB kind neg l1.tok with | none => none | some v => some (v, nx l1)) := by
      rw [Hid]; unfold valueB; rw [if_neg hw0, hl1, ← hneg, hs0]; rfl
    have HS0 : Hid _ := hs0
    clear hs0
    go_enter Faeg.func96, Faeg.ntmps96
    go_upto_region 1 with fail
    go_quiet ((go_at_call 32; refine (HWD.out _).mono ?_; rintro e w' ⟨rfl, hww⟩; exact ⟨rfl, _, hww⟩))
    have HPW : Par (w.drewN nq) pb T l sv uv nv := HP
    have hMW : Mod (· = pb) w (w.drewN nq) := (Mod.refl _ _).drewN _
    generalize w.drewN nq = W at *
    clear c0 c1 c2
    go_upto_if 29 with (go_at_call 53; refine (tok_as HPW HS0.out).mono ?_; rintro r w1 ⟨rfl, hp1, hb1⟩)
    go_cut [29] (fun v wc => Par wc pb T l1 sv uv nv ∧ Mod (· = pb) w wc)
    case first =>
      cases neg with
      | true => as_aux_lemma =>
        go_wp2_with (go_at_call 52; refine (next_any hp1).mono ?_; rintro r w2 ⟨rfl, hp2, hm2⟩)
        go_meet
        subst hl1
        exact ⟨hp2, (hMW.calm hb1).trans hm2⟩
      | false => as_aux_lemma =>
        go_wp2_with fail
        go_meet
        subst hl1
        exact ⟨hp1, hMW.calm hb1⟩
    case rest =>
      obtain ⟨hp2, hm2⟩ := hcut
      have hlen := hp2.tok_len
      obtain ⟨s, hs⟩ : ∃ s : ByteArray, s.toList = l1.tok := ⟨bsV l1.tok, bsV_toList _⟩
      rw [← hs, tl_len] at hlen
      obtain ⟨hx, hhx⟩ : ∃ hx, hx = isHex s.toList := ⟨_, rfl⟩
      obtain ⟨sg, hsg⟩ : ∃ sg, sg = (decide (1 ≤ kind) && decide (kind ≤ 4)) := ⟨_, rfl⟩
      obtain ⟨fl, hfl⟩ : ∃ fl, fl = (kind == 9 || kind == 10) := ⟨_, rfl⟩
      obtain ⟨num, hnum⟩ : ∃ num, num = numB s.toList := ⟨_, rfl⟩
      obtain ⟨most, hmost⟩ : ∃ most, most = mostB kind := ⟨_, rfl⟩
      have hN := fun w => number_any s w hlen
      rw [← hnum] at hN
      rw [← hs, valB_eq, ← hhx, ← hsg, ← hfl, ← hnum, ← hmost] at hV
      have HN : Hid _ := hN
      have HNUM : Hid _ := hnum
      clear hnum
      have HS : Hid _ := hs
      have HHX : Hid _ := hhx
      have HSG : Hid _ := hsg
      have HFL : Hid _ := hfl
      have HMO : Hid _ := hmost
      clear hN hs hhx hsg hfl hmost
      go_upto_region 9 with (first | (go_at_call 53; refine (tok_as hp2 HS.out).mono ?_; rintro r w3 ⟨rfl, hp3, hb3⟩) | (go_at_call 107; refine (HN.out _).mono ?_; rintro r w4 ⟨rfl, hb4⟩))
      have hMW4 : Mod (· = pb) w w4 := (hm2.calm hb3).calm hb4
      have HP4 := hp3.calm hb4
      go_cut [12] (fun v wc => v = .bool hx ∧ wc = w4)
      case first =>
        by_cases h2 : 1 < s.size
        · have e1 : (s.extract 0 2).toList = s.toList.take 2 := by rw [ext_to, List.drop_zero]
          have h2' : decide ((1 : Int) < (s.size : Int)) = true := by simp; omega
          have h3 : (2 : Int) ≤ (s.size : Int) := by omega
          go_wp2_with fail
          go_meet
          exact ⟨by rw [HHX.out, isHex], rfl⟩
        · have h2' : decide ((1 : Int) < (s.size : Int)) = false := by simp; omega
          have h4 : isHex s.toList = false := by
            have := tl_len s
            unfold isHex
            cases h : s.toList with
            | nil => rfl
            | cons c cs =>
              cases cs with
              | nil => simp
              | cons d ds => rw [h] at this; simp at this; omega
          rw [← HHX.out] at h4
          subst h4
          go_wp2_with fail
          go_meet
          exact ⟨rfl, rfl⟩
      case rest =>
        obtain ⟨rfl, rfl⟩ := hcut
        obtain ⟨w4, rfl⟩ : ∃ w4, w4 = wc := ⟨_, rfl⟩
        go_upto_region 10 with fail
        go_cut [13] (fun v wc => v = .bool sg ∧ wc = w4)
        case first => as_aux_lemma =>
          go_wp2_with fail
          all_goals
            go_meet
            refine ⟨?_, rfl⟩
            rw [HSG.out]
            congr 1
            rw [Bool.eq_iff_iff]
            simp
            omega
        case rest =>
          obtain ⟨rfl, rfl⟩ := hcut
          obtain ⟨w4, rfl⟩ : ∃ w4, w4 = wc := ⟨_, rfl⟩
          go_upto_region 11 with fail
          go_cut [14] (fun v wc => v = .bool fl ∧ wc = w4)
          case first =>
            cases h9 : (kind == 9) with
            | true => as_aux_lemma =>
              go_wp2_with fail
              go_meet
              exact ⟨by rw [HFL.out, h9]; rfl, rfl⟩
            | false => as_aux_lemma =>
              go_wp2_with fail
              go_meet
              exact ⟨by rw [HFL.out, h9]; rfl, rfl⟩
          case rest =>
            obtain ⟨rfl, rfl⟩ := hcut
            obtain ⟨w4, rfl⟩ : ∃ w4, w4 = wc := ⟨_, rfl⟩
            go_upto_region 12 with fail
            have hsm := shr_most hw0
            rw [← HMO.out] at hsm
            have hwn := wd_nonneg kind
            have hwl := wd_le kind
            go_cut [15] (fun v wc => v = .int .u64 most ∧ wc = w4)
            case first => as_aux_lemma =>
              go_wp2_with fail
              go_meet
              exact ⟨by rw [hsm], rfl⟩
            case rest =>
              obtain ⟨rfl, rfl⟩ := hcut
              obtain ⟨w4, rfl⟩ : ∃ w4, w4 = wc := ⟨_, rfl⟩
              obtain ⟨k0, hk⟩ : ∃ k0, (kind == 0) = k0 := ⟨_, rfl⟩
              obtain ⟨tr, htr⟩ : ∃ tr, (s.toList == [116, 114, 117, 101]) = tr := ⟨_, rfl⟩
              obtain ⟨fa, hfa⟩ : ∃ fa, (s.toList == [102, 97, 108, 115, 101]) = fa := ⟨_, rfl⟩
              obtain ⟨c2, hc2⟩ : ∃ c2, badHead s.toList = c2 := ⟨_, rfl⟩
              obtain ⟨c1, hc1⟩ : ∃ c1, c1 = (k0 && !neg && (tr || fa)) := ⟨_, rfl⟩
              obtain ⟨b1, hb1'⟩ : ∃ b1, b1 = (fl && !hx) := ⟨_, rfl⟩
              obtain ⟨b2, hb2'⟩ : ∃ b2, b2 = (k0 && !hx) := ⟨_, rfl⟩
              obtain ⟨b3, hb3'⟩ : ∃ b3, b3 = (hx && neg) := ⟨_, rfl⟩
              obtain ⟨b4, hb4'⟩ : ∃ b4, b4 = (neg && !sg) := ⟨_, rfl⟩
              obtain ⟨sn, hsn⟩ : ∃ sn, sn = (sg && !hx) := ⟨_, rfl⟩
              have HB1 : Hid _ := hb1'
              have HB2 : Hid _ := hb2'
              have HB3 : Hid _ := hb3'
              have HB4 : Hid _ := hb4'
              have HSN : Hid _ := hsn
              have hV2 : Hid (valueB kind l = match valC c1 tr c2 b1 b2 b3 b4 neg sn num most with | none => none | some v => some (v, nx l1)) := by
                rw [Hid, hV.out, hc1, hb1', hb2', hb3', hb4', hsn, ← hk, ← htr, ← hfa, ← hc2]; rfl
              clear hV HN hb1' hb2' hb3' hb4' hsn
              have HC1 : Hid _ := hc1
              have HC2 : Hid _ := hc2
              clear hc1 hc2
              have hmf := mostB_fits hw0
              rw [← HMO.out] at hmf
              have hnl : ∀ n, num = some n → n ≤ 18446744073709551615 := fun n h => numB_le (HNUM.out ▸ h)
              have HNL : Hid _ := hnl
              have hsz := tl_len s
              clear hsm hwn hwl hnl
              go_upto_block 0 with fail
              go_cut [10, 11] (fun v10 v11 wc => wc = w4 ∧ ∃ o, Hid (valC c1 tr c2 b1 b2 b3 b4 neg sn num most = o) ∧ v11 = .bool o.isSome ∧ ∀ v, o = some v → v10 = .int .u64 v)
              case first =>
                go_upto_region 14 with fail
                go_cut [68] (fun v wc => v = .bool c1 ∧ wc = w4)
                case first =>
                  cases k0 with
                  | false => as_aux_lemma =>
                    go_wp2_with fail
                    go_meet
                    exact ⟨by rw [HC1.out]; rfl, rfl⟩
                  | true =>
                    cases neg with
                    | true => as_aux_lemma =>
                      go_wp2_with fail
                      go_meet
                      exact ⟨by rw [HC1.out]; rfl, rfl⟩
                    | false =>
                      cases tr with
                      | true => as_aux_lemma =>
                        go_wp2_with fail
                        go_meet
                        exact ⟨by rw [HC1.out]; rfl, rfl⟩
                      | false => as_aux_lemma =>
                        go_wp2_with fail
                        go_meet
                        exact ⟨by rw [HC1.out]; rfl, rfl⟩
                case rest =>
                  obtain ⟨rfl, rfl⟩ := hcut
                  obtain ⟨w4, rfl⟩ : ∃ w4, w4 = wc := ⟨_, rfl⟩
                  cases c1 with
                  | true =>
                    cases tr with
                    | true => as_aux_lemma =>
                      have hs4 : (s.size : Int) = 4 := by have := eq_of_beq htr; rw [← hsz, this]; rfl
                      go_wp2_with fail
                      go_meet
                      exact ⟨rfl, some 1, rfl, rfl, fun v h => by cases h; rfl⟩
                    | false =>
                      have hfa1 : fa = true := by
                        have := HC1.out
                        cases fa <;> simp at this ⊢
                      have hs4 : (s.size : Int) = 5 := by have := eq_of_beq (hfa.trans hfa1); rw [← hsz, this]; rfl
                      go_wp2_with fail
                      go_meet
                      exact ⟨rfl, some 0, rfl, rfl, fun v h => by cases h; rfl⟩
                  | false =>
                    go_upto_region 16 with fail
                    go_cut [88] (fun v wc => v = .bool c2 ∧ wc = w4)
                    case first =>
                      cases hemp : s.toList.isEmpty with
                      | true => as_aux_lemma =>
                        have hnil : s.toList = [] := by simpa using hemp
                        have hc2t : c2 = true := by rw [← HC2.out, hnil]; rfl
                        subst hc2t
                        clear hnil
                        go_wp2_with fail
                        go_meet
                        exact ⟨rfl, rfl⟩
                      | false =>
                        have hpos : 0 < s.size := by
                          rw [← hsz]
                          cases h : s.toList with
                          | nil => rw [h] at hemp; cases hemp
                          | cons => simp
                        have hc2t : c2 = !(isD s[0]) := by rw [← HC2.out, tl_cons s hpos]; rfl
                        have HC2T : Hid _ := hc2t
                        clear hc2t
                        go_wp2_with (go_at_call 70; refine (digit_any _ _).mono ?_; rintro e w' ⟨rfl, hw⟩; rw [hw]; clear hw)
                        all_goals
                          go_meet
                          exact ⟨by rw [HC2T.out], rfl⟩
                    case rest =>
                      obtain ⟨rfl, rfl⟩ := hcut
                      obtain ⟨w4, rfl⟩ : ∃ w4, w4 = wc := ⟨_, rfl⟩
                      cases c2 with
                      | true => as_aux_lemma =>
                        have hV3 : Hid (valueB kind l = none) := hV2
                        go_wp2_with (go_at_call 93; refine (fail_as 1 HP4 (by decide) (by decide)).mono ?_; rintro r w5 ⟨rfl, hB5, hm5⟩)
                        go_ret2
                        rw [hV3.out]
                        exact ⟨hMW4.trans hm5, rfl, hB5⟩
                      | false =>
                        clear hV2
                        go_upto_region 18 with fail
                        go_cut [99] (fun v wc => v = .bool b1 ∧ wc = w4)
                        case first =>
                          cases fl with
                          | true => as_aux_lemma =>
                            go_wp2_with fail
                            go_meet
                            exact ⟨by rw [HB1.out]; simp, rfl⟩
                          | false => as_aux_lemma =>
                            go_wp2_with fail
                            go_meet
                            exact ⟨by rw [HB1.out]; simp, rfl⟩
                        case rest =>
                          obtain ⟨rfl, rfl⟩ := hcut
                          obtain ⟨w4, rfl⟩ : ∃ w4, w4 = wc := ⟨_, rfl⟩
                          cases b1 with
                          | true => as_aux_lemma =>
                            go_wp2_with fail
                            go_meet
                            exact ⟨rfl, none, by simp [Hid, valC], rfl, by simp⟩
                          | false =>
                            go_upto_region 19 with fail
                            go_cut [99] (fun v wc => v = .bool b2 ∧ wc = w4)
                            case first =>
                              cases k0 with
                              | true => as_aux_lemma =>
                                go_wp2_with fail
                                go_meet
                                exact ⟨by rw [HB2.out]; simp, rfl⟩
                              | false => as_aux_lemma =>
                                go_wp2_with fail
                                go_meet
                                exact ⟨by rw [HB2.out]; simp, rfl⟩
                            case rest =>
                              obtain ⟨rfl, rfl⟩ := hcut
                              obtain ⟨w4, rfl⟩ : ∃ w4, w4 = wc := ⟨_, rfl⟩
                              cases b2 with
                              | true => as_aux_lemma =>
                                go_wp2_with fail
                                go_meet
                                exact ⟨rfl, none, by simp [Hid, valC], rfl, by simp⟩
                              | false =>
                                go_upto_region 20 with fail
                                go_cut [99] (fun v wc => v = .bool b3 ∧ wc = w4)
                                case first =>
                                  cases hx with
                                  | true => as_aux_lemma =>
                                    go_wp2_with fail
                                    go_meet
                                    exact ⟨by rw [HB3.out]; simp, rfl⟩
                                  | false => as_aux_lemma =>
                                    go_wp2_with fail
                                    go_meet
                                    exact ⟨by rw [HB3.out]; simp, rfl⟩
                                case rest =>
                                  obtain ⟨rfl, rfl⟩ := hcut
                                  obtain ⟨w4, rfl⟩ : ∃ w4, w4 = wc := ⟨_, rfl⟩
                                  cases b3 with
                                  | true => as_aux_lemma =>
                                    go_wp2_with fail
                                    go_meet
                                    exact ⟨rfl, none, by simp [Hid, valC], rfl, by simp⟩
                                  | false =>
                                    go_upto_region 21 with fail
                                    go_cut [99] (fun v wc => v = .bool b4 ∧ wc = w4)
                                    case first =>
                                      cases neg with
                                      | true => as_aux_lemma =>
                                        go_wp2_with fail
                                        go_meet
                                        exact ⟨by rw [HB4.out]; simp, rfl⟩
                                      | false => as_aux_lemma =>
                                        go_wp2_with fail
                                        go_meet
                                        exact ⟨by rw [HB4.out]; simp, rfl⟩
                                    case rest =>
                                      obtain ⟨rfl, rfl⟩ := hcut
                                      obtain ⟨w4, rfl⟩ : ∃ w4, w4 = wc := ⟨_, rfl⟩
                                      cases b4 with
                                      | true => as_aux_lemma =>
                                        go_wp2_with fail
                                        go_meet
                                        exact ⟨rfl, none, by simp [Hid, valC], rfl, by simp⟩
                                      | false =>
                                        cases neg with
                                        | true =>
                                          cases num with
                                          | none => as_aux_lemma =>
                                            go_wp2_with fail
                                            go_meet
                                            exact ⟨rfl, none, by simp [Hid, valC], rfl, by simp⟩
                                          | some n =>
                                            have hn := HNL.out n rfl
                                            have hnv : natV (some n) = (n : Int) := rfl
                                            by_cases hc : (n : Int) ≤ most / 2 + 1
                                            · as_aux_lemma =>
                                              have hd : decide ((n : Int) ≤ most / 2 + 1) = true := by simpa using hc
                                              go_wp2_with fail
                                              go_meet
                                              exact ⟨rfl, some (bits BinOp.and IntKind.u64 (IntKind.u64.wrap (-(n : Int))) most), by simp [Hid, valC, hc], rfl, by intro v h; cases h; go_num⟩
                                            · as_aux_lemma =>
                                              have hd : decide ((n : Int) ≤ most / 2 + 1) = false := by simpa using hc
                                              go_wp2_with fail
                                              go_meet
                                              exact ⟨rfl, none, by simp [Hid, valC, hc], rfl, by simp⟩
                                        | false =>
                                          go_upto_region 26 with fail
                                          go_cut [134] (fun v wc => v = .bool sn ∧ wc = w4)
                                          case first =>
                                            cases sg with
                                            | true => as_aux_lemma =>
                                              go_wp2_with fail
                                              go_meet
                                              exact ⟨by rw [HSN.out]; simp, rfl⟩
                                            | false => as_aux_lemma =>
                                              go_wp2_with fail
                                              go_meet
                                              exact ⟨by rw [HSN.out]; simp, rfl⟩
                                          case rest =>
                                            obtain ⟨rfl, rfl⟩ := hcut
                                            obtain ⟨w4, rfl⟩ : ∃ w4, w4 = wc := ⟨_, rfl⟩
                                            cases sn with
                                            | true =>
                                              cases num with
                                              | none => as_aux_lemma =>
                                                go_wp2_with fail
                                                go_meet
                                                exact ⟨rfl, none, by simp [Hid, valC], rfl, by simp⟩
                                              | some n =>
                                                have hn := HNL.out n rfl
                                                have hnv : natV (some n) = (n : Int) := rfl
                                                by_cases hc : (n : Int) ≤ most / 2
                                                · as_aux_lemma =>
                                                  have hd : decide ((n : Int) ≤ most / 2) = true := by simpa using hc
                                                  go_wp2_with fail
                                                  go_meet
                                                  exact ⟨rfl, some ((n : Int)), by simp [Hid, valC, hc], rfl, by intro v h; cases h; go_num⟩
                                                · as_aux_lemma =>
                                                  have hd : decide ((n : Int) ≤ most / 2) = false := by simpa using hc
                                                  go_wp2_with fail
                                                  go_meet
                                                  exact ⟨rfl, none, by simp [Hid, valC, hc], rfl, by simp⟩
                                            | false =>
                                              cases num with
                                              | none => as_aux_lemma =>
                                                go_wp2_with fail
                                                go_meet
                                                exact ⟨rfl, none, by simp [Hid, valC], rfl, by simp⟩
                                              | some n =>
                                                have hn := HNL.out n rfl
                                                have hnv : natV (some n) = (n : Int) := rfl
                                                by_cases hc : (n : Int) ≤ most
                                                · as_aux_lemma =>
                                                  have hd : decide ((n : Int) ≤ most) = true := by simpa using hc
                                                  go_wp2_with fail
                                                  go_meet
                                                  exact ⟨rfl, some ((n : Int)), by simp [Hid, valC, hc], rfl, by intro v h; cases h; go_num⟩
                                                · as_aux_lemma =>
                                                  have hd : decide ((n : Int) ≤ most) = false := by simpa using hc
                                                  go_wp2_with fail
                                                  go_meet
                                                  exact ⟨rfl, none, by simp [Hid, valC, hc], rfl, by simp⟩
              case rest =>
                obtain ⟨rfl, o, ho2, rfl, hov⟩ := hcut
                obtain ⟨w4, rfl⟩ : ∃ w4, w4 = wc := ⟨_, rfl⟩
                rw [ho2.out] at hV2
                cases o with
                | none => as_aux_lemma =>
                  have hV3 : Hid (valueB kind l = none) := hV2
                  go_wp2_with (go_at_call 74; refine (failAt_as p 7 HP4 (by decide) (by decide)).mono ?_; rintro r w5 ⟨rfl, hB5, hm5⟩)
                  go_ret2
                  rw [hV3.out]
                  exact ⟨hMW4.trans hm5, rfl, hB5⟩
                | some v => as_aux_lemma =>
                  have hV3 : Hid (valueB kind l = some (v, nx l1)) := hV2
                  have h10 := hov v rfl
                  subst h10
                  clear hov
                  go_wp2_with (go_at_call 52; refine (next_any HP4).mono ?_; rintro r w5 ⟨rfl, hp5, hm5⟩)
                  go_ret2
                  rw [hV3.out]
                  exact ⟨hMW4.trans hm5, rfl, hp5⟩
end Go.Proofs.Ygcfae
