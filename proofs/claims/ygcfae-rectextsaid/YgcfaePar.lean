import Derived.Test.YgcfaePTwin
import Derived.Deep.CutBlock
namespace Go.Proofs.Ygcfae
open Go.RowKit

/-! The parser's memory, and the walks of its smallest functions. -/

/-- the 8 cells of a parser -/
def pcs (T : ByteArray) (p e : Nat) (sv uv nv : Value) (c wh : Int) : List Value :=
  [.string T, .int .i64 p, .int .i64 e, sv, uv, nv, .int .u8 c, .int .i64 wh]

structure TokAt (T : Bs) (p e : Nat) (l : Lx) : Prop where
  le : p ≤ e
  lt : e ≤ T.length
  len : T.length ≤ 4096
  tok : l.tok = (T.drop p).take (e - p)
  rest : l.rest = T.drop e

/-- the parser at block pb stands at the token of l, no error yet -/
def Par (w : World) (pb : Nat) (T : ByteArray) (l : Lx) (sv uv nv : Value) : Prop :=
  ∃ p e, TokAt T.toList p e l ∧ Own w pb 143 (pcs T p e sv uv nv 0 0)

/-- the parser at block pb has noted an error -/
def Bad (w : World) (pb : Nat) : Prop := ∃ T p e sv uv nv c wh, 1 ≤ c ∧ c ≤ 8 ∧ Own w pb 143 (pcs T p e sv uv nv c wh)

theorem pcs8 {w : World} {pb : Nat} {T : ByteArray} {p e : Nat} {sv uv nv : Value} {c wh : Int} (h : Own w pb 143 (pcs T p e sv uv nv c wh)) :
    w.cell? ⟨pb, 0, none⟩ = some (.string T) ∧ w.cell? ⟨pb, 1, none⟩ = some (.int .i64 p) ∧ w.cell? ⟨pb, 2, none⟩ = some (.int .i64 e) ∧ w.cell? ⟨pb, 3, none⟩ = some sv ∧
    w.cell? ⟨pb, 4, none⟩ = some uv ∧ w.cell? ⟨pb, 5, none⟩ = some nv ∧ w.cell? ⟨pb, 6, none⟩ = some (.int .u8 c) ∧ w.cell? ⟨pb, 7, none⟩ = some (.int .i64 wh) :=
  ⟨h.cell rfl, h.cell rfl, h.cell rfl, h.cell rfl, h.cell rfl, h.cell rfl, h.cell rfl, h.cell rfl⟩

theorem ext_bs {T : ByteArray} {p e : Nat} {l : Lx} (hl : TokAt T.toList p e l) : T.extract p e = bsV l.tok := by
  apply toList_inj
  rw [bsV_toList, hl.tok, ByteArray.toList_eq, ByteArray.toList_eq, ByteArray.data_extract, Array.toList_extract]

set_option maxRecDepth 100000
set_option maxHeartbeats 400000 in
theorem failAt_any {w : World} {pb : Nat} {T : ByteArray} {p e : Nat} {sv uv nv : Value} (wh at_ c : Int) (h : Own w pb 143 (pcs T p e sv uv nv 0 wh)) (hc1 : 1 ≤ c) (hc8 : c ≤ 8) :
    Calls Faeg.prog 74 #[.pointer (some ⟨pb, 0, none⟩), .int .i64 at_, .int .u8 c] w fun r w' => r = .returned (.bool false) ∧ Bad w' pb ∧ Mod (· = pb) w w' := by
  obtain ⟨c0, c1, c2, c3, c4, c5, c6, c7⟩ := pcs8 h
  have q6 := h.free 6
  have q7 := h.free 7
  have hlt := h.lt
  go_enter Faeg.func74, Faeg.ntmps74
  go_wp2
  go_ret
  refine ⟨rfl, ⟨T, p, e, sv, uv, nv, c, at_, hc1, hc8, ?_⟩, ?_⟩
  · exact (h.set 6 _).set 7 _
  · exact ((Mod.refl (· = pb) _).setCell (p := ⟨pb, 6, none⟩) (.inl rfl) _).setCell (p := ⟨pb, 7, none⟩) (.inl rfl) _

set_option maxHeartbeats 400000 in
theorem fail_any {w : World} {pb : Nat} {T : ByteArray} {p e : Nat} {sv uv nv : Value} (wh c : Int) (h : Own w pb 143 (pcs T p e sv uv nv 0 wh)) (hc1 : 1 ≤ c) (hc8 : c ≤ 8) :
    Calls Faeg.prog 93 #[.pointer (some ⟨pb, 0, none⟩), .int .u8 c] w fun r w' => r = .returned (.bool false) ∧ Bad w' pb ∧ Mod (· = pb) w w' := by
  obtain ⟨c0, c1, c2, c3, c4, c5, c6, c7⟩ := pcs8 h
  have hlt := h.lt
  go_enter Faeg.func93, Faeg.ntmps93
  go_wp2_with (go_at_call 74; refine (failAt_any wh p c h hc1 hc8).mono ?_; rintro r w' ⟨rfl, hB, hM⟩)
  go_ret
  exact ⟨rfl, hB, hM⟩

set_option maxHeartbeats 400000 in
theorem tok_any {w : World} {pb : Nat} {T : ByteArray} {p e : Nat} {sv uv nv : Value} {c wh : Int} {l : Lx} (hl : TokAt T.toList p e l) (h : Own w pb 143 (pcs T p e sv uv nv c wh)) :
    Calls Faeg.prog 53 #[.pointer (some ⟨pb, 0, none⟩)] w fun r w' => r = .returned (.string (bsV l.tok)) ∧ Below w.heap.size w w' := by
  obtain ⟨c0, c1, c2, c3, c4, c5, c6, c7⟩ := pcs8 h
  have hlt := h.lt
  have h1 := hl.le
  have h2 := hl.lt
  have h3 := hl.len
  rw [tl_len] at h2 h3
  go_enter Faeg.func53, Faeg.ntmps53
  go_wp2_with fail
  go_quiet (fail)
  go_wp2_with fail
  go_ret
  refine ⟨?_, below_drewN (Below.refl _ _) _⟩
  show Ending.returned (.string (T.extract p e)) = _
  rw [ext_bs hl]

/-! next -/

theorem Mod.drewN {S : Nat → Prop} {w w1 : World} (h : Mod S w w1) (n : Nat) : Mod S w (w1.drewN n) := ⟨h.os, h.tape, h.output, h.size, h.block⟩


theorem drop_cons {T : ByteArray} {i : Nat} (h : i < T.size) : T.toList.drop i = T[i] :: T.toList.drop (i + 1) := by
  have := List.drop_eq_getElem_cons (l := T.toList) (i := i) (by rw [tl_len]; exact h)
  rw [tl_get T i h] at this
  exact this

theorem tw_take (cs : Bs) : cs.takeWhile isWc = cs.take (cs.takeWhile isWc).length ∧ cs.dropWhile isWc = cs.drop (cs.takeWhile isWc).length := by
  induction cs with
  | nil => exact ⟨rfl, rfl⟩
  | cons c cs ih =>
    cases h : isWc c with
    | true => simp only [List.takeWhile_cons, h, List.dropWhile_cons, if_true, List.length_cons, List.take_succ_cons, List.drop_succ_cons]; exact ⟨by rw [← ih.1], ih.2⟩
    | false => simp [h]

theorem tw_in : ∀ (cs : Bs) (m : Nat), m < (cs.takeWhile isWc).length → ∃ c, cs[m]? = some c ∧ isWc c = true
  | [], m, h => by simp at h
  | c :: cs, m, h => by
    cases hc : isWc c with
    | false => simp [hc] at h
    | true =>
      cases m with
      | zero => exact ⟨c, rfl, hc⟩
      | succ m => simp [hc] at h; simpa using tw_in cs m h
theorem tw_out : ∀ (cs : Bs) (c : UInt8), cs[(cs.takeWhile isWc).length]? = some c → isWc c = false
  | [], c, h => by simp at h
  | d :: cs, c, h => by
    cases hd : isWc d with
    | false => simp [hd] at h; rw [← h]; exact hd
    | true => simp [hd] at h; exact tw_out cs c h
theorem tw_le (cs : Bs) : (cs.takeWhile isWc).length ≤ cs.length := (List.takeWhile_prefix _).length_le

/-- how many bytes of a word stand behind place i -/
def tw (T : ByteArray) (i : Nat) : Nat := ((T.toList.drop (i + 1)).takeWhile isWc).length
theorem tw_fits (T : ByteArray) (i : Nat) (h : i < T.size) : i + 1 + tw T i ≤ T.size := by
  have := tw_le (T.toList.drop (i + 1))
  rw [List.length_drop, tl_len] at this
  unfold tw; omega
theorem tw_yes {T : ByteArray} {i m : Nat} (h : m < tw T i) (hs : i + 1 + m < T.size) : isWc T[i + 1 + m] = true := by
  obtain ⟨c, h1, h2⟩ := tw_in _ _ h
  rw [List.getElem?_drop, List.getElem?_eq_getElem (by rw [tl_len]; exact hs), tl_get T _ hs] at h1
  cases h1; exact h2
theorem tw_no {T : ByteArray} {i m : Nat} (h : m = tw T i) (hs : i + 1 + m < T.size) : isWc T[i + 1 + m] = false := by
  apply tw_out (T.toList.drop (i + 1))
  rw [List.getElem?_drop, show ((T.toList.drop (i + 1)).takeWhile isWc).length = m from h.symm, List.getElem?_eq_getElem (by rw [tl_len]; exact hs), tl_get T _ hs]

theorem tokAt_end {T : ByteArray} {e : Nat} (hT : T.size ≤ 4096) (h : skip false (T.toList.drop e) = T.toList.drop T.size) : TokAt T.toList T.size T.size (lex (T.toList.drop e)) := by
  have hd : T.toList.drop T.size = [] := by rw [List.drop_eq_nil_iff, tl_len]; exact Nat.le_refl _
  refine ⟨Nat.le_refl _, by rw [tl_len]; exact Nat.le_refl _, by rw [tl_len]; exact hT, ?_, ?_⟩
  · unfold lex; rw [h, hd]; simp
  · unfold lex; rw [h, hd]
theorem tokAt_sign {T : ByteArray} {e i : Nat} (hT : T.size ≤ 4096) (hi : i < T.size) (h : skip false (T.toList.drop e) = T.toList.drop i) (hc : isWc T[i] = false) : TokAt T.toList i (i + 1) (lex (T.toList.drop e)) := by
  refine ⟨by omega, by rw [tl_len]; exact hi, by rw [tl_len]; exact hT, ?_, ?_⟩
  · unfold lex; rw [h, drop_cons hi]; simp [hc]
  · unfold lex; rw [h, drop_cons hi]; simp [hc]
theorem tokAt_word {T : ByteArray} {e i : Nat} (hT : T.size ≤ 4096) (hi : i < T.size) (h : skip false (T.toList.drop e) = T.toList.drop i) (hc : isWc T[i] = true) : TokAt T.toList i (i + 1 + tw T i) (lex (T.toList.drop e)) := by
  have ht := tw_take (T.toList.drop (i + 1))
  refine ⟨by omega, by rw [tl_len]; exact tw_fits T i hi, by rw [tl_len]; exact hT, ?_, ?_⟩
  · unfold lex; rw [h, drop_cons hi]
    simp only [hc, if_true]
    rw [ht.1, show i + 1 + tw T i - i = tw T i + 1 by omega, List.take_succ_cons]; rfl
  · unfold lex; rw [h, drop_cons hi]
    simp only [hc, if_true]
    rw [ht.2, List.drop_drop]; rfl

def cellNat (o : Option Value) : Nat := match o with
  | some (.int _ z) => z.toNat
  | _ => 0

theorem u8_eq (c : UInt8) (k : Nat) (hk : k < 256) : ((c.toNat : Int) == (k : Int)) = (c == UInt8.ofNat k) := by
  rw [Bool.eq_iff_iff]
  simp only [beq_iff_eq]
  constructor
  · intro h
    apply UInt8.toNat_inj.1
    rw [UInt8.toNat_ofNat_of_lt' hk]; omega
  · rintro rfl
    rw [UInt8.toNat_ofNat_of_lt' hk]
theorem skip_cm {c : UInt8} {cs : Bs} : skip true (c :: cs) = skip ((c.toNat : Int) != 10) cs := by
  rw [show ((c.toNat : Int) != 10) = (c != 10) by simp only [bne]; rw [show (10 : Int) = ((10 : Nat) : Int) from rfl, u8_eq c 10 (by omega)]; rfl]
  simp [skip]
theorem skip_35 {c : UInt8} {cs : Bs} (h : c.toNat = 35) : skip false (c :: cs) = skip true cs := by
  have : c = 35 := UInt8.toNat_inj.1 h
  subst this
  simp [skip]
theorem skip_bl {c : UInt8} {cs : Bs} (h : c.toNat = 32 ∨ c.toNat = 9 ∨ c.toNat = 10 ∨ c.toNat = 13) : skip false (c :: cs) = skip false cs := by
  have : c = 32 ∨ c = 9 ∨ c = 10 ∨ c = 13 := by
    rcases h with h | h | h | h
    · exact .inl (UInt8.toNat_inj.1 h)
    · exact .inr (.inl (UInt8.toNat_inj.1 h))
    · exact .inr (.inr (.inl (UInt8.toNat_inj.1 h)))
    · exact .inr (.inr (.inr (UInt8.toNat_inj.1 h)))
  rcases this with rfl | rfl | rfl | rfl <;> simp [skip]
theorem skip_no {c : UInt8} {cs : Bs} (h5 : c.toNat ≠ 35) (h : ¬ (c.toNat = 32 ∨ c.toNat = 9 ∨ c.toNat = 10 ∨ c.toNat = 13)) : skip false (c :: cs) = c :: cs := by
  have e5 : c ≠ 35 := by rintro rfl; exact h5 rfl
  have e1 : c ≠ 32 := by rintro rfl; exact h (.inl rfl)
  have e2 : c ≠ 9 := by rintro rfl; exact h (.inr (.inl rfl))
  have e3 : c ≠ 10 := by rintro rfl; exact h (.inr (.inr (.inl rfl)))
  have e4 : c ≠ 13 := by rintro rfl; exact h (.inr (.inr (.inr rfl)))
  simp [skip, e1, e2, e3, e4, e5]

theorem skip_end (cm : Bool) : skip cm [] = [] := by cases cm <;> rfl

set_option maxHeartbeats 1000000 in
theorem next_any {w : World} {pb : Nat} {T : ByteArray} {l : Lx} {sv uv nv : Value} (h : Par w pb T l sv uv nv) :
    Calls Faeg.prog 52 #[.pointer (some ⟨pb, 0, none⟩)] w fun r w' => r = .returned (.tuple #[]) ∧ Par w' pb T (nx l) sv uv nv ∧ Mod (· = pb) w w' := by
  obtain ⟨p, e, hl, ho⟩ := h
  obtain ⟨c0, c1, c2, c3, c4, c5, c6, c7⟩ := pcs8 ho
  have hlt := ho.lt
  have h1 := hl.le
  have h2 := hl.lt
  have h3 := hl.len
  rw [tl_len] at h2 h3
  have hnx : nx l = lex (T.toList.drop e) := by unfold nx; rw [hl.rest]
  have HNX : Hid _ := hnx
  clear hnx
  go_enter Faeg.func52, Faeg.ntmps52
  go_upto_block 0 with fail
  go_cut [2, 3, 4] (fun vi v3 v4 wc => wc = w ∧ ∃ i : Nat, i ≤ T.size ∧ vi = .int .i64 i ∧ Hid (skip false (T.toList.drop e) = T.toList.drop i))
  case first =>
    go_wp2_with fail
    go_loop [2, 3] (fun vi vc => ∃ (i : Nat) (cm : Bool), i ≤ T.size ∧ vi = .int .i64 i ∧ vc = .bool cm ∧ Hid (skip false (T.toList.drop e) = skip cm (T.toList.drop i))) (fun vi _ => T.size - (intOf vi).toNat)
    case atStart => exact ⟨e, false, h2, rfl, rfl, rfl⟩
    case round =>
      obtain ⟨i, cm, hi, rfl, rfl, hS⟩ := hrel
      by_cases hil : i < T.size
      · have hd := drop_cons hil
        have HD : Hid _ := hd
        clear hd
        cases cm with
        | true =>
          go_wp2_with fail
          go_round
          case rel => exact ⟨i + 1, _, by omega, by go_num, rfl, by rw [Hid, hS.out, HD.out, skip_cm]⟩
          case measure => simp [intOf]; omega
        | false =>
          by_cases h35 : T[i].toNat = 35
          · have e35 : ((T[i].toNat : Int) == 35) = true := by rw [h35]; rfl
            go_wp2_with fail
            go_round
            case rel => exact ⟨i + 1, true, by omega, by go_num, rfl, by rw [Hid, hS.out, HD.out, skip_35 h35]⟩
            case measure => simp [intOf]; omega
          · have e35 : ((T[i].toNat : Int) == 35) = false := by simp; omega
            by_cases hb : T[i].toNat = 32 ∨ T[i].toNat = 9 ∨ T[i].toNat = 10 ∨ T[i].toNat = 13
            · have hsk := skip_bl (cs := T.toList.drop (i + 1)) hb
              have HSK : Hid _ := hsk
              clear hsk
              rcases hb with h | h | h | h
              · have n1 : ((T[i].toNat : Int) != 32) = false := by rw [h]; rfl
                have n2 : ((T[i].toNat : Int) != 9) = true := by rw [h]; rfl
                have n3 : ((T[i].toNat : Int) != 10) = true := by rw [h]; rfl
                have n4 : ((T[i].toNat : Int) != 13) = true := by rw [h]; rfl
                go_wp2_with fail
                go_round
                case rel => exact ⟨i + 1, false, by omega, by go_num, rfl, by rw [Hid, hS.out, HD.out, HSK.out]⟩
                case measure => simp [intOf]; omega
              · have n1 : ((T[i].toNat : Int) != 32) = true := by rw [h]; rfl
                have n2 : ((T[i].toNat : Int) != 9) = false := by rw [h]; rfl
                have n3 : ((T[i].toNat : Int) != 10) = true := by rw [h]; rfl
                have n4 : ((T[i].toNat : Int) != 13) = true := by rw [h]; rfl
                go_wp2_with fail
                go_round
                case rel => exact ⟨i + 1, false, by omega, by go_num, rfl, by rw [Hid, hS.out, HD.out, HSK.out]⟩
                case measure => simp [intOf]; omega
              · have n1 : ((T[i].toNat : Int) != 32) = true := by rw [h]; rfl
                have n2 : ((T[i].toNat : Int) != 9) = true := by rw [h]; rfl
                have n3 : ((T[i].toNat : Int) != 10) = false := by rw [h]; rfl
                have n4 : ((T[i].toNat : Int) != 13) = true := by rw [h]; rfl
                go_wp2_with fail
                go_round
                case rel => exact ⟨i + 1, false, by omega, by go_num, rfl, by rw [Hid, hS.out, HD.out, HSK.out]⟩
                case measure => simp [intOf]; omega
              · have n1 : ((T[i].toNat : Int) != 32) = true := by rw [h]; rfl
                have n2 : ((T[i].toNat : Int) != 9) = true := by rw [h]; rfl
                have n3 : ((T[i].toNat : Int) != 10) = true := by rw [h]; rfl
                have n4 : ((T[i].toNat : Int) != 13) = false := by rw [h]; rfl
                go_wp2_with fail
                go_round
                case rel => exact ⟨i + 1, false, by omega, by go_num, rfl, by rw [Hid, hS.out, HD.out, HSK.out]⟩
                case measure => simp [intOf]; omega
            · have hsk := skip_no (cs := T.toList.drop (i + 1)) h35 hb
              have HSK : Hid _ := hsk
              clear hsk
              have n1 : ((T[i].toNat : Int) != 32) = true := by simp; omega
              have n2 : ((T[i].toNat : Int) != 9) = true := by simp; omega
              have n3 : ((T[i].toNat : Int) != 10) = true := by simp; omega
              have n4 : ((T[i].toNat : Int) != 13) = true := by simp; omega
              go_wp2_with fail
              go_meet
              exact ⟨rfl, i, by omega, rfl, by rw [Hid, hS.out, HD.out, HSK.out]⟩
      · have hie : i = T.size := by omega
        subst hie
        go_wp2_with fail
        go_meet
        exact ⟨rfl, T.size, Nat.le_refl _, rfl, by rw [Hid, hS.out, show T.toList.drop T.size = [] by rw [List.drop_eq_nil_iff, tl_len]; exact Nat.le_refl _, skip_end]⟩
  case rest =>
    obtain ⟨rfl, i, hi, rfl, hS⟩ := hcut
    obtain ⟨w, rfl⟩ : ∃ w, w = wc := ⟨_, rfl⟩
    by_cases hil : i < T.size
    · have q1 := ho.free 1
      have q2 := ho.free 2
      have hoW : Own (((w.setCell ⟨pb, 1, none⟩ (.int .i64 i)).setCell ⟨pb, 2, none⟩ (.int .i64 i)).setCell ⟨pb, 2, none⟩ (.int .i64 ((i : Int) + 1))) pb 143 (pcs T i (i + 1) sv uv nv 0 0) := ((ho.set 1 _).set 2 _).set 2 _
      have hM : Mod (· = pb) w (((w.setCell ⟨pb, 1, none⟩ (.int .i64 i)).setCell ⟨pb, 2, none⟩ (.int .i64 i)).setCell ⟨pb, 2, none⟩ (.int .i64 ((i : Int) + 1))) := (((Mod.refl (· = pb) _).setCell (p := ⟨pb, 1, none⟩) (.inl rfl) _).setCell (p := ⟨pb, 2, none⟩) (.inl rfl) _).setCell (p := ⟨pb, 2, none⟩) (.inl rfl) _
      go_upto_region 11 with fail
      generalize (((w.setCell ⟨pb, 1, none⟩ (.int .i64 i)).setCell ⟨pb, 2, none⟩ (.int .i64 i)).setCell ⟨pb, 2, none⟩ (.int .i64 ((i : Int) + 1))) = W at *
      clear c0 c1 c2 c3 c4 c5 c6 c7 q1 q2
      obtain ⟨c0, c1, c2, -, -, -, -, -⟩ := pcs8 hoW
      go_cut [5] (fun v wd => v = .bool (isWc T[i]) ∧ wd = W)
      case first =>
        cases hL : isL T[i] with
        | true =>
          go_wp2_with (first | (go_at_call 69; refine (letter_any _ _).mono ?_; rintro e w' ⟨rfl, hw⟩; rw [hw]; clear hw) | (go_at_call 70; refine (digit_any _ _).mono ?_; rintro e w' ⟨rfl, hw⟩; rw [hw]; clear hw))
          go_meet
          simp [isWc, hL]
        | false =>
          go_wp2_with (first | (go_at_call 69; refine (letter_any _ _).mono ?_; rintro e w' ⟨rfl, hw⟩; rw [hw]; clear hw) | (go_at_call 70; refine (digit_any _ _).mono ?_; rintro e w' ⟨rfl, hw⟩; rw [hw]; clear hw))
          go_meet
          simp [isWc, hL]
      case rest =>
        obtain ⟨rfl, rfl⟩ := hcut
        have hlW := hoW.lt
        obtain ⟨wo, hwo⟩ : ∃ wo, wo = isWc T[i] := ⟨_, rfl⟩
        rw [← hwo]
        have HWO : Hid _ := hwo
        clear hwo
        go_wp2_with fail
        go_loopw [6] (fun _ wl => ∃ m : Nat, m ≤ (if wo then tw T i else 0) ∧ Own wl pb 143 (pcs T i (i + 1 + m) sv uv nv 0 0) ∧ Mod (· = pb) w wl) (fun _ wl => T.size - cellNat (wl.cell? ⟨pb, 2, none⟩))
        case atStart => exact ⟨0, Nat.zero_le _, hoW, hM⟩
        case round =>
          obtain ⟨m, hm, ho2, hM2⟩ := hrel
          clear c0 c1 c2
          obtain ⟨n, hn⟩ : ∃ n, n = i + 1 + m := ⟨_, rfl⟩
          rw [← hn] at ho2
          obtain ⟨c0, c1, c2, -, -, -, -, -⟩ := pcs8 ho2
          have hl2 := ho2.lt
          have q2 := ho2.free 2
          cases wo with
          | false =>
            have hm0 : m = 0 := by simpa using hm
            subst hm0
            go_upto_region 12 with fail
            go_quiet (fail)
            go_wp2_with fail
            go_end0
            subst hn
            exact ⟨rfl, ⟨i, i + 1, by rw [HNX.out]; exact tokAt_sign h3 hil hS.out HWO.out.symm, ho2⟩, hM2.drewN _⟩
          | true =>
            have hm' : m ≤ tw T i := by simpa using hm
            have hfit := tw_fits T i hil
            by_cases hend : n < T.size
            · have hin : m < tw T i → isWc T[n] = true := fun h => by subst hn; exact tw_yes h hend
              have hout : m = tw T i → isWc T[n] = false := fun h => by subst hn; exact tw_no h hend
              have hor : m < tw T i ∨ m = tw T i := by omega
              have HIN : Hid _ := hin
              have HOUT : Hid _ := hout
              have HN : Hid _ := hn
              clear hin hout hn
              have hw1 : n + 1 ≤ 9223372036854775807 := by omega
              have ho3 : ∀ k, Own ((wr.drewN k).setCell ⟨pb, 2, none⟩ (.int .i64 ((n : Int) + 1))) pb 143 (pcs T i (n + 1) sv uv nv 0 0) := fun k => (show Own (wr.drewN k) pb 143 _ from ho2).set 2 _
              cases hL : isL T[n] with
              | true =>
                go_upto_region 12 with fail
                go_quiet (fail)
                go_upto_region 14 with fail
                go_quiet (fail)
                go_wp2_with (first | (go_at_call 69; refine (letter_any _ _).mono ?_; rintro e w' ⟨rfl, hw⟩; rw [hw]; clear hw) | (go_at_call 70; refine (digit_any _ _).mono ?_; rintro e w' ⟨rfl, hw⟩; rw [hw]; clear hw))
                have hmm : m < tw T i := by
                  rcases hor with h | h
                  · exact h
                  · have := HOUT.out h; rw [isWc, hL] at this; cases this
                go_roundw
                case rel => exact ⟨m + 1, hmm, by rw [show i + 1 + (m + 1) = n + 1 by have := HN.out; omega]; exact ho3 _, ((hM2.drewN _).setCell (p := ⟨pb, 2, none⟩) (.inl rfl) _)⟩
                case measure => rw [(ho3 _).cell (j := 2) (u := .int .i64 ((n + 1 : Nat) : Int)) rfl, c2]; simp only [cellNat]; omega
              | false =>
                cases hD : isD T[n] with
                | true =>
                  go_upto_region 12 with fail
                  go_quiet (fail)
                  go_upto_region 14 with fail
                  go_quiet (fail)
                  go_wp2_with (first | (go_at_call 69; refine (letter_any _ _).mono ?_; rintro e w' ⟨rfl, hw⟩; rw [hw]; clear hw) | (go_at_call 70; refine (digit_any _ _).mono ?_; rintro e w' ⟨rfl, hw⟩; rw [hw]; clear hw))
                  have hmm : m < tw T i := by
                    rcases hor with h | h
                    · exact h
                    · have := HOUT.out h; rw [isWc, hL, hD] at this; cases this
                  go_roundw
                  case rel => exact ⟨m + 1, hmm, by rw [show i + 1 + (m + 1) = n + 1 by have := HN.out; omega]; exact ho3 _, ((hM2.drewN _).setCell (p := ⟨pb, 2, none⟩) (.inl rfl) _)⟩
                  case measure => rw [(ho3 _).cell (j := 2) (u := .int .i64 ((n + 1 : Nat) : Int)) rfl, c2]; simp only [cellNat]; omega
                | false =>
                  go_upto_region 12 with fail
                  go_quiet (fail)
                  go_upto_region 14 with fail
                  go_quiet (fail)
                  go_wp2_with (first | (go_at_call 69; refine (letter_any _ _).mono ?_; rintro e w' ⟨rfl, hw⟩; rw [hw]; clear hw) | (go_at_call 70; refine (digit_any _ _).mono ?_; rintro e w' ⟨rfl, hw⟩; rw [hw]; clear hw))
                  go_end0
                  have hme : m = tw T i := by
                    rcases hor with h | h
                    · have := HIN.out h; rw [isWc, hL, hD] at this; cases this
                    · exact h
                  have hnn := HN.out
                  subst hnn hme
                  exact ⟨rfl, ⟨i, i + 1 + tw T i, by rw [HNX.out]; exact tokAt_word h3 hil hS.out HWO.out.symm, ho2⟩, hM2.drewN _⟩
            · have hme : m = tw T i := by omega
              go_upto_region 12 with fail
              go_quiet (fail)
              go_wp2_with fail
              go_end0
              subst hn hme
              exact ⟨rfl, ⟨i, i + 1 + tw T i, by rw [HNX.out]; exact tokAt_word h3 hil hS.out HWO.out.symm, ho2⟩, hM2.drewN _⟩
    · have hie : i = T.size := by omega
      subst hie
      have q1 := ho.free 1
      have q2 := ho.free 2
      go_wp2_with fail
      go_end0
      refine ⟨rfl, ⟨T.size, T.size, ?_, (ho.set 1 _).set 2 _⟩, ?_⟩
      · rw [HNX.out]; exact tokAt_end h3 hS.out
      · exact ((Mod.refl (· = pb) _).setCell (p := ⟨pb, 1, none⟩) (.inl rfl) _).setCell (p := ⟨pb, 2, none⟩) (.inl rfl) _
end Go.Proofs.Ygcfae
