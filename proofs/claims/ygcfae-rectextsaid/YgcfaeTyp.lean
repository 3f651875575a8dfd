import Derived.Test.YgcfaeRow
import Derived.OneCell
import Derived.Deep.RegionWith
namespace Go.Proofs.Ygcfae
open Go.RowKit

theorem info168 : (Faeg.prog.info? 168).map (fun i => (i.zero, i.size, i.bytes)) = some (some (.agg #[.int .i64 0, .string ByteArray.empty]), 2, 24) := by kernel_rfl

def TPost (o : Option (Typ × List Bs × Lx)) (n0 pb : Nat) (T : ByteArray) (sv nv : Value) (us : List (Int × ByteArray)) (w : World) : Ending → World → Prop := fun r w' =>
  MT n0 pb w.heap.size [168] w w' ∧ match o with
    | none => (∃ a b c d, r = .returned (.tuple #[.agg #[.int .u8 a, .int .u8 b, .int .u8 c, .int .u8 d], .bool false])) ∧ Bad w' pb
    | some (t, ns, l1) => r = .returned (.tuple #[.agg #[.int .u8 t.kind, .int .u8 t.elem, .int .u8 t.ref, .int .u8 t.nest], .bool true]) ∧
      ∃ uv' us', Par w' pb T l1 sv uv' nv ∧ Uses w' n0 uv' us' ∧ unames us' = unames us ++ ns

/-- four cells of a type -/
def t4 (a b c d : Int) : List Value := [.int .u8 a, .int .u8 b, .int .u8 c, .int .u8 d]
theorem t4c {w : World} {g : Nat} {a b c d : Int} (h : Own w g 31 (t4 a b c d)) :
    w.cell? ⟨g, 0, none⟩ = some (.int .u8 a) ∧ w.cell? ⟨g, 1, none⟩ = some (.int .u8 b) ∧ w.cell? ⟨g, 2, none⟩ = some (.int .u8 c) ∧ w.cell? ⟨g, 3, none⟩ = some (.int .u8 d) :=
  ⟨h.cell rfl, h.cell rfl, h.cell rfl, h.cell rfl⟩

theorem Par.lt {w : World} {pb : Nat} {T : ByteArray} {l : Lx} {sv uv nv : Value} (h : Par w pb T l sv uv nv) : pb < w.heap.size := by
  obtain ⟨p, e, hl, ho⟩ := h; exact ho.lt
theorem Par.drew {w : World} {pb : Nat} {T : ByteArray} {l : Lx} {sv uv nv : Value} (h : Par w pb T l sv uv nv) : Par w.drew pb T l sv uv nv := h
theorem Par.alloc {w : World} {pb : Nat} {T : ByteArray} {l : Lx} {sv uv nv : Value} (h : Par w pb T l sv uv nv) (o : Obj) : Par (w.alloc o) pb T l sv uv nv := by
  obtain ⟨p, e, hl, ho⟩ := h; exact ⟨p, e, hl, ho.alloc o⟩
theorem Par.other {w : World} {pb : Nat} {T : ByteArray} {l : Lx} {sv uv nv : Value} (h : Par w pb T l sv uv nv) {a : Addr} (ha : pb ≠ a.block) (u : Value) : Par (w.setCell a u) pb T l sv uv nv := by
  obtain ⟨p, e, hl, ho⟩ := h; exact ⟨p, e, hl, ho.other ha u⟩
theorem Par.ne {w : World} {pb g : Nat} {T : ByteArray} {l : Lx} {sv uv nv : Value} {e : TypeId} {cs : List Value} (h : Par w pb T l sv uv nv) (ho : Own w g e cs) (he : e ≠ 143) : g ≠ pb := by
  obtain ⟨p, e1, hl, hp⟩ := h
  rintro rfl
  unfold Own at ho hp
  rw [ho] at hp
  cases hp
  exact he rfl
theorem Bad.lt {w : World} {pb : Nat} (h : Bad w pb) : pb < w.heap.size := by
  obtain ⟨T, p, e, sv, uv, nv, c, wh, h1, h2, ho⟩ := h; exact ho.lt
theorem Bad.other {w : World} {pb : Nat} (h : Bad w pb) {a : Addr} (ha : pb ≠ a.block) (u : Value) : Bad (w.setCell a u) pb := by
  obtain ⟨T, p, e, sv, uv, nv, c, wh, h1, h2, ho⟩ := h; exact ⟨T, p, e, sv, uv, nv, c, wh, h1, h2, ho.other ha u⟩

theorem kindFrom_some {s : Bs} : ∀ {n k0 k : Nat}, kindFrom s n k0 = some k → k0 ≤ k ∧ k < k0 + n ∧ kindNameB k = s ∧ s ≠ []
  | 0, _, _, h => by cases h
  | n + 1, k0, k, h => by
    unfold kindFrom at h
    split at h
    · next hc =>
      cases h
      simp only [Bool.and_eq_true, bne_iff_ne, beq_iff_eq] at hc
      exact ⟨by omega, by omega, hc.2, hc.1⟩
    · have := kindFrom_some h
      exact ⟨by omega, by omega, this.2.2⟩
theorem kindOf_range {s : Bs} {k : Nat} (h : kindOfB s = some k) : k ≤ 11 ∨ k = 14 := by
  obtain ⟨-, h1, h2, h3⟩ := kindFrom_some h
  rcases (show k ≤ 11 ∨ k = 12 ∨ k = 13 ∨ k = 14 by omega) with h | rfl | rfl | h
  · exact .inl h
  · exact absurd h2.symm h3
  · exact absurd h2.symm h3
  · exact .inr h

/-- the type that is being read -/
def tRef (k nu : Nat) : Int := if k = 13 then (nu : Int) else 0

set_option maxRecDepth 100000
set_option maxHeartbeats 20000000 in
theorem typ_any {w : World} {n0 pb : Nat} {T : ByteArray} {l : Lx} {sv uv nv : Value} {us : List (Int × ByteArray)} (union : Bool) (h : Par w pb T l sv uv nv) (hU : Uses w n0 uv us) (hn : us.length < 100) (hn0 : n0 ≤ w.heap.size) :
    Calls Faeg.prog 95 #[.pointer (some ⟨pb, 0, none⟩), .bool union] w (TPost (typB union us.length l) n0 pb T sv nv us w) := by
  obtain ⟨p, e, hl, ho⟩ := h
  obtain ⟨c0, c1, c2, -, -, -, -, -⟩ := pcs8 ho
  have hlt := ho.lt
  have HP : Par w pb T l sv uv nv := ⟨p, e, hl, ho⟩
  have hne : w.heap.size ≠ pb := by omega
  obtain ⟨ua, uc, rfl, -⟩ := Has.own hU
  go_enter Faeg.func95, Faeg.ntmps95
  go_wp2_with fail
  go_loopw [7] (fun v wl => ∃ (n : Nat) (l' : Lx), n ≤ 2 ∧ v = .int .u8 n ∧ Par wl pb T l' sv (.slice ua us.length uc) nv ∧ Uses wl n0 (.slice ua us.length uc) us ∧ Own wl w.heap.size 31 (t4 0 0 0 0) ∧ MT n0 pb w.heap.size [168] w wl ∧ Hid (listsB 3 0 l = listsB (3 - n) n l')) (fun v _ => 3 - (intOf v).toNat)
  case atStart => exact ⟨0, l, by omega, rfl, HP.alloc _, hU.alloc _, Own.new _ _ _, (MT.refl _ _ _ _ _).alloc _, rfl⟩
  case round =>
    obtain ⟨n, l', hn2, rfl, hP, hUs, hR, hM, hF⟩ := hrel
    obtain ⟨s, hs⟩ : ∃ s : ByteArray, s.toList = l'.tok := ⟨bsV l'.tok, bsV_toList _⟩
    have HS : Hid _ := hs
    clear hs c0 c1 c2
    have h3n : 3 - n = (2 - n) + 1 := by omega
    have H3N : Hid _ := h3n
    clear h3n
    cases hq : (s.toList == [76, 105, 115, 116]) with
    | true =>
      have hq2 : (l'.tok == sList) = true := by rw [← HS.out]; exact hq
      by_cases hn1 : n = 2
      · have hF2 : Hid (typB union us.length l = none) := by
          rw [Hid]; unfold typB; rw [hF.out, H3N.out, listsB, if_pos hq2, if_pos (by omega)]
        subst hn1
        go_wp2_with (first | (go_at_call 53; refine (tok_as hP HS.out).mono ?_; rintro r w1 ⟨rfl, hp1, hb1⟩; have hR1 := hR.below hb1 hR.lt; have hU1 := row_calm hUs hb1; have hM1 := hM.calm hb1) | (go_at_call 52; refine (next_any hp1).mono ?_; rintro r w2 ⟨rfl, hp2, hm2⟩; have hR2 := hR1.mod hm2 hne; have hU2 := row_Par hU1 hm2 hp1 (by decide); have hM2 := hM1.trans (MT.of hm2)) | (go_at_call 74; refine (failAt_as p 6 hp2 (by decide) (by decide)).mono ?_; rintro r w3 ⟨rfl, hB3, hm3⟩; have hR3 := hR2.mod hm3 hne; have hM3 := hM2.trans (MT.of hm3); obtain ⟨r0, r1, r2, r3⟩ := t4c hR3; have f0 := hR3.free 0; have f1 := hR3.free 1; have f2 := hR3.free 2; have f3 := hR3.free 3; have hl3 := hR3.lt))
        refine bodyPost_ret (v := .tuple #[.agg #[.int .u8 0, .int .u8 0, .int .u8 0, .int .u8 0], .bool false]) (by simp [results, Faeg.results95, go_sem, r0, r1, r2, r3]) rfl ?_
        rw [hF2.out]
        refine ⟨?_, ⟨_, _, _, _, rfl⟩, ?_⟩
        · exact (((hM3.set (p := ⟨w.heap.size, 0, none⟩) (.inr (Nat.le_refl _)) _).set (p := ⟨w.heap.size, 1, none⟩) (.inr (Nat.le_refl _)) _).set (p := ⟨w.heap.size, 2, none⟩) (.inr (Nat.le_refl _)) _).set (p := ⟨w.heap.size, 3, none⟩) (.inr (Nat.le_refl _)) _
        · exact (((hB3.other (a := ⟨w.heap.size, 0, none⟩) (Ne.symm hne) _).other (a := ⟨w.heap.size, 1, none⟩) (Ne.symm hne) _).other (a := ⟨w.heap.size, 2, none⟩) (Ne.symm hne) _).other (a := ⟨w.heap.size, 3, none⟩) (Ne.symm hne) _
      · cases hX : expectB [40] (nx l') with
        | none => as_aux_lemma =>
          have hF2 : Hid (typB union us.length l = none) := by
            rw [Hid]; unfold typB; rw [hF.out, H3N.out, listsB, if_pos hq2, if_neg (by omega), hX]
          go_wp2_with (first | (go_at_call 53; refine (tok_as hP HS.out).mono ?_; rintro r w1 ⟨rfl, hp1, hb1⟩; have hR1 := hR.below hb1 hR.lt; have hU1 := row_calm hUs hb1; have hM1 := hM.calm hb1) | (go_at_call 52; refine (next_any hp1).mono ?_; rintro r w2 ⟨rfl, hp2, hm2⟩; have hR2 := hR1.mod hm2 hne; have hU2 := row_Par hU1 hm2 hp1 (by decide); have hM2 := hM1.trans (MT.of hm2)) | (go_at_call 72; refine (expect_no _ hp2 (by rw [show (ByteArray.mk #[40]).toList = [40] from ByteArray.toList_mk _]; exact hX)).mono ?_; rintro r w3 ⟨rfl, hB3, hm3⟩; have hR3 := hR2.mod hm3 hne; have hM3 := hM2.trans (MT.of hm3); obtain ⟨r0, r1, r2, r3⟩ := t4c hR3; have f0 := hR3.free 0; have f1 := hR3.free 1; have f2 := hR3.free 2; have f3 := hR3.free 3; have hl3 := hR3.lt))
          refine bodyPost_ret (v := .tuple #[.agg #[.int .u8 0, .int .u8 0, .int .u8 0, .int .u8 0], .bool false]) (by simp [results, Faeg.results95, go_sem, r0, r1, r2, r3]) rfl ?_
          rw [hF2.out]
          refine ⟨?_, ⟨_, _, _, _, rfl⟩, ?_⟩
          · exact (((hM3.set (p := ⟨w.heap.size, 0, none⟩) (.inr (Nat.le_refl _)) _).set (p := ⟨w.heap.size, 1, none⟩) (.inr (Nat.le_refl _)) _).set (p := ⟨w.heap.size, 2, none⟩) (.inr (Nat.le_refl _)) _).set (p := ⟨w.heap.size, 3, none⟩) (.inr (Nat.le_refl _)) _
          · exact (((hB3.other (a := ⟨w.heap.size, 0, none⟩) (Ne.symm hne) _).other (a := ⟨w.heap.size, 1, none⟩) (Ne.symm hne) _).other (a := ⟨w.heap.size, 2, none⟩) (Ne.symm hne) _).other (a := ⟨w.heap.size, 3, none⟩) (Ne.symm hne) _

        | some l3 => as_aux_lemma =>
          have hF2 : Hid (listsB 3 0 l = listsB (3 - (n + 1)) (n + 1) l3) := by
            rw [Hid, hF.out, H3N.out, listsB, if_pos hq2, if_neg (by omega), hX, show 2 - n = 3 - (n + 1) by omega]
          go_wp2_with (first | (go_at_call 53; refine (tok_as hP HS.out).mono ?_; rintro r w1 ⟨rfl, hp1, hb1⟩; have hR1 := hR.below hb1 hR.lt; have hU1 := row_calm hUs hb1; have hM1 := hM.calm hb1) | (go_at_call 52; refine (next_any hp1).mono ?_; rintro r w2 ⟨rfl, hp2, hm2⟩; have hR2 := hR1.mod hm2 hne; have hU2 := row_Par hU1 hm2 hp1 (by decide); have hM2 := hM1.trans (MT.of hm2)) | (go_at_call 72; refine (expect_yes _ hp2 (by rw [show (ByteArray.mk #[40]).toList = [40] from ByteArray.toList_mk _]; exact hX)).mono ?_; rintro r w3 ⟨rfl, hp3, hm3⟩; have hR3 := hR2.mod hm3 hne; have hU3 := row_Par hU2 hm3 hp2 (by decide); have hM3 := hM2.trans (MT.of hm3)))
          go_roundw
          case rel => exact ⟨n + 1, l3, by omega, by go_num, hp3, hU3, hR3, hM3, hF2⟩
          case measure => simp [intOf]; omega
    | false =>
      have hq2 : ¬ (l'.tok == sList) = true := by rw [← HS.out, show s.toList == sList ↔ (s.toList == [76, 105, 115, 116]) = true from Iff.rfl, hq]; simp
      have hF2 : Hid (listsB 3 0 l = some (n, l')) := by
        rw [Hid, hF.out, H3N.out, listsB, if_neg hq2]
      go_upto_region 9 with (first | (go_at_call 53; refine (tok_as hP HS.out).mono ?_; rintro r w1 ⟨rfl, hp1, hb1⟩; have hR1 := hR.below hb1 hR.lt; have hU1 := row_calm hUs hb1; have hM1 := hM.calm hb1))
      clear hF
      obtain ⟨p1, e1, hl1, ho1⟩ := id hp1
      obtain ⟨c0, c1, c2, c3, c4, -, -, -⟩ := pcs8 ho1
      have hlt1 := ho1.lt
      have htb : w1.heap.size ≠ pb := by omega
      have hrt : w.heap.size < w1.heap.size := hR1.lt
      go_upto_if 48 with (first | (go_at_call 53; refine (tok_as (hp1.alloc _) HS.out).mono ?_; rintro r w2 ⟨rfl, hp2, hb2⟩) | (go_at_call 71; refine (kindOf_any _ _).mono ?_; rintro e w' ⟨rfl, hw⟩; rw [hw]; clear hw))
      have hR2 := (hR1.alloc (.cells #[.int .u8 13, .int .u8 0, .int .u8 us.length, .int .u8 0] 31)).below hb2 (by simp; omega)
      have hT2 : Own w2 w1.heap.size 31 (t4 13 0 us.length 0) := (Own.new w1 #[.int .u8 13, .int .u8 0, .int .u8 us.length, .int .u8 0] 31).below hb2 (by simp)
      have hU2 := row_calm (hU1.alloc (.cells #[.int .u8 13, .int .u8 0, .int .u8 us.length, .int .u8 0] 31)) hb2
      have hM2 := (hM1.alloc (.cells #[.int .u8 13, .int .u8 0, .int .u8 us.length, .int .u8 0] 31)).calm hb2
      clear c0 c1 c2 c3 c4 hb2 ho1 hl1 hlt1
      go_cut [9, 10, 11, 12, 13] (fun _ _ _ _ _ wc => ∃ (k : Nat) (ns : List Bs) (l2 : Lx) (uv' : Value) (us' : List (Int × ByteArray)), Hid (innerB l' = some (k, ns, l2)) ∧ Par wc pb T l2 sv uv' nv ∧ Uses wc n0 uv' us' ∧ unames us' = unames us ++ ns ∧
        Own wc w.heap.size 31 (t4 0 0 0 0) ∧ Own wc w1.heap.size 31 (t4 k 0 (tRef k us.length) 0) ∧ MT n0 pb w.heap.size [168] w wc ∧ k ≤ 14)
      case first =>
        obtain ⟨t0, t1, t2, t3⟩ := t4c hT2
        have f0 := hT2.free 0
        have f1 := hT2.free 1
        have f2 := hT2.free 2
        have f3 := hT2.free 3
        have hlt2 := hT2.lt
        cases hk : kindOfB s.toList with
        | some k => as_aux_lemma =>
          have hkr := kindOf_range hk
          have hI : Hid (innerB l' = some (k, [], nx l')) := by
            rw [Hid]; unfold innerB; rw [← HS.out, hk]
          have hkv : kindV (some k) = (k : Int) := rfl
          have hp3 : Par ((((w2.setCell ⟨w1.heap.size, 0, none⟩ (.int .u8 k)).setCell ⟨w1.heap.size, 1, none⟩ (.int .u8 0)).setCell ⟨w1.heap.size, 2, none⟩ (.int .u8 0)).setCell ⟨w1.heap.size, 3, none⟩ (.int .u8 0)) pb T l' sv (.slice ua us.length uc) nv :=
            (((hp2.other (a := ⟨w1.heap.size, 0, none⟩) (Ne.symm htb) _).other (a := ⟨w1.heap.size, 1, none⟩) (Ne.symm htb) _).other (a := ⟨w1.heap.size, 2, none⟩) (Ne.symm htb) _).other (a := ⟨w1.heap.size, 3, none⟩) (Ne.symm htb) _
          have hT3 : Own ((((w2.setCell ⟨w1.heap.size, 0, none⟩ (.int .u8 k)).setCell ⟨w1.heap.size, 1, none⟩ (.int .u8 0)).setCell ⟨w1.heap.size, 2, none⟩ (.int .u8 0)).setCell ⟨w1.heap.size, 3, none⟩ (.int .u8 0)) w1.heap.size 31 (t4 k 0 0 0) :=
            (((hT2.set 0 _).set 1 _).set 2 _).set 3 _
          have hm3 : Mod (· = w1.heap.size) w2 ((((w2.setCell ⟨w1.heap.size, 0, none⟩ (.int .u8 k)).setCell ⟨w1.heap.size, 1, none⟩ (.int .u8 0)).setCell ⟨w1.heap.size, 2, none⟩ (.int .u8 0)).setCell ⟨w1.heap.size, 3, none⟩ (.int .u8 0)) :=
            ((((Mod.refl (· = w1.heap.size) _).setCell (p := ⟨w1.heap.size, 0, none⟩) (.inl rfl) _).setCell (p := ⟨w1.heap.size, 1, none⟩) (.inl rfl) _).setCell (p := ⟨w1.heap.size, 2, none⟩) (.inl rfl) _).setCell (p := ⟨w1.heap.size, 3, none⟩) (.inl rfl) _
          have hU3 := row_mod hU2 hm3 (fun j hj e1 => row_ne hU2 hT2 (by decide) (e1 ▸ hj))
          have hR3 := hR2.mod hm3 (by omega)
          have hM3 : MT n0 pb w.heap.size [168] w _ := hM2.trans (Mod.mono hm3 fun j hj => .inr (.inl (by omega)))
          go_wp2_with (go_at_call 52; refine (next_any hp3).mono ?_; rintro r w4 ⟨rfl, hp4, hm4⟩)
          go_meet
          refine ⟨k, [], nx l', _, us, hI, hp4, row_Par hU3 hm4 hp3 (by decide), by simp, hR3.mod hm4 hne, ?_, hM3.trans (MT.of hm4), by omega⟩
          have := hT3.mod hm4 htb
          rwa [show tRef k us.length = 0 by unfold tRef; rw [if_neg (by omega)]]
        | none =>
          cases hN : isNameB l'.tok true with
          | false => as_aux_lemma =>
            have hI : Hid (typB union us.length l = none) := by
              rw [Hid]; have hk' : kindOfB l'.tok = none := by rw [← HS.out]; exact hk
              simp [typB, hF2.out, innerB, hk', nameB, hN]
            obtain ⟨p2, e2, hl2, ho2⟩ := id hp2
            obtain ⟨c0, c1, c2, c3, c4, -, -, -⟩ := pcs8 ho2
            have hlt3 := ho2.lt
            go_wp2_with (go_at_call 73; refine (name_no true hp2 hN).mono ?_; rintro r w4 ⟨rfl, hB4, hm4⟩; have hR4 := hR2.mod hm4 hne; have hT4 := hT2.mod hm4 htb; obtain ⟨r0, r1, r2, r3⟩ := t4c hR4; have g0 := hR4.free 0; have g1 := hR4.free 1; have g2 := hR4.free 2; have g3 := hR4.free 3; obtain ⟨s0, s1, s2, s3⟩ := t4c hT4; have hlR := hR4.lt; have hlT := hT4.lt)
            have hR5 : Own ((((w4.setCell ⟨w.heap.size, 0, none⟩ (.int .u8 13)).setCell ⟨w.heap.size, 1, none⟩ (.int .u8 0)).setCell ⟨w.heap.size, 2, none⟩ (.int .u8 us.length)).setCell ⟨w.heap.size, 3, none⟩ (.int .u8 0)) w.heap.size 31 (t4 13 0 us.length 0) := (((hR4.set 0 _).set 1 _).set 2 _).set 3 _
            obtain ⟨q0, q1, q2, q3⟩ := t4c hR5
            refine bodyPost_ret (v := .tuple #[.agg #[.int .u8 13, .int .u8 0, .int .u8 us.length, .int .u8 0], .bool false]) (by simp [results, Faeg.results95, go_sem, q0, q1, q2, q3]) rfl ?_
            rw [hI.out]
            refine ⟨?_, ⟨_, _, _, _, rfl⟩, ?_⟩
            · exact ((((hM2.trans (MT.of hm4)).set (p := ⟨w.heap.size, 0, none⟩) (.inr (Nat.le_refl _)) _).set (p := ⟨w.heap.size, 1, none⟩) (.inr (Nat.le_refl _)) _).set (p := ⟨w.heap.size, 2, none⟩) (.inr (Nat.le_refl _)) _).set (p := ⟨w.heap.size, 3, none⟩) (.inr (Nat.le_refl _)) _
            · exact (((hB4.other (a := ⟨w.heap.size, 0, none⟩) (Ne.symm hne) _).other (a := ⟨w.heap.size, 1, none⟩) (Ne.symm hne) _).other (a := ⟨w.heap.size, 2, none⟩) (Ne.symm hne) _).other (a := ⟨w.heap.size, 3, none⟩) (Ne.symm hne) _
          | true => as_aux_lemma =>
            have hI : Hid (innerB l' = some (13, [l'.tok], nx l')) := by
              rw [Hid]; have hk' : kindOfB l'.tok = none := by rw [← HS.out]; exact hk
              simp [innerB, hk', nameB, hN]
            obtain ⟨p2, e2, hl2, ho2⟩ := id hp2
            obtain ⟨c0, c1, c2, c3, c4, -, -, -⟩ := pcs8 ho2
            have hlt3 := ho2.lt
            obtain ⟨i168, hi, hz0, hz1, hz2⟩ := info_parts info168
            go_wp2_with (first | (go_at_call 73; refine (name_yes true hp2 hN).mono ?_; rintro r w4 ⟨rfl, hp4, hm4⟩; have hU4 := row_Par hU2 hm4 hp2 (by decide); have hsz4 := hm4.size; obtain ⟨p4, e4, hl4, ho4⟩ := id hp4; obtain ⟨d0, d1, d2, d3, d4, -, -, -⟩ := pcs8 ho4; have hlt4 := ho4.lt) | (at_builtin; refine wpList_app1g rfl (.tmp 69) (.tmp 73) 141 rfl n0 168 i168 _ 2 24 under141 hi hz0 hz1 hz2 rfl (by decide) _ us.length (ucells us) [.int .i64 p2, .string (bsV l'.tok)] _ rfl rfl hU4 rfl rfl rfl (by omega) (by unfold maxLen; omega) (by omega) ?_; intro v5 w5 hU5 hg5; obtain ⟨va, vc, rfl, -⟩ := Has.own hU5; have ho5 := (ho4.alloc (.cells #[.int .i64 p2, .string (bsV l'.tok)] 168)).grown hg5 (Ne.symm (row_ne hU4 ho4 (by decide))); obtain ⟨x0, x1, x2, x3, x4, -, -, -⟩ := pcs8 ho5; have x5 := ho5.free 4; have hlt5 := ho5.lt))
            go_meet
            have hg6 : (w4.alloc (.cells #[.int .i64 p2, .string (bsV l'.tok)] 168)).grownBy w5 (Value.slice ua us.length uc).ownBlock := hg5
            have hR4 := hR2.mod hm4 hne
            have hT4 := hT2.mod hm4 htb
            have hR5 := (hR4.alloc (.cells #[.int .i64 p2, .string (bsV l'.tok)] 168)).grown hg6 (Ne.symm (row_ne hU4 hR4 (by decide)))
            have hT5 := (hT4.alloc (.cells #[.int .i64 p2, .string (bsV l'.tok)] 168)).grown hg6 (Ne.symm (row_ne hU4 hT4 (by decide)))
            refine ⟨13, [l'.tok], nx l', _, us ++ [((p2 : Int), bsV l'.tok)], hI, ⟨p4, e4, hl4, ho5.set 4 _⟩, ?_, by rw [unames_snoc, bsV_toList], hR5.other (a := ⟨pb, 4, none⟩) hne _, ?_, ?_, by omega⟩
            · unfold Uses
              rw [List.length_append, ucells_snoc]
              exact ownsRow_setCell_other hU5 (row_ne hU5 ho5 (by decide)) _
            · exact hT5.other (a := ⟨pb, 4, none⟩) htb _
            · exact (((hM2.trans (MT.of hm4)).alloc _).grown (hU4.alloc _) hg6 (.inl ⟨by simp, Nat.le_refl _⟩)).set (p := ⟨pb, 4, none⟩) (.inl rfl) _
      case rest =>
        obtain ⟨k, ns, l2, uv', us', hI, hP5, hU5, hun, hR5, hT5, hM5, hk14⟩ := hcut
        clear hp1 hb1 hR1 hU1 hM1 hp2 hR2 hT2 hU2 hM2 hP hUs hR hM
        obtain ⟨w5, rfl⟩ : ∃ w5, w5 = wc := ⟨_, rfl⟩
        obtain ⟨t0, t1, t2, t3⟩ := t4c hT5
        have hltT := hT5.lt
        obtain ⟨bt, hbt⟩ : ∃ bt, bt = badTyp k n union := ⟨_, rfl⟩
        have HBT : Hid _ := hbt
        clear hbt
        go_upto_region 19 with fail
        go_cut [96] (fun v wc => v = .bool bt ∧ wc = w5)
        case first =>
          have hn3 : n = 0 ∨ n = 1 ∨ n = 2 := by omega
          by_cases hk1 : k = 14
          · subst hk1
            rcases hn3 with rfl | rfl | rfl <;> cases union
            all_goals as_aux_lemma =>
              go_wp2_with fail
              go_meet
              exact ⟨by rw [HBT.out]; rfl, rfl⟩
          · by_cases hk2 : k = 0
            · subst hk2
              rcases hn3 with rfl | rfl | rfl
              all_goals as_aux_lemma =>
                go_wp2_with fail
                go_meet
                exact ⟨by rw [HBT.out]; rfl, rfl⟩
            · have e1 : ((k : Int) == 14) = false := by simp; omega
              have e2 : ((k : Int) == 0) = false := by simp; omega
              rcases hn3 with rfl | rfl | rfl
              all_goals as_aux_lemma =>
                go_wp2_with fail
                go_meet
                exact ⟨by rw [HBT.out]; simp [badTyp, hk1, hk2], rfl⟩
        case rest =>
          obtain ⟨rfl, rfl⟩ := hcut
          obtain ⟨w5, rfl⟩ : ∃ w5, w5 = wc := ⟨_, rfl⟩
          cases bt with
          | true =>
            have hF3 : Hid (typB union us.length l = none) := by
              rw [Hid]; unfold typB; simp only [hF2.out, hI.out]; rw [if_pos HBT.out.symm]
            have hcall : Calls Faeg.prog 74 #[.pointer (some ⟨pb, 0, none⟩), .int .i64 p, .int .u8 6] w5.drew fun r w6 => r = .returned (.bool false) ∧ Bad w6 pb ∧ Own w6 w.heap.size 31 (t4 0 0 0 0) ∧ Own w6 w1.heap.size 31 (t4 k 0 (tRef k us.length) 0) ∧ MT n0 pb w.heap.size [168] w w6 :=
              (failAt_as p 6 (Par.drew hP5) (by decide) (by decide)).mono fun r w6 ⟨h1, h2, h3⟩ => ⟨h1, h2, Own.mod (w := w5.drew) hR5 h3 hne, Own.mod (w := w5.drew) hT5 h3 htb, MT.trans (show MT n0 pb w.heap.size [168] w w5.drew from Mod.drew hM5) (MT.of h3)⟩
            have HC : Hid _ := hcall
            clear hcall
            go_upto_region 20 with fail
            go_region_with (go_at_call 74; refine Calls.mono (Hid.out HC) ?_; rintro r w6 ⟨rfl, hB6, hR6, hT6, hM6⟩; obtain ⟨r0, r1, r2, r3⟩ := t4c hR6; have g0 := hR6.free 0; have g1 := hR6.free 1; have g2 := hR6.free 2; have g3 := hR6.free 3; obtain ⟨s0, s1, s2, s3⟩ := t4c hT6; have hlR := hR6.lt; have hlT := hT6.lt)
            all_goals as_aux_lemma =>
              go_wp2_with fail
              have hR7 : Own ((((w6.setCell ⟨w.heap.size, 0, none⟩ (.int .u8 (k : Int))).setCell ⟨w.heap.size, 1, none⟩ (.int .u8 0)).setCell ⟨w.heap.size, 2, none⟩ (.int .u8 (tRef k us.length))).setCell ⟨w.heap.size, 3, none⟩ (.int .u8 0)) w.heap.size 31 (t4 (k : Int) 0 (tRef k us.length) 0) := (((hR6.set 0 _).set 1 _).set 2 _).set 3 _
              obtain ⟨q0, q1, q2, q3⟩ := t4c hR7
              refine bodyPost_ret (v := .tuple #[.agg #[.int .u8 (k : Int), .int .u8 0, .int .u8 (tRef k us.length), .int .u8 0], .bool false]) (by simp [results, Faeg.results95, go_sem, q0, q1, q2, q3]) rfl ?_
              rw [hF3.out]
              exact ⟨(((hM6.set (p := ⟨w.heap.size, 0, none⟩) (.inr (Nat.le_refl _)) _).set (p := ⟨w.heap.size, 1, none⟩) (.inr (Nat.le_refl _)) _).set (p := ⟨w.heap.size, 2, none⟩) (.inr (Nat.le_refl _)) _).set (p := ⟨w.heap.size, 3, none⟩) (.inr (Nat.le_refl _)) _, ⟨_, _, _, _, rfl⟩, (((hB6.other (a := ⟨w.heap.size, 0, none⟩) (Ne.symm hne) _).other (a := ⟨w.heap.size, 1, none⟩) (Ne.symm hne) _).other (a := ⟨w.heap.size, 2, none⟩) (Ne.symm hne) _).other (a := ⟨w.heap.size, 3, none⟩) (Ne.symm hne) _⟩
          | false =>
            have hF3 : Hid (typB union us.length l = match closesB n l2 with | none => none | some l3 => some (mkTyp k n us.length, ns, l3)) := by
              rw [Hid]; unfold typB; simp only [hF2.out, hI.out]; rw [if_neg (by rw [← HBT.out]; simp)]; rfl
            clear t0 t1 t2 t3
            go_wp2_with fail
            go_loopw [102] (fun v wl => ∃ (j : Nat) (l3 : Lx), j ≤ n ∧ v = .int .u8 j ∧ Par wl pb T l3 sv uv' nv ∧ Uses wl n0 uv' us' ∧ Own wl w.heap.size 31 (t4 0 0 0 0) ∧ Own wl w1.heap.size 31 (t4 k 0 (tRef k us.length) 0) ∧ MT n0 pb w.heap.size [168] w wl ∧ Hid (closesB n l2 = closesB (n - j) l3)) (fun v _ => n - (intOf v).toNat)
            case atStart => exact ⟨0, l2, by omega, rfl, hP5, hU5, hR5, hT5, hM5, rfl⟩
            case round =>
              clear hP5 hU5 hR5 hT5 hM5
              obtain ⟨j, l3, hj, rfl, hP5, hU5, hR5, hT5, hM5, hC⟩ := hrel
              by_cases hjn : j < n
              · have hnj : n - j = (n - (j + 1)) + 1 := by omega
                have HNJ : Hid _ := hnj
                clear hnj
                cases hX : expectB [41] l3 with
                | none => as_aux_lemma =>
                  have hF4 : Hid (typB union us.length l = none) := by
                    rw [Hid, hF3.out, hC.out, HNJ.out, closesB, hX]
                  go_wp2_with (go_at_call 72; refine (expect_no _ hP5 (by rw [show (ByteArray.mk #[41]).toList = [41] from ByteArray.toList_mk _]; exact hX)).mono ?_; rintro r w6 ⟨rfl, hB6, hm6⟩; have hR6 := hR5.mod hm6 hne; have hT6 := hT5.mod hm6 htb; have hM6 := hM5.trans (MT.of hm6); obtain ⟨r0, r1, r2, r3⟩ := t4c hR6; have g0 := hR6.free 0; have g1 := hR6.free 1; have g2 := hR6.free 2; have g3 := hR6.free 3; obtain ⟨s0, s1, s2, s3⟩ := t4c hT6; have hlR := hR6.lt; have hlT := hT6.lt)
                  have hR7 : Own ((((w6.setCell ⟨w.heap.size, 0, none⟩ (.int .u8 (k : Int))).setCell ⟨w.heap.size, 1, none⟩ (.int .u8 0)).setCell ⟨w.heap.size, 2, none⟩ (.int .u8 (tRef k us.length))).setCell ⟨w.heap.size, 3, none⟩ (.int .u8 0)) w.heap.size 31 (t4 (k : Int) 0 (tRef k us.length) 0) := (((hR6.set 0 _).set 1 _).set 2 _).set 3 _
                  obtain ⟨q0, q1, q2, q3⟩ := t4c hR7
                  refine bodyPost_ret (v := .tuple #[.agg #[.int .u8 (k : Int), .int .u8 0, .int .u8 (tRef k us.length), .int .u8 0], .bool false]) (by simp [results, Faeg.results95, go_sem, q0, q1, q2, q3]) rfl ?_
                  rw [hF4.out]
                  exact ⟨(((hM6.set (p := ⟨w.heap.size, 0, none⟩) (.inr (Nat.le_refl _)) _).set (p := ⟨w.heap.size, 1, none⟩) (.inr (Nat.le_refl _)) _).set (p := ⟨w.heap.size, 2, none⟩) (.inr (Nat.le_refl _)) _).set (p := ⟨w.heap.size, 3, none⟩) (.inr (Nat.le_refl _)) _, ⟨_, _, _, _, rfl⟩, (((hB6.other (a := ⟨w.heap.size, 0, none⟩) (Ne.symm hne) _).other (a := ⟨w.heap.size, 1, none⟩) (Ne.symm hne) _).other (a := ⟨w.heap.size, 2, none⟩) (Ne.symm hne) _).other (a := ⟨w.heap.size, 3, none⟩) (Ne.symm hne) _⟩
                | some l4 => as_aux_lemma =>
                  go_wp2_with (go_at_call 72; refine (expect_yes _ hP5 (by rw [show (ByteArray.mk #[41]).toList = [41] from ByteArray.toList_mk _]; exact hX)).mono ?_; rintro r w6 ⟨rfl, hp6, hm6⟩)
                  go_roundw
                  case rel => exact ⟨j + 1, l4, by omega, by go_num, hp6, row_Par hU5 hm6 hP5 (by decide), hR5.mod hm6 hne, hT5.mod hm6 htb, hM5.trans (MT.of hm6), by rw [Hid, hC.out, HNJ.out, closesB, hX]⟩
                  case measure => simp [intOf]; omega
              · have hje : j = n := by omega
                subst hje
                have hF4 : Hid (typB union us.length l = some (mkTyp k j us.length, ns, l3)) := by
                  rw [Hid, hF3.out, hC.out, Nat.sub_self, closesB]
                clear hF3 hC
                obtain ⟨t0, t1, t2, t3⟩ := t4c hT5
                have f0 := hT5.free 0
                have f1 := hT5.free 1
                have f2 := hT5.free 2
                have f3 := hT5.free 3
                have hlT := hT5.lt
                have hlR := hR5.lt
                obtain ⟨r0, r1, r2, r3⟩ := t4c hR5
                have g0 := hR5.free 0
                have g1 := hR5.free 1
                have g2 := hR5.free 2
                have g3 := hR5.free 3
                have hrt2 : w.heap.size ≠ w1.heap.size := by omega
                by_cases hj0 : j = 0
                · subst hj0
                  go_wp2_with fail
                  have hR7 : Own ((((wr.setCell ⟨w.heap.size, 0, none⟩ (.int .u8 (k : Int))).setCell ⟨w.heap.size, 1, none⟩ (.int .u8 0)).setCell ⟨w.heap.size, 2, none⟩ (.int .u8 (tRef k us.length))).setCell ⟨w.heap.size, 3, none⟩ (.int .u8 0)) w.heap.size 31 (t4 k 0 (tRef k us.length) 0) := (((hR5.set 0 _).set 1 _).set 2 _).set 3 _
                  obtain ⟨q0, q1, q2, q3⟩ := t4c hR7
                  refine bodyPost_ret (v := .tuple #[.agg #[.int .u8 k, .int .u8 0, .int .u8 (tRef k us.length), .int .u8 0], .bool true]) (by simp [results, Faeg.results95, go_sem, q0, q1, q2, q3]) rfl ?_
                  rw [hF4.out]
                  have hoR := row_ne hU5 hR5 (by decide)
                  have HH : w.heap.size ≤ w.heap.size := Nat.le_refl _
                  exact ⟨(((hM5.set (p := ⟨w.heap.size, 0, none⟩) (.inr HH) _).set (p := ⟨w.heap.size, 1, none⟩) (.inr HH) _).set (p := ⟨w.heap.size, 2, none⟩) (.inr HH) _).set (p := ⟨w.heap.size, 3, none⟩) (.inr HH) _, rfl, uv', us', (((hP5.other (a := ⟨w.heap.size, 0, none⟩) (Ne.symm hne) _).other (a := ⟨w.heap.size, 1, none⟩) (Ne.symm hne) _).other (a := ⟨w.heap.size, 2, none⟩) (Ne.symm hne) _).other (a := ⟨w.heap.size, 3, none⟩) (Ne.symm hne) _, ownsRow_setCell_other (a := ⟨w.heap.size, 3, none⟩) (ownsRow_setCell_other (a := ⟨w.heap.size, 2, none⟩) (ownsRow_setCell_other (a := ⟨w.heap.size, 1, none⟩) (ownsRow_setCell_other (a := ⟨w.heap.size, 0, none⟩) hU5 hoR _) hoR _) hoR _) hoR _, hun⟩
                · have hj1 : 0 < j := by omega
                  go_wp2_with fail
                  have hR6 : Own ((((wr.setCell ⟨w1.heap.size, 0, none⟩ (.int .u8 12)).setCell ⟨w1.heap.size, 1, none⟩ (.int .u8 (k : Int))).setCell ⟨w1.heap.size, 2, none⟩ (.int .u8 (tRef k us.length))).setCell ⟨w1.heap.size, 3, none⟩ (.int .u8 (j : Int))) w.heap.size 31 (t4 0 0 0 0) := (((hR5.other (a := ⟨w1.heap.size, 0, none⟩) hrt2 _).other (a := ⟨w1.heap.size, 1, none⟩) hrt2 _).other (a := ⟨w1.heap.size, 2, none⟩) hrt2 _).other (a := ⟨w1.heap.size, 3, none⟩) hrt2 _
                  have hR7 : Own ((((((((wr.setCell ⟨w1.heap.size, 0, none⟩ (.int .u8 12)).setCell ⟨w1.heap.size, 1, none⟩ (.int .u8 (k : Int))).setCell ⟨w1.heap.size, 2, none⟩ (.int .u8 (tRef k us.length))).setCell ⟨w1.heap.size, 3, none⟩ (.int .u8 (j : Int))).setCell ⟨w.heap.size, 0, none⟩ (.int .u8 12)).setCell ⟨w.heap.size, 1, none⟩ (.int .u8 (k : Int))).setCell ⟨w.heap.size, 2, none⟩ (.int .u8 (tRef k us.length))).setCell ⟨w.heap.size, 3, none⟩ (.int .u8 (j : Int))) w.heap.size 31 (t4 12 k (tRef k us.length) j) := (((hR6.set 0 _).set 1 _).set 2 _).set 3 _
                  obtain ⟨q0, q1, q2, q3⟩ := t4c hR7
                  refine bodyPost_ret (v := .tuple #[.agg #[.int .u8 12, .int .u8 k, .int .u8 (tRef k us.length), .int .u8 j], .bool true]) (by simp [results, Faeg.results95, go_sem, q0, q1, q2, q3]) rfl ?_
                  rw [hF4.out, show mkTyp k j us.length = ⟨12, k, (tRef k us.length), j⟩ by unfold mkTyp; rw [if_pos hj1]; rfl]
                  have hoR := row_ne hU5 hR5 (by decide)
                  have hoT := row_ne hU5 hT5 (by decide)
                  have HH : w.heap.size ≤ w.heap.size := Nat.le_refl _
                  have hM6 : MT n0 pb w.heap.size [168] w ((((wr.setCell ⟨w1.heap.size, 0, none⟩ (.int .u8 12)).setCell ⟨w1.heap.size, 1, none⟩ (.int .u8 (k : Int))).setCell ⟨w1.heap.size, 2, none⟩ (.int .u8 (tRef k us.length))).setCell ⟨w1.heap.size, 3, none⟩ (.int .u8 (j : Int))) := (((hM5.set (p := ⟨w1.heap.size, 0, none⟩) (.inr (Nat.le_of_lt hrt)) _).set (p := ⟨w1.heap.size, 1, none⟩) (.inr (Nat.le_of_lt hrt)) _).set (p := ⟨w1.heap.size, 2, none⟩) (.inr (Nat.le_of_lt hrt)) _).set (p := ⟨w1.heap.size, 3, none⟩) (.inr (Nat.le_of_lt hrt)) _
                  have hP6 : Par ((((wr.setCell ⟨w1.heap.size, 0, none⟩ (.int .u8 12)).setCell ⟨w1.heap.size, 1, none⟩ (.int .u8 (k : Int))).setCell ⟨w1.heap.size, 2, none⟩ (.int .u8 (tRef k us.length))).setCell ⟨w1.heap.size, 3, none⟩ (.int .u8 (j : Int))) pb T l3 sv uv' nv := (((hP5.other (a := ⟨w1.heap.size, 0, none⟩) (Ne.symm htb) _).other (a := ⟨w1.heap.size, 1, none⟩) (Ne.symm htb) _).other (a := ⟨w1.heap.size, 2, none⟩) (Ne.symm htb) _).other (a := ⟨w1.heap.size, 3, none⟩) (Ne.symm htb) _
                  have hU6 : Uses ((((wr.setCell ⟨w1.heap.size, 0, none⟩ (.int .u8 12)).setCell ⟨w1.heap.size, 1, none⟩ (.int .u8 (k : Int))).setCell ⟨w1.heap.size, 2, none⟩ (.int .u8 (tRef k us.length))).setCell ⟨w1.heap.size, 3, none⟩ (.int .u8 (j : Int))) n0 uv' us' := ownsRow_setCell_other (a := ⟨w1.heap.size, 3, none⟩) (ownsRow_setCell_other (a := ⟨w1.heap.size, 2, none⟩) (ownsRow_setCell_other (a := ⟨w1.heap.size, 1, none⟩) (ownsRow_setCell_other (a := ⟨w1.heap.size, 0, none⟩) hU5 hoT _) hoT _) hoT _) hoT _
                  exact ⟨(((hM6.set (p := ⟨w.heap.size, 0, none⟩) (.inr HH) _).set (p := ⟨w.heap.size, 1, none⟩) (.inr HH) _).set (p := ⟨w.heap.size, 2, none⟩) (.inr HH) _).set (p := ⟨w.heap.size, 3, none⟩) (.inr HH) _, rfl, uv', us', (((hP6.other (a := ⟨w.heap.size, 0, none⟩) (Ne.symm hne) _).other (a := ⟨w.heap.size, 1, none⟩) (Ne.symm hne) _).other (a := ⟨w.heap.size, 2, none⟩) (Ne.symm hne) _).other (a := ⟨w.heap.size, 3, none⟩) (Ne.symm hne) _, ownsRow_setCell_other (a := ⟨w.heap.size, 3, none⟩) (ownsRow_setCell_other (a := ⟨w.heap.size, 2, none⟩) (ownsRow_setCell_other (a := ⟨w.heap.size, 1, none⟩) (ownsRow_setCell_other (a := ⟨w.heap.size, 0, none⟩) hU6 hoR _) hoR _) hoR _) hoR _, hun⟩
end Go.Proofs.Ygcfae
