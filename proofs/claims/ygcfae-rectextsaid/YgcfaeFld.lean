import Derived.Test.YgcfaeFMem
namespace Go.Proofs.Ygcfae
open Go.RowKit

def FPost (o : Option Rd) (n0 lo pb tb : Nat) (T : ByteArray) (sv : Value) (nm : ByteArray) (w : World) : Ending → World → Prop := fun r w' =>
  MT n0 pb lo [168] w w' ∧ match o with
    | none => r = .returned (.bool false) ∧ Bad w' pb
    | some q => r = .returned (.bool true) ∧ ∃ us' uv' nv' fv', FS n0 lo pb tb T sv nm q.fs q.ns us' q.l uv' nv' fv' w' ∧ unames us' = q.us

theorem scs2 {w : World} {tb : Nat} {nm : ByteArray} {fv : Value} (h : Own w tb 70 (scs nm fv)) : w.cell? ⟨tb, 0, none⟩ = some (.string nm) ∧ w.cell? ⟨tb, 1, none⟩ = some fv := ⟨h.cell rfl, h.cell rfl⟩

theorem anyn_succ {fs : List Fld} {j : Nat} (h : j < fs.length) (s : Bs) : (fs.take (j + 1)).any (fun f => f.name.toList == s) = ((fs.take j).any (fun f => f.name.toList == s) || fs[j].name.toList == s) := by
  rw [List.take_succ_eq_append_getElem h, List.any_append]; simp
theorem any_of_take {fs : List Fld} {j : Nat} {s : Bs} (h : (fs.take j).any (fun f => f.name.toList == s) = true) : fs.any (fun f => f.name.toList == s) = true := by
  rw [List.any_eq_true] at h ⊢
  obtain ⟨f, hf, he⟩ := h
  exact ⟨f, List.mem_of_mem_take hf, he⟩

theorem innerB_kind {l : Lx} {k : Nat} {us : List Bs} {l1 : Lx} (h : innerB l = some (k, us, l1)) : k ≤ 14 := by
  unfold innerB at h
  split at h
  · next k' hk =>
    have := kindOf_range hk
    cases h; omega
  · split at h
    · cases h
    · cases h; omega
theorem typB_kind {u : Bool} {nu : Nat} {l : Lx} {t : Typ} {us : List Bs} {l1 : Lx} (h : typB u nu l = some (t, us, l1)) : 0 ≤ t.kind ∧ t.kind ≤ 14 := by
  unfold typB at h
  split at h
  · cases h
  · split at h
    · cases h
    · next hI =>
      have hk := innerB_kind hI
      split at h
      · cases h
      · split at h
        · cases h
        · cases h
          unfold mkTyp
          split <;> simp <;> omega

set_option maxRecDepth 100000
set_option maxHeartbeats 20000000 in
theorem field_any {n0 lo pb tb : Nat} {T : ByteArray} {sv : Value} {nm : ByteArray} {fs : List Fld} {ns : List Nat} {us : List (Int × ByteArray)} {l : Lx} {uv nv fv : Value} {w : World} (union : Bool) (rus : List Bs)
    (h : FS n0 lo pb tb T sv nm fs ns us l uv nv fv w) (hus : unames us = rus) (hn0 : n0 ≤ lo) (hlo : lo ≤ tb) (hul : us.length < 100) (hf16 : fs.length ≤ 16) (hnl : ns.length ≤ 16) :
    Calls Faeg.prog 76 #[.pointer (some ⟨pb, 0, none⟩), .pointer (some ⟨tb, 0, none⟩), .bool union] w (FPost (fieldP union ⟨fs, ns, rus, l⟩) n0 lo pb tb T sv nm w) := by
  obtain ⟨p, e, hl, ho⟩ := id h.par
  obtain ⟨c0, c1, c2, -, -, -, -, -⟩ := pcs8 ho
  have hlt := ho.lt
  obtain ⟨fa, fc, rfl, -⟩ := Has.own h.fs
  obtain ⟨na, nc, rfl, -⟩ := Has.own h.ns
  have hne := h.ne
  have hltb : lo ≤ w.heap.size := by have := h.st.lt; omega
  go_enter Faeg.func76, Faeg.ntmps76
  go_upto_region 2 with fail
  cases hN : isNameB l.tok false with
  | false =>
    have hF : Hid (fieldP union ⟨fs, ns, rus, l⟩ = none) := by
      rw [Hid]; simp [fieldP, nameB, hN]
    go_wp2_with (go_at_call 73; refine (name_no false h.par hN).mono ?_; rintro r w1 ⟨rfl, hB1, hm1⟩)
    go_ret
    rw [hF.out]
    exact ⟨MT.of hm1, rfl, hB1⟩
  | true =>
    have hname : nameB false l = some (l.tok, nx l) := by simp [nameB, hN]
    go_upto_region 5 with (go_at_call 73; refine (name_yes false h.par hN).mono ?_; rintro r w1 ⟨rfl, hp1, hm1⟩)
    have h1 := h.step hm1 hp1
    have hM1 : MT n0 pb lo [168] w w1 := MT.of hm1
    clear c0 c1 c2 hp1 hm1
    obtain ⟨s, hs⟩ : ∃ s, s = bsV l.tok := ⟨_, rfl⟩
    have hsl : s.toList = l.tok := by rw [hs, bsV_toList]
    rw [← hs]
    have HSL : Hid _ := hsl
    have HN : Hid _ := hname
    clear hsl hs hname
    obtain ⟨-, b1⟩ := scs2 h1.st
    have hlt1 := h1.st.lt
    go_wp2_with fail
    go_loopw [31] (fun i wl => ∃ j : Nat, j ≤ fs.length ∧ i = .int .i64 j ∧ Below w1.heap.size w1 wl ∧ Hid ((fs.take j).any (fun f => f.name.toList == l.tok) = false)) (fun i _ => fs.length - (intOf i).toNat)
    case atStart => exact ⟨0, Nat.zero_le _, rfl, Below.refl _ _, rfl⟩
    case round =>
      obtain ⟨j, hj, rfl, hb, hD⟩ := hrel
      have h2 := h1.calm hb
      have hM2 := hM1.calm hb
      by_cases hjl : j < fs.length
      · obtain ⟨fa', fc', he, hH⟩ := Has.own h2.fs
        cases he
        have hH2 : ∃ b off, fa = some ⟨b, off, none⟩ ∧ b < wr.heap.size ∧ AtB wr b off (fcells fs) := by
          rcases hH with hH | hH
          · exfalso
            have := congrArg List.length hH
            rw [fcells, flat_length Fld.cells 11 (fun _ => rfl), List.length_nil] at this
            omega
          · exact hH
        obtain ⟨bx, ox, rfl, hbx, hcx⟩ := hH2
        have hfj := fld_at hcx hjl
        obtain ⟨d0, d1, d2, d3, d4, d5, d6, d7, d8, d9, d10⟩ := fld11 hfj
        have hds := anyn_succ hjl l.tok
        obtain ⟨x, hx⟩ : ∃ x, x = fs[j] := ⟨_, rfl⟩
        rw [← hx] at hds d0 d1 d2 d3 d4 d5 d6 d7 d8 d9 d10
        have HDS : Hid _ := hds
        clear hds hx hfj hcx b1
        cases hq : (x.name.toList == s.toList) with
        | true =>
          have hF : Hid (fieldP union ⟨fs, ns, rus, l⟩ = none) := by
            rw [HSL.out] at hq
            rw [Hid]; simp only [fieldP, HN.out]
            rw [if_pos (any_of_take (j := j + 1) (by rw [HDS.out, hq]; simp))]
          go_wp2_with (go_at_call 74; refine (failAt_as p 3 (h2.par.alloc _) (by decide) (by decide)).mono ?_; rintro r w3 ⟨rfl, hB3, hm3⟩)
          go_ret
          rw [hF.out]
          exact ⟨(hM2.alloc _).trans (MT.of hm3), rfl, hB3⟩
        | false =>
          go_wp2_with fail
          go_roundw
          case rel => exact ⟨j + 1, by omega, by go_num, hb.alloc hb.size _, by rw [HSL.out] at hq; rw [Hid, HDS.out, hD.out, hq]; rfl⟩
          case measure => simp [intOf]; omega
      · have hjl2 : j = fs.length := by omega
        subst hjl2
        have hdup : fs.any (fun f => f.name.toList == l.tok) = false := by
          have := hD.out
          rwa [List.take_of_length_le (Nat.le_refl _)] at this
        have HD : Hid _ := hdup
        clear hdup hD b1
        obtain ⟨-, b1⟩ := scs2 h2.st
        have hlt2 := h2.st.lt
        by_cases h16 : 16 ≤ fs.length
        · have hF : Hid (fieldP union ⟨fs, ns, rus, l⟩ = none) := by
            rw [Hid]; simp only [fieldP, HN.out]
            rw [if_neg (by rw [HD.out]; simp), if_pos h16]
          go_wp2_with (go_at_call 74; refine (failAt_as p 2 h2.par (by decide) (by decide)).mono ?_; rintro r w3 ⟨rfl, hB3, hm3⟩)
          go_ret
          rw [hF.out]
          exact ⟨hM2.trans (MT.of hm3), rfl, hB3⟩
        · have hF0 : Hid (fieldP union ⟨fs, ns, rus, l⟩ = match expectB [64] (nx l) with
              | none => none
              | some l2 => match ordB l2.tok with
                | none => none
                | some n => match expectB [58] (nx l2) with
                  | none => none
                  | some l3 => match typB union rus.length l3 with
                    | none => none
                    | some (t, us, l4) => match defB t.kind l4 with
                      | none => none
                      | some (v, l5) => match expectB [59] l5 with
                        | none => none
                        | some l6 => some ⟨fs ++ [⟨bsV l.tok, t, Plc.zero, v, union⟩], ns ++ [n], rus ++ us, l6⟩) := by
            rw [Hid]; simp only [fieldP, HN.out]
            rw [if_neg (by rw [HD.out]; simp), if_neg h16]; rfl
          obtain ⟨w2, rfl⟩ : ∃ w2, w2 = wr := ⟨_, rfl⟩
          clear hb h1 hM1
          go_upto_region 13 with fail
          cases hX : expectB [64] (nx l) with
          | none =>
            have hF : Hid (fieldP union ⟨fs, ns, rus, l⟩ = none) := by rw [Hid, hF0.out, hX]
            have HX : expectB [64] (nx l) = none := hX
            go_wp2_with (go_at_call 72; refine (expect_no _ h2.par (by rw [show (ByteArray.mk #[64]).toList = [64] from ByteArray.toList_mk _]; exact HX)).mono ?_; rintro r w3 ⟨rfl, hB3, hm3⟩)
            go_ret
            rw [hF.out]
            exact ⟨hM2.trans (MT.of hm3), rfl, hB3⟩
          | some l2 =>
            rw [hX] at hF0
            have HX : expectB [64] (nx l) = some l2 := hX
            go_upto_region 15 with (go_at_call 72; refine (expect_yes _ h2.par (by rw [show (ByteArray.mk #[64]).toList = [64] from ByteArray.toList_mk _]; exact HX)).mono ?_; rintro r w3 ⟨rfl, hp3, hm3⟩)
            have h3 := h2.step hm3 hp3
            have hM3 := hM2.trans (MT.of hm3)
            clear hp3 hm3 b1 h2 hM2 HX hX
            have hlen := h3.par.tok_len
            obtain ⟨s2, hs2⟩ : ∃ s2 : ByteArray, s2.toList = l2.tok := ⟨bsV l2.tok, bsV_toList _⟩
            rw [← hs2, tl_len] at hlen
            have hO2 : ∀ w, Calls Faeg.prog 94 #[.string s2] w fun e w' => e = .returned (.tuple #[.int .i64 (natV (ordB l2.tok)), .bool (ordB l2.tok).isSome]) ∧ w' = w := fun w => hs2 ▸ ordinal_any s2 w hlen
            have HO : Hid _ := hO2
            have HS2 : Hid _ := hs2
            clear hO2 hs2
            cases hO : ordB l2.tok with
            | none =>
              have hF : Hid (fieldP union ⟨fs, ns, rus, l⟩ = none) := by rw [Hid, hF0.out]; simp only [hO]
              rw [hO] at HO
              go_wp2_with (first | (go_at_call 53; refine (tok_as h3.par HS2.out).mono ?_; rintro r w4 ⟨rfl, hp4, hb4⟩) | (go_at_call 94; refine (HO.out _).mono ?_; rintro e w' ⟨rfl, hw⟩; rw [hw]; clear hw) | (go_at_call 93; refine (fail_as 1 hp4 (by decide) (by decide)).mono ?_; rintro r w5 ⟨rfl, hB5, hm5⟩))
              go_ret
              rw [hF.out]
              exact ⟨(hM3.calm hb4).trans (MT.of hm5), rfl, hB5⟩
            | some n =>
              simp only [hO] at hF0
              rw [hO] at HO
              have hnv : natV (some n) = (n : Int) := rfl
              go_upto_region 19 with (first | (go_at_call 53; refine (tok_as h3.par HS2.out).mono ?_; rintro r w4 ⟨rfl, hp4, hb4⟩) | (go_at_call 94; refine (HO.out _).mono ?_; rintro e w' ⟨rfl, hw⟩; rw [hw]; clear hw) | (go_at_call 52; refine (next_any hp4).mono ?_; rintro r w5 ⟨rfl, hp5, hm5⟩))
              have h5 := (h3.calm hb4).step hm5 hp5
              have hM5 := (hM3.calm hb4).trans (MT.of hm5)
              clear hp4 hb4 hp5 hm5 h3 hM3
              cases hX : expectB [58] (nx l2) with
              | none =>
                have hF : Hid (fieldP union ⟨fs, ns, rus, l⟩ = none) := by rw [Hid, hF0.out, hX]
                have HX : expectB [58] (nx l2) = none := hX
                go_wp2_with (go_at_call 72; refine (expect_no _ h5.par (by rw [show (ByteArray.mk #[58]).toList = [58] from ByteArray.toList_mk _]; exact HX)).mono ?_; rintro r w6 ⟨rfl, hB6, hm6⟩)
                go_ret
                rw [hF.out]
                exact ⟨hM5.trans (MT.of hm6), rfl, hB6⟩
              | some l3 =>
                rw [hX] at hF0
                have HX : expectB [58] (nx l2) = some l3 := hX
                go_upto_region 21 with (go_at_call 72; refine (expect_yes _ h5.par (by rw [show (ByteArray.mk #[58]).toList = [58] from ByteArray.toList_mk _]; exact HX)).mono ?_; rintro r w6 ⟨rfl, hp6, hm6⟩)
                have h6 := h5.step hm6 hp6
                have hM6 := hM5.trans (MT.of hm6)
                clear hp6 hm6 h5 hM5 HX hX
                have hrl : rus.length = us.length := by rw [← hus]; simp [unames]
                rw [hrl] at hF0
                have hsz6 : lo ≤ w6.heap.size := by have := hM6.size; omega
                have hT6 := typ_any union h6.par h6.us hul (by omega)
                have HT : Hid _ := hT6
                clear hT6
                cases hT : typB union us.length l3 with
                | none =>
                  have hF : Hid (fieldP union ⟨fs, ns, rus, l⟩ = none) := by rw [Hid, hF0.out, hT]
                  rw [hT] at HT
                  go_wp2_with (go_at_call 95; refine Calls.mono (Hid.out HT) ?_; rintro r w7 ⟨hm7, ⟨a1, a2, a3, a4, rfl⟩, hB7⟩)
                  go_ret
                  rw [hF.out]
                  refine ⟨(hM6.trans (hm7.wide hsz6 (fun _ h => h))).alloc _, rfl, ?_⟩
                  obtain ⟨T', p', e', sv', uv', nv', c', wh', h1', h2', ho'⟩ := hB7
                  exact ⟨T', p', e', sv', uv', nv', c', wh', h1', h2', ho'.alloc _⟩
                | some q =>
                  obtain ⟨t, us1, l4⟩ := q
                  have htk := typB_kind hT
                  rw [hT] at HT hF0
                  simp only at hF0
                  obtain ⟨s4, hs4⟩ : ∃ s4 : ByteArray, s4.toList = l4.tok := ⟨bsV l4.tok, bsV_toList _⟩
                  have HS4 : Hid _ := hs4
                  clear hs4
                  go_upto_if 84 with (first | (go_at_call 95; refine Calls.mono (Hid.out HT) ?_; rintro r w7 ⟨hm7, rfl, uv', us', hp7, hu7, hun7⟩; have h7 := h6.typ hm7 hp7 hu7; have h8 := (h7.alloc (.cells #[.int .u8 t.kind, .int .u8 t.elem, .int .u8 t.ref, .int .u8 t.nest] 31)).alloc (.cells #[.string s, .int .u8 t.kind, .int .u8 t.elem, .int .u8 t.ref, .int .u8 t.nest, .int .u8 0, .int .u16 0, .int .u8 0, .bool false, .int .u64 0, .bool union] 34)) | (go_at_call 53; refine (tok_as h8.par HS4.out).mono ?_; rintro r w9 ⟨rfl, hp9, hb9⟩))
                  have hM8 : MT n0 pb lo [168] w ((w7.alloc (.cells #[.int .u8 t.kind, .int .u8 t.elem, .int .u8 t.ref, .int .u8 t.nest] 31)).alloc (.cells #[.string s, .int .u8 t.kind, .int .u8 t.elem, .int .u8 t.ref, .int .u8 t.nest, .int .u8 0, .int .u16 0, .int .u8 0, .bool false, .int .u64 0, .bool union] 34)) := ((hM6.trans (hm7.wide hsz6 (fun _ h => h))).alloc _).alloc _
                  have hsz7 : lo ≤ w7.heap.size := by have := hm7.size; omega
                  have hTy : Own ((w7.alloc (.cells #[.int .u8 t.kind, .int .u8 t.elem, .int .u8 t.ref, .int .u8 t.nest] 31)).alloc (.cells #[.string s, .int .u8 t.kind, .int .u8 t.elem, .int .u8 t.ref, .int .u8 t.nest, .int .u8 0, .int .u16 0, .int .u8 0, .bool false, .int .u64 0, .bool union] 34)) w7.heap.size 31 (t4 t.kind t.elem t.ref t.nest) := (Own.new w7 #[.int .u8 t.kind, .int .u8 t.elem, .int .u8 t.ref, .int .u8 t.nest] 31).alloc _
                  have hFl : Own ((w7.alloc (.cells #[.int .u8 t.kind, .int .u8 t.elem, .int .u8 t.ref, .int .u8 t.nest] 31)).alloc (.cells #[.string s, .int .u8 t.kind, .int .u8 t.elem, .int .u8 t.ref, .int .u8 t.nest, .int .u8 0, .int .u16 0, .int .u8 0, .bool false, .int .u64 0, .bool union] 34)) (w7.heap.size + 1) 34 (Fld.cells ⟨s, t, Plc.zero, 0, union⟩) := by
                    have := Own.new (w7.alloc (.cells #[.int .u8 t.kind, .int .u8 t.elem, .int .u8 t.ref, .int .u8 t.nest] 31)) #[.string s, .int .u8 t.kind, .int .u8 t.elem, .int .u8 t.ref, .int .u8 t.nest, .int .u8 0, .int .u16 0, .int .u8 0, .bool false, .int .u64 0, .bool union] 34
                    rw [World.size_alloc] at this
                    exact this
                  have h9 := h8.calm hb9
                  have hM9 := hM8.calm hb9
                  have hTy9 := hTy.below hb9 hTy.lt
                  have hFl9 := hFl.below hb9 hFl.lt
                  have hfvb : ∀ k, (Value.slice fa fs.length fc).ownBlock = some k → k ≠ w7.heap.size + 1 := fun k hk => by
                    have := (h7.fs.lt k hk).2
                    omega
                  clear hTy hFl hM8 h8 h7 hm7 hp7 hu7 hp9 hb9 h6 hM6 HT hT
                  obtain ⟨w9, rfl⟩ : ∃ w, w = w9 := ⟨_, rfl⟩
                  go_cut [9] (fun _ wc => ∃ v l5, Hid (defB t.kind l4 = some (v, l5)) ∧ FS n0 lo pb tb T sv nm fs ns us' l5 uv' (.slice na ns.length nc) (.slice fa fs.length fc) wc ∧ Own wc (w7.heap.size + 1) 34 (Fld.cells ⟨s, t, Plc.zero, v, union⟩) ∧ MT n0 pb lo [168] w wc)
                  case first =>
                    cases hq : (s4.toList == [61]) with
                    | false =>
                      have hD4 : Hid (defB t.kind l4 = some (0, l4)) := by
                        rw [Hid]; unfold defB; rw [← HS4.out, if_neg (by rw [hq]; simp)]
                      go_wp2_with fail
                      go_meet
                      exact ⟨0, l4, hD4, h9, hFl9, hM9⟩
                    | true =>
                      have hD4 : defB t.kind l4 = valueB t.kind (nx l4) := by
                        unfold defB; rw [← HS4.out, if_pos hq]
                      cases hV : valueB t.kind (nx l4) with
                      | none =>
                        have hF : Hid (fieldP union ⟨fs, ns, rus, l⟩ = none) := by rw [Hid, hF0.out, hD4, hV]
                        clear hD4
                        go_wp2_with (first | (go_at_call 52; refine (next_any h9.par).mono ?_; rintro r w10 ⟨rfl, hp10, hm10⟩; have h10 := h9.step hm10 hp10; have hTy10 := hTy9.mod hm10 (h9.par.ne hTy9 (by decide)); have hFl10 := hFl9.mod hm10 (h9.par.ne hFl9 (by decide)); obtain ⟨t0, -⟩ := t4c hTy10; have hltT := hTy10.lt) | (go_at_call 96; refine (value_any t.kind h10.par htk.1 (by omega)).mono ?_; rw [hV]; rintro r w11 ⟨hm11, rfl, hB11⟩; have hFl11 := hFl10.mod hm11 (h10.par.ne hFl10 (by decide)); have z9 := hFl11.cell (j := 9) (u := .int .u64 0) rfl; have f9 := hFl11.free 9; have hltF := hFl11.lt))
                        go_ret
                        rw [hF.out]
                        refine ⟨((hM9.trans (MT.of hm10)).trans (MT.of hm11)).set (p := ⟨w7.heap.size + 1, 9, none⟩) (.inr (Nat.le_succ_of_le hsz7)) _, rfl, hB11.other (a := ⟨w7.heap.size + 1, 9, none⟩) (Ne.symm (h10.par.ne hFl10 (by decide))) _⟩
                      | some q =>
                        obtain ⟨v, l5⟩ := q
                        have hD5 : Hid (defB t.kind l4 = some (v, l5)) := by rw [Hid, hD4, hV]
                        clear hD4
                        go_wp2_with (first | (go_at_call 52; refine (next_any h9.par).mono ?_; rintro r w10 ⟨rfl, hp10, hm10⟩; have h10 := h9.step hm10 hp10; have hTy10 := hTy9.mod hm10 (h9.par.ne hTy9 (by decide)); have hFl10 := hFl9.mod hm10 (h9.par.ne hFl9 (by decide)); obtain ⟨t0, -⟩ := t4c hTy10; have hltT := hTy10.lt) | (go_at_call 96; refine (value_any t.kind h10.par htk.1 (by omega)).mono ?_; rw [hV]; rintro r w11 ⟨hm11, rfl, hp11⟩; have h11 := h10.step hm11 hp11; have hFl11 := hFl10.mod hm11 (h10.par.ne hFl10 (by decide)); have z9 := hFl11.cell (j := 9) (u := .int .u64 0) rfl; have f9 := hFl11.free 9; have hltF := hFl11.lt))
                        go_meet
                        exact ⟨v, l5, hD5, h11.other hFl11 (by decide) (.inl (by decide)) (.inr hfvb) (by decide) (by decide) 9 _, hFl11.set 9 _, ((hM9.trans (MT.of hm10)).trans (MT.of hm11)).set (p := ⟨w7.heap.size + 1, 9, none⟩) (.inr (Nat.le_succ_of_le hsz7)) _⟩
                  case rest =>
                    obtain ⟨v, l5, hD5, h12, hFl12, hM12⟩ := hcut
                    rw [hD5.out] at hF0
                    simp only at hF0
                    clear h9 hM9 hTy9 hFl9
                    obtain ⟨w12, rfl⟩ : ∃ w, w = wc := ⟨_, rfl⟩
                    have hFl13 : Own w12 (w7.heap.size + 1) 34 [.string s, .int .u8 t.kind, .int .u8 t.elem, .int .u8 t.ref, .int .u8 t.nest, .int .u8 0, .int .u16 0, .int .u8 0, .bool false, .int .u64 v, .bool union] := hFl12
                    have d0 := hFl13.cell (j := 0) rfl
                    have d1 := hFl13.cell (j := 1) rfl
                    have d2 := hFl13.cell (j := 2) rfl
                    have d3 := hFl13.cell (j := 3) rfl
                    have d4 := hFl13.cell (j := 4) rfl
                    have d5 := hFl13.cell (j := 5) rfl
                    have d6 := hFl13.cell (j := 6) rfl
                    have d7 := hFl13.cell (j := 7) rfl
                    have d8 := hFl13.cell (j := 8) rfl
                    have d9 := hFl13.cell (j := 9) rfl
                    have d10 := hFl13.cell (j := 10) rfl
                    have hltF := hFl13.lt
                    have hltB := h12.st.lt
                    obtain ⟨b0, b1⟩ := scs2 h12.st
                    have q1 := h12.st.free 1
                    obtain ⟨i34, hi, hz0, hz1, hz2⟩ := info_parts info34
                    have hsz12 : lo ≤ w12.heap.size := by have := hM12.size; omega
                    go_upto_region 30 with fail
                    go_cut [104] (fun _ wc => ∃ fv', FS n0 lo pb tb T sv nm (fs ++ [⟨s, t, Plc.zero, v, union⟩]) ns us' l5 uv' (.slice na ns.length nc) fv' wc ∧ MT n0 pb lo [168] w wc)
                    case first =>
                      go_region_law (refine step_app1g rfl (.tmp 101) (.tmp 103) 23 rfl lo 34 i34 _ 11 48 Faeg.underlying23 hi hz0 hz1 hz2 rfl (by decide) _ fs.length (fcells fs) [.string s, .int .u8 t.kind, .int .u8 t.elem, .int .u8 t.ref, .int .u8 t.nest, .int .u8 0, .int .u16 0, .int .u8 0, .bool false, .int .u64 v, .bool union] w12.heap.size rfl rfl (h12.fs.alloc (.cells (List.toArray [.string s, .int .u8 t.kind, .int .u8 t.elem, .int .u8 t.ref, .int .u8 t.nest, .int .u8 0, .int .u16 0, .int .u8 0, .bool false, .int .u64 v, .bool union]) 34)) (Own.new w12 (List.toArray [.string s, .int .u8 t.kind, .int .u8 t.elem, .int .u8 t.ref, .int .u8 t.nest, .int .u8 0, .int .u16 0, .int .u8 0, .bool false, .int .u64 v, .bool union]) 34) rfl rfl (by omega) (by unfold maxLen; omega) (by simp; omega) ?_; intro v5 w5 hU5 hg5; obtain ⟨va, vc, rfl, -⟩ := Has.own hU5; have hg6 : (w12.alloc (.cells (List.toArray [.string s, .int .u8 t.kind, .int .u8 t.elem, .int .u8 t.ref, .int .u8 t.nest, .int .u8 0, .int .u16 0, .int .u8 0, .bool false, .int .u64 v, .bool union]) 34)).grownBy w5 (Value.slice fa fs.length fc).ownBlock := ⟨hg5.os, hg5.tape, hg5.output, hg5.size, hg5.block⟩; have st5 := (h12.st.alloc (.cells (List.toArray [.string s, .int .u8 t.kind, .int .u8 t.elem, .int .u8 t.ref, .int .u8 t.nest, .int .u8 0, .int .u16 0, .int .u8 0, .bool false, .int .u64 v, .bool union]) 34)).grown hg6 (Ne.symm (row_ne h12.fs h12.st (by decide))); obtain ⟨x0, x1⟩ := scs2 st5; have x2 := st5.free 1; have hlt5 := st5.lt)
                      all_goals as_aux_lemma =>
                        go_wp2_with fail
                        go_meet
                        exact ⟨_, h12.pushF (F := ⟨s, t, Plc.zero, v, union⟩) hg6 hU5, ((hM12.alloc _).grown (h12.fs.alloc _) hg6 (.inr (Nat.le_refl _))).set (p := ⟨tb, 1, none⟩) (.inr hlo) _⟩
                    case rest =>
                      obtain ⟨fv', h14, hM14⟩ := hcut
                      clear h12 hFl12 hFl13 hM12 d0 d1 d2 d3 d4 d5 d6 d7 d8 d9 d10 hltF hltB b0 b1 q1 hi hz0 hz1 hz2 hsz12
                      obtain ⟨w14, rfl⟩ : ∃ w, w = wc := ⟨_, rfl⟩
                      obtain ⟨p14, e14, hl14, ho14⟩ := id h14.par
                      obtain ⟨-, -, -, -, -, c5, -, -⟩ := pcs8 ho14
                      have hlt14 := ho14.lt
                      obtain ⟨i3, hi, hz0, hz1, hz2⟩ := info_parts info3
                      have hsz14 : lo ≤ w14.heap.size := by have := hM14.size; omega
                      go_upto_region 32 with (at_builtin; refine wpList_app1g rfl (.tmp 111) (.tmp 113) 97 rfl lo 3 i3 _ 1 8 under97 hi hz0 hz1 hz2 rfl (by decide) _ ns.length (ncells ns) [.int .i64 n] _ rfl rfl h14.ns rfl rfl rfl (by omega) (by unfold maxLen; omega) (by omega) ?_; intro v5 w5 hU5 hg5; obtain ⟨va, vc, rfl, -⟩ := Has.own hU5; have hg6 : (w14.alloc (.cells #[.int .i64 n] 3)).grownBy w5 (Value.slice na ns.length nc).ownBlock := hg5; have ho5 := (ho14.alloc (.cells #[.int .i64 n] 3)).grown hg6 (Ne.symm (row_ne h14.ns ho14 (by decide))); obtain ⟨x0, x1, x2, x3, x4, x5, -, -⟩ := pcs8 ho5; have x6 := ho5.free 5; have hlt5 := ho5.lt)
                      have h15 := h14.pushN hg6 hU5
                      have hM15 := ((hM14.alloc (.cells #[.int .i64 n] 3)).grown (h14.ns.alloc _) hg6 (.inr (Nat.le_refl _))).set (p := ⟨pb, 5, none⟩) (.inl rfl) (.slice va (ns.length + 1) vc)
                      generalize w5.setCell ⟨pb, 5, none⟩ (.slice va (ns.length + 1) vc) = w15 at *
                      cases hX : expectB [59] l5 with
                      | none =>
                        have hF : Hid (fieldP union ⟨fs, ns, rus, l⟩ = none) := by rw [Hid, hF0.out, hX]
                        go_wp2_with (go_at_call 72; refine (expect_no _ h15.par (by rw [show (ByteArray.mk #[59]).toList = [59] from ByteArray.toList_mk _]; exact hX)).mono ?_; rintro r w16 ⟨rfl, hB16, hm16⟩)
                        go_ret
                        rw [hF.out]
                        exact ⟨hM15.trans (MT.of hm16), rfl, hB16⟩
                      | some l6 =>
                        have hF : Hid (fieldP union ⟨fs, ns, rus, l⟩ = some ⟨fs ++ [⟨s, t, Plc.zero, v, union⟩], ns ++ [n], rus ++ us1, l6⟩) := by
                          rw [Hid, hF0.out, hX, ← HSL.out, bsV_of]
                        go_wp2_with (go_at_call 72; refine (expect_yes _ h15.par (by rw [show (ByteArray.mk #[59]).toList = [59] from ByteArray.toList_mk _]; exact hX)).mono ?_; rintro r w16 ⟨rfl, hp16, hm16⟩)
                        go_ret
                        rw [hF.out]
                        exact ⟨hM15.trans (MT.of hm16), rfl, us', uv', _, fv', h15.step hm16 hp16, by rw [hun7, hus]⟩
end Go.Proofs.Ygcfae
