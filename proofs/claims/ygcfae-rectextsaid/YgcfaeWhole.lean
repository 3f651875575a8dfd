import Derived.Test.YgcfaeStr
namespace Go.Proofs.Ygcfae
open Go.RowKit

attribute [local go_sem] more_cell more_frozen
set_option maxRecDepth 100000
set_option maxHeartbeats 1000000 in
theorem whole_any (t : Str) (b o : Nat) (n : Int) (w : World) (h : StrAt w b o t) (hok : ∀ f ∈ t.fs, FldOK f) :
    Calls Faeg.prog 34 #[.pointer (some ⟨b, o, none⟩), .int .i64 n] w fun e w' => e = .returned (.bool (wholeB t n)) ∧ Below w.heap.size w w' := by
  obtain ⟨a, cap, hb, hat, has⟩ := h
  obtain ⟨c0, c1, c2, c3, c4, c5, c6, c7⟩ := str8 hat
  have hwB : Hid (wholeB t n = _) := rfl
  go_enter Faeg.func34, Faeg.ntmps34
  go_upto_region 1 with fail
  go_cut [34] (fun v wc => v = .bool (headBad t) ∧ w = wc)
  case first =>
    cases h1 : isNameB t.name.toList true with
    | false =>
      go_wp2_with (first | (go_at_call 49; refine (isName_any _ _ _).mono ?_; rintro e w' ⟨rfl, hw⟩; rw [hw]; clear hw) | (go_at_call 50; refine (builtIn_any _ _).mono ?_; rintro e w' ⟨rfl, hw⟩; rw [hw]; clear hw))
      go_meet
      simp [headBad, h1]
    | true =>
      cases h2 : builtInB t.name.toList with
      | true =>
        go_wp2_with (first | (go_at_call 49; refine (isName_any _ _ _).mono ?_; rintro e w' ⟨rfl, hw⟩; rw [hw]; clear hw) | (go_at_call 50; refine (builtIn_any _ _).mono ?_; rintro e w' ⟨rfl, hw⟩; rw [hw]; clear hw))
        go_meet
        simp [headBad, h2]
      | false =>
        go_wp2_with (first | (go_at_call 49; refine (isName_any _ _ _).mono ?_; rintro e w' ⟨rfl, hw⟩; rw [hw]; clear hw) | (go_at_call 50; refine (builtIn_any _ _).mono ?_; rintro e w' ⟨rfl, hw⟩; rw [hw]; clear hw))
        go_meet
        simp [headBad, h1, h2]
  case rest =>
    obtain ⟨rfl, rfl⟩ := hcut
    cases hh : headBad t with
    | true =>
      go_wp2_with fail
      go_ret
      exact ⟨ret_bool (by simp [wholeB, hh]), Below.refl _ _⟩
    | false =>
      have h16 : t.fs.length ≤ 16 := by
        simp [headBad] at hh
        omega
      have hk0 : ∀ f ∈ t.fs, 0 ≤ f.t.kind := fun f hf => (hok f hf).t.k0
      cases hr : rLay t.fs with
      | none =>
        have HR : Hid _ := hr
        have hfin : Hid (wholeB t n = false) := by
          show _ = _
          unfold wholeB; rw [hr, hh]; rfl
        clear hr hwB
        go_wp2_with (go_at_call 12; refine (rLayout_no HR.out a _ cap _ rfl has hk0).mono ?_; rintro e w2 ⟨rfl, bel2⟩)
        go_quiet (fail)
        go_wp2_with fail
        go_ret
        exact ⟨ret_bool hfin.out.symm, below_drewN (bel2.alloc bel2.size _) _⟩
      | some r =>
        have HR : Hid _ := hr
        have hrl := rLay_len hr
        have hfin : Hid (wholeB t n = (plcEq r.tag t.tag && ((r.data : Int) == t.data) && ((r.ptrs : Int) == t.ptrs) && fieldsB t.fs r.fs n t.fs.length)) := by
          show _ = _
          unfold wholeB; rw [hr, hh]; rfl
        clear hr hwB
        go_upto_region 4 with (go_at_call 12; refine (rLayout_yes HR.out a _ cap _ rfl has hk0).mono ?_; rintro e w2 ⟨a2, cp2, rfl, has2, bel2⟩)
        have hs2 := bel2.size
        have hb2 : b < w2.heap.size := by omega
        have hat2 := hat.below bel2 hb
        have hasw2 := has.below bel2
        clear c0 c1 c2 c3 c4 c5 c6 c7 hat has
        obtain ⟨c0, c1, c2, c3, c4, c5, c6, c7⟩ := str8 hat2
        have hn27 := neq27 r.tag t.tag
        obtain ⟨bad, hbad⟩ : ∃ bad, bad = !(plcEq r.tag t.tag && ((r.data : Int) == t.data) && ((r.ptrs : Int) == t.ptrs)) := ⟨_, rfl⟩
        have HB : Hid _ := hbad
        clear hbad
        go_cut [71] (fun v wc => v = .bool bad ∧ ∃ nq, wc = (w2.alloc (.cells #[.int .u8 r.tag.bits, .int .u16 r.tag.off, .int .u8 r.tag.slot, .bool r.tag.isPtr] 27)).drewN nq)
        case first =>
          cases h1 : plcEq r.tag t.tag with
          | false =>
            go_quiet (fail)
            go_wp2_with fail
            go_meet
            exact ⟨by rw [HB.out, h1]; rfl, _, rfl⟩
          | true =>
            cases h2 : ((r.data : Int) == t.data) with
            | false =>
              have h2' : ((r.data : Int) != t.data) = true := by simp only [bne, h2]; rfl
              go_quiet (fail)
              go_wp2_with fail
              go_meet
              exact ⟨by rw [HB.out, h1, h2]; rfl, _, rfl⟩
            | true =>
              have h2' : ((r.data : Int) != t.data) = false := by simp only [bne, h2]; rfl
              go_quiet (fail)
              go_wp2_with fail
              go_meet
              exact ⟨by rw [HB.out, h1, h2]; simp [bne], _, rfl⟩
        case rest =>
          obtain ⟨rfl, nq, hwc⟩ := hcut
          clear hn27
          have bel3 : Below w.heap.size w wc := by rw [hwc]; exact below_drewN (bel2.alloc bel2.size _) _
          have bel4 : Below w2.heap.size w2 wc := by rw [hwc]; exact below_drewN ((Below.refl _ _).alloc (Nat.le_refl _) _) _
          clear hwc c0 c1 c2 c3 c4 c5 c6 c7
          obtain ⟨w0, rfl⟩ : ∃ w0, w0 = wc := ⟨_, rfl⟩
          have hat3 := hat2.below bel4 hb2
          have has3 := has2.below bel4
          have hasw3 := hasw2.below bel4
          have hb3 : b < w0.heap.size := by have := bel4.size; omega
          clear hat2 has2 hasw2 bel4 bel2
          obtain ⟨c0, c1, c2, c3, c4, c5, c6, c7⟩ := str8 hat3
          cases bad with
          | true =>
            go_wp2_with fail
            go_ret
            exact ⟨ret_bool (by rw [hfin.out]; have := HB.out; cases h : (plcEq r.tag t.tag && ((r.data : Int) == t.data) && ((r.ptrs : Int) == t.ptrs)) with | true => (rw [h] at this; cases this) | false => rfl), bel3⟩
          | false =>
            have hfin2 : Hid (wholeB t n = fieldsB t.fs r.fs n t.fs.length) := by
              show _ = _
              have := HB.out
              rw [hfin.out]
              cases h : (plcEq r.tag t.tag && ((r.data : Int) == t.data) && ((r.ptrs : Int) == t.ptrs)) with
              | true => rfl
              | false => rw [h] at this; cases this
            clear HB hfin
            go_wp2_with fail
            go_loopw [77] (fun i wr => ∃ k : Nat, k ≤ t.fs.length ∧ i = .int .i64 k ∧ Below w0.heap.size w0 wr ∧ Hid (fieldsB t.fs r.fs n k = true)) (fun i _ => t.fs.length - (intOf i).toNat)
            case atStart => exact ⟨0, Nat.zero_le _, rfl, Below.refl _ _, rfl⟩
            case round =>
              obtain ⟨k, hk, rfl, bel, hF⟩ := hrel
              have hbs := bel.size
              by_cases hlt : k < t.fs.length
              · have hx3 : ∃ b off, a = some ⟨b, off, none⟩ ∧ b < w0.heap.size ∧ AtB w0 b off (fcells t.fs) := by
                  rcases hasw3 with h | h
                  · exfalso
                    have := congrArg List.length h
                    rw [fcells, flat_length Fld.cells 11 (fun _ => rfl), List.length_nil] at this
                    omega
                  · exact h
                obtain ⟨bx, ox, rfl, hbx, hcx⟩ := hx3
                have hy3 : ∃ b off, a2 = some ⟨b, off, none⟩ ∧ b < w0.heap.size ∧ AtB w0 b off (fcells r.fs) := by
                  rcases has3 with h | h
                  · exfalso
                    have := congrArg List.length h
                    rw [fcells, flat_length Fld.cells 11 (fun _ => rfl), List.length_nil] at this
                    omega
                  · exact h
                obtain ⟨by', oy, rfl, hby, hcy⟩ := hy3
                have hkr : k < r.fs.length := by omega
                have hfx := (fld_at hcx hlt).below bel hbx
                have hfy := (fld_at hcy hkr).below bel hby
                have hstep : Hid (fieldsB t.fs r.fs n (k + 1) = fieldB t.fs n k t.fs[k] r.fs[k]) := by
                  show _ = _
                  have := hF.out
                  unfold fieldsB at this ⊢
                  rw [List.range_succ, List.all_append, this]
                  simp [List.getElem?_eq_getElem hlt, List.getElem?_eq_getElem hkr]
                have hokx := hok t.fs[k] (List.getElem_mem _)
                obtain ⟨x, hxe⟩ : ∃ x, x = t.fs[k] := ⟨_, rfl⟩
                obtain ⟨y, hye⟩ : ∃ y, y = r.fs[k] := ⟨_, rfl⟩
                rw [← hxe] at hfx hokx hstep
                rw [← hye] at hfy hstep
                clear hxe hye
                clear c0 c1 c2 c3 c4 c5 c6 c7
                obtain ⟨c0, c1, c2, c3, c4, c5, c6, c7, c8, c9, c10⟩ := fld11 hfx
                obtain ⟨d0, d1, d2, d3, d4, d5, d6, d7, d8, d9, d10⟩ := fld11 hfy
                have hby' : by' < wr.heap.size := by omega
                have hwd : ∀ w, Calls Faeg.prog 32 #[.int .u8 x.t.kind] w fun e w' => e = .returned (.int .u8 (wd x.t.kind)) ∧ w' = w := fun w => width_any x.t.kind w hokx.t.k0
                have HWD : Hid _ := hwd
                clear hwd
                go_upto_region 10 with (go_at_call 32; refine (HWD.out _).mono ?_; rintro e w' ⟨rfl, hww⟩; rw [hww]; clear hww)
                have hn34 := neq34 x y
                have hX : Own (wr.alloc (.cells x.cells.toArray 34)) wr.heap.size 34 x.cells := Own.new _ _ _
                have belX : Below w0.heap.size w0 (wr.alloc (.cells x.cells.toArray 34)) := bel.alloc hbs _
                have hfy' := hfy.below ((Below.refl _ wr).alloc (Nat.le_refl _) (.cells x.cells.toArray 34)) hby'
                obtain ⟨bad, hbad⟩ : ∃ bad, bad = !(fldEq x y && isNameB x.name.toList false && soundB x.t n x.union && dfltOK x) := ⟨_, rfl⟩
                have HB : Hid _ := hbad
                clear hbad c0 c1 c2 c3 c4 c5 c6 c7 c8 c9 c10 d0 d1 d2 d3 d4 d5 d6 d7 d8 d9 d10
                show Code.wp Faeg.prog _ _ _ (wr.alloc (.cells x.cells.toArray 34))
                have hyX : by' < (wr.alloc (.cells x.cells.toArray 34)).heap.size := by simp; omega
                generalize hxb : wr.heap.size = xb at *
                generalize wr.alloc (.cells x.cells.toArray 34) = W at *
                have hxX := hX.lt
                obtain ⟨c0, c1, c2, c3, c4, c5, c6, c7, c8, c9, c10⟩ := fld11 (o := 0) hX.at
                simp only [Nat.zero_add] at c1 c2 c3 c4 c5 c6 c7 c8 c9 c10
                obtain ⟨d0, d1, d2, d3, d4, d5, d6, d7, d8, d9, d10⟩ := fld11 hfy'
                go_cut [117] (fun v wd' => v = .bool bad ∧ Below W.heap.size W wd')
                case first =>
                  cases h1 : fldEq x y with
                  | false =>
                    refine wp_region_calm (by kernel_rfl) (by kernel_rfl) ?_
                    repeat (go_big_quiet_step (fail))
                    refine wpQuiet_nil ?_
                    intro wq hwq
                    go_wp2_with fail
                    go_meet
                    exact ⟨by rw [HB.out, h1]; rfl, hwq⟩
                  | true =>
                    cases h2 : isNameB x.name.toList false with
                    | false =>
                      refine wp_region_calm (by kernel_rfl) (by kernel_rfl) ?_
                      repeat (go_big_quiet_step ((go_at_call 49; exact calm_of_same (isName_any _ _ _))))
                      refine wpQuiet_nil ?_
                      intro wq hwq
                      go_wp2_with fail
                      go_meet
                      exact ⟨by rw [HB.out, h1, h2]; rfl, hwq⟩
                    | true =>
                      cases h3 : soundB x.t n x.union with
                      | false =>
                        refine wp_region_calm (by kernel_rfl) (by kernel_rfl) ?_
                        repeat (go_big_quiet_step ((first | (go_at_call 49; exact calm_of_same (isName_any _ _ _)) | (go_at_call 51; exact calm_of (sound_any x.t n x.union _ hokx.t.r0 hokx.t.r1)))))
                        refine wpQuiet_nil ?_
                        intro wq hwq
                        go_wp2_with fail
                        go_meet
                        exact ⟨by rw [HB.out, h1, h2, h3]; rfl, hwq⟩
                      | true =>
                        have hwn := wd_nonneg x.t.kind
                        by_cases h64 : wd x.t.kind < 64
                        · have hd64 : decide (wd x.t.kind < 64) = true := by simpa using h64
                          have hdf : Hid (dfltOK x = (x.dflt / 2 ^ (wd x.t.kind).toNat == 0)) := by
                            show _ = _
                            unfold dfltOK
                            rw [show decide (64 ≤ wd x.t.kind) = false by simp; omega]; rfl
                          refine wp_region_calm (by kernel_rfl) (by kernel_rfl) ?_
                          repeat (go_big_quiet_step ((first | (go_at_call 49; exact calm_of_same (isName_any _ _ _)) | (go_at_call 51; exact calm_of (sound_any x.t n x.union _ hokx.t.r0 hokx.t.r1)))))
                          refine wpQuiet_nil ?_
                          intro wq hwq
                          go_wp2_with fail
                          go_meet
                          exact ⟨by rw [HB.out, h1, h2, h3, hdf.out]; simp [bne], hwq⟩
                        · have hd64 : decide (wd x.t.kind < 64) = false := by simpa using h64
                          have hdf : Hid (dfltOK x = true) := by
                            show _ = _
                            unfold dfltOK
                            rw [show decide (64 ≤ wd x.t.kind) = true by simp; omega]; rfl
                          refine wp_region_calm (by kernel_rfl) (by kernel_rfl) ?_
                          repeat (go_big_quiet_step ((first | (go_at_call 49; exact calm_of_same (isName_any _ _ _)) | (go_at_call 51; exact calm_of (sound_any x.t n x.union _ hokx.t.r0 hokx.t.r1)))))
                          refine wpQuiet_nil ?_
                          intro wq hwq
                          go_wp2_with fail
                          go_meet
                          exact ⟨by rw [HB.out, h1, h2, h3, hdf.out]; rfl, hwq⟩
                case rest =>
                  obtain ⟨rfl, belW⟩ := hcut
                  have bel5 : Below w0.heap.size w0 wc := belX.trans (belW.mono (by have := belX.size; omega))
                  clear c0 c1 c2 c3 c4 c5 c6 c7 c8 c9 c10 d0 d1 d2 d3 d4 d5 d6 d7 d8 d9 d10 hn34
                  have hX2 := hX.below belW hxX
                  cases bad with
                  | true =>
                    have hno : fieldB t.fs n k x y = false := by
                      have := HB.out
                      unfold fieldB
                      cases h : (fldEq x y && isNameB x.name.toList false && soundB x.t n x.union && dfltOK x) with
                      | true => rw [h] at this; cases this
                      | false => rfl
                    go_wp2_with fail
                    go_ret
                    exact ⟨ret_bool (by rw [hfin2.out, fieldsB_short (hstep.out.trans hno) (by omega)]), bel3.trans (bel5.mono bel3.size)⟩
                  | false =>
                    have hyes : fieldB t.fs n k x y = !(dupB t.fs k x) := by
                      have := HB.out
                      unfold fieldB
                      cases h : (fldEq x y && isNameB x.name.toList false && soundB x.t n x.union && dfltOK x) with
                      | false => rw [h] at this; cases this
                      | true => rfl
                    have HY : Hid _ := hyes
                    clear hyes HB HWD hX hfy' hfy hfx hxX hyX hby' hxb
                    have hxw := hX2.lt
                    go_wp2_with fail
                    go_loopw [119] (fun j wj => ∃ m : Nat, m ≤ k ∧ j = .int .i64 m ∧ Below wc.heap.size wc wj ∧ Hid (dupB t.fs m x = false)) (fun j _ => k - (intOf j).toNat)
                    case atStart => exact ⟨0, Nat.zero_le _, rfl, Below.refl _ _, rfl⟩
                    case round =>
                      obtain ⟨m, hm, rfl, belj, hD⟩ := hrel
                      have bel6 : Below w0.heap.size w0 wr := bel5.trans (belj.mono bel5.size)
                      by_cases hml : m < k
                      · have hmf : m < t.fs.length := by omega
                        have hfj := (fld_at hcx hmf).below bel6 hbx
                        have hatj := hat3.below bel6 hb3
                        have hXj := hX2.below belj hxw
                        have hsz := bel6.size
                        have hszj := belj.size
                        have hbj : b < wr.heap.size := by omega
                        have hbxj : bx < wr.heap.size := by omega
                        have hxbj := hXj.lt
                        obtain ⟨-, c1, -⟩ := str8 hatj
                        obtain ⟨d0, -⟩ := fld11 hfj
                        have e0 := hXj.cell (j := 0) (u := .string x.name) rfl
                        have hds := dupB_succ t.fs x m hmf
                        obtain ⟨z, hz⟩ : ∃ z, z = t.fs[m].name := ⟨_, rfl⟩
                        rw [← hz] at hds d0
                        have HDS : Hid _ := hds
                        clear hds hz hfj hatj
                        cases hq : (z.toList == x.name.toList) with
                        | true =>
                          go_upto_region 15 with fail
                          go_quiet (fail)
                          go_wp2_with fail
                          go_ret
                          have hdk : dupB t.fs k x = true := dupB_more (j := m + 1) (by rw [HDS.out, hq]; simp) (by omega)
                          exact ⟨ret_bool (by rw [hfin2.out, fieldsB_short (k := k + 1) (by rw [hstep.out, HY.out, hdk]; rfl) (by omega)]), below_drewN (bel3.trans (bel6.mono bel3.size)) _⟩
                        | false =>
                          go_upto_region 15 with fail
                          go_quiet (fail)
                          go_wp2_with fail
                          go_roundw
                          case rel => exact ⟨m + 1, by omega, by go_num, below_drewN belj _, by rw [Hid, HDS.out, hD.out, hq]; rfl⟩
                          case measure => simp [intOf]; omega
                      · have hmk : m = k := by omega
                        subst hmk
                        go_wp2_with fail
                        go_roundw
                        case rel => exact ⟨m + 1, by omega, by go_num, bel6, by rw [Hid, hstep.out, HY.out, hD.out]; rfl⟩
                        case measure => simp [intOf]; omega
              · have hkl : k = t.fs.length := by omega
                subst hkl
                go_wp2_with fail
                go_ret
                exact ⟨ret_bool (by rw [hfin2.out, hF.out]), bel3.trans (bel.mono bel3.size)⟩
end Go.Proofs.Ygcfae
