import Derived.Test.YgcfaePM
namespace Go.Proofs.Ygcfae
open Go.RowKit

def StPost (o : Option Rs) (n0 pb : Nat) (T : ByteArray) (w : World) : Ending → World → Prop := fun r w' =>
  MT n0 pb w.heap.size [168, 70] w w' ∧ match o with
    | none => r = .returned (.bool false) ∧ Bad w' pb
    | some q => r = .returned (.bool true) ∧ ∃ ps' us' sv' uv' nv', PM n0 pb T ps' us' q.l sv' uv' nv' w' ∧ ps'.map Prod.fst = q.ss ∧ unames us' = q.us

theorem anys_succ {ss : List Str} {j : Nat} (h : j < ss.length) (s : Bs) : (ss.take (j + 1)).any (fun t => t.name.toList == s) = ((ss.take j).any (fun t => t.name.toList == s) || ss[j].name.toList == s) := by
  rw [List.take_succ_eq_append_getElem h, List.any_append]; simp

/-- struct j of a row -/
theorem row_str {w : World} {n0 g n cap : Nat} {ps : List (Str × Value)} (h : w.ownsRow n0 70 8 (.slice (some ⟨g, 0, none⟩) n cap) n (scellsL ps)) {j : Nat} (hj : j < ps.length) : AtB w g (j * 8) ((ps[j]).1.cells (ps[j]).2) := by
  intro k u hk
  have hk8 : k < 8 := by
    have := (List.getElem?_eq_some_iff.1 hk).1
    simpa [Str.cells] using this
  have := h.cells rfl (j * 8 + k) u (by rw [scellsL, flat_get _ 8 (fun _ => rfl) ps j k hj hk8]; exact hk)
  simpa [Addr.add_lit] using this

set_option maxRecDepth 100000
set_option maxHeartbeats 20000000 in
theorem strct_any {n0 pb : Nat} {T : ByteArray} {ps : List (Str × Value)} {us : List (Int × ByteArray)} {l : Lx} {sv uv nv : Value} {w : World} (h : PM n0 pb T ps us l sv uv nv w) (hn0 : n0 ≤ w.heap.size) (hpl : ps.length ≤ 4) (hul : us.length ≤ 80) :
    Calls Faeg.prog 54 #[.pointer (some ⟨pb, 0, none⟩)] w (StPost (strctP ⟨ps.map Prod.fst, unames us, l⟩) n0 pb T w) := by
  obtain ⟨sa, sc, rfl, -⟩ := Has.own h.row
  go_enter Faeg.func54, Faeg.ntmps54
  go_upto_region 1 with fail
  have hstr : (ByteArray.mk #[115, 116, 114, 117, 99, 116]).toList = sStruct := ByteArray.toList_mk _
  cases hX : expectB sStruct l with
  | none =>
    have hF : Hid (strctP ⟨ps.map Prod.fst, unames us, l⟩ = none) := by rw [Hid]; simp only [strctP, hX]
    go_wp2_with (go_at_call 72; refine (expect_no _ h.par (by rw [hstr]; exact hX)).mono ?_; rintro r w2 ⟨rfl, hB2, hm2⟩)
    go_ret
    rw [hF.out]
    exact ⟨MT.of hm2, rfl, hB2⟩
  | some l1 =>
    go_upto_region 3 with (go_at_call 72; refine (expect_yes _ h.par (by rw [hstr]; exact hX)).mono ?_; rintro r w1 ⟨rfl, hp1, hm1⟩)
    have h1 := h.step hm1 hp1
    have hM1 : MT n0 pb w.heap.size [168, 70] w w1 := MT.of hm1
    clear hp1 hm1
    obtain ⟨p, e, hl, ho⟩ := id h1.par
    obtain ⟨-, c1, -, c3, -, -, -, -⟩ := pcs8 ho
    have hlt := ho.lt
    go_upto_region 4 with fail
    cases hN : isNameB l1.tok true with
    | false =>
      have hF : Hid (strctP ⟨ps.map Prod.fst, unames us, l⟩ = none) := by rw [Hid]; simp [strctP, hX, nameB, hN]
      go_wp2_with (go_at_call 73; refine (name_no true h1.par hN).mono ?_; rintro r w2 ⟨rfl, hB2, hm2⟩)
      go_ret
      rw [hF.out]
      exact ⟨hM1.trans (MT.of hm2), rfl, hB2⟩
    | true =>
      have hname : nameB true l1 = some (l1.tok, nx l1) := by simp [nameB, hN]
      go_upto_region 7 with (go_at_call 73; refine (name_yes true h1.par hN).mono ?_; rintro r w2 ⟨rfl, hp2, hm2⟩)
      have h2 := h1.step hm2 hp2
      have hM2 := hM1.trans (MT.of hm2)
      clear hp2 hm2 c1 c3 hlt ho hl h1 hM1
      obtain ⟨s, hs⟩ : ∃ s, s = bsV l1.tok := ⟨_, rfl⟩
      have hsl : s.toList = l1.tok := by rw [hs, bsV_toList]
      rw [← hs]
      have HSL : Hid _ := hsl
      clear hsl hs
      obtain ⟨p2, e2, hl2, ho2⟩ := id h2.par
      obtain ⟨-, c1, -, c3, -, -, -, -⟩ := pcs8 ho2
      have hlt := ho2.lt
      by_cases h4 : 4 ≤ ps.length
      · have hF : Hid (strctP ⟨ps.map Prod.fst, unames us, l⟩ = none) := by rw [Hid]; simp [strctP, hX, hname, h4]
        go_wp2_with (go_at_call 74; refine (failAt_as p 2 h2.par (by decide) (by decide)).mono ?_; rintro r w3 ⟨rfl, hB3, hm3⟩)
        go_ret
        rw [hF.out]
        exact ⟨hM2.trans (MT.of hm3), rfl, hB3⟩
      · obtain ⟨b0, hb0⟩ : ∃ b0, builtInB s.toList = b0 := ⟨_, rfl⟩
        have hF0 : Hid (strctP ⟨ps.map Prod.fst, unames us, l⟩ = if b0 || (ps.map Prod.fst).any (fun t => t.name.toList == l1.tok) then none else match expectB [123] (nx l1) with
            | none => none
            | some l3 => match membersP 17 ⟨[], [], unames us, l3⟩ with
              | none => none
              | some q => match orderP q.fs q.ns with
                | none => none
                | some o => match expectB [125] q.l with
                  | none => none
                  | some l4 => some ⟨ps.map Prod.fst ++ [⟨s, o.fs, o.tag, o.data, o.ptrs⟩], q.us, l4⟩) := by
          rw [Hid]; simp only [strctP, hX, hname]
          rw [if_neg (by simpa using h4), ← hb0, ← HSL.out, bsV_of]; rfl
        go_wp2_with (go_at_call 50; refine (builtIn_any _ _).mono ?_; rintro e w' ⟨rfl, hw⟩; rw [hw]; clear hw)
        go_loopw [42, 6] (fun i v wl => ∃ j : Nat, j ≤ ps.length ∧ i = .int .i64 j ∧ v = .bool (b0 || ((ps.map Prod.fst).take j).any (fun t => t.name.toList == l1.tok)) ∧ Below w2.heap.size w2 wl) (fun i _ _ => ps.length - (intOf i).toNat)
        case atStart => exact ⟨0, Nat.zero_le _, rfl, by simp, Below.refl _ _⟩
        case round =>
          obtain ⟨j, hj, rfl, rfl, hb⟩ := hrel
          have h3 := h2.calm hb
          have hM3 := hM2.calm hb
          obtain ⟨a0, ha0⟩ : ∃ a0, (b0 || ((ps.map Prod.fst).take j).any (fun t => t.name.toList == l1.tok)) = a0 := ⟨_, rfl⟩
          by_cases hjl : j < ps.length
          · obtain ⟨m', hm'⟩ : ∃ m', ps.length = m' + 1 := ⟨ps.length - 1, by omega⟩
            have hrow := h3.row
            obtain ⟨gs, cap, he⟩ : ∃ gs cap, sa = some ⟨gs, 0, none⟩ ∧ cap = sc := by
              have := h3.row
              rw [hm'] at this
              obtain ⟨g, c, h1⟩ := ownsRow_succ this
              cases h1
              exact ⟨_, _, rfl, rfl⟩
            obtain ⟨rfl, rfl⟩ := he
            have hltg := (hrow.lt gs rfl).2
            have hsj := row_str hrow hjl
            obtain ⟨d0, d1, d2, d3, d4, d5, d6, d7⟩ := str8 hsj
            have hds := anys_succ (ss := ps.map Prod.fst) (j := j) (by simpa using hjl) l1.tok
            rw [List.getElem_map] at hds
            obtain ⟨x, hx⟩ : ∃ x, x = ps[j] := ⟨_, rfl⟩
            rw [← hx] at hds d0 d1 d2 d3 d4 d5 d6 d7
            obtain ⟨x1, x2⟩ := x
            simp only at hds d0 d1 d2 d3 d4 d5 d6 d7
            have hnew : Hid ((b0 || ((ps.map Prod.fst).take (j + 1)).any (fun t => t.name.toList == l1.tok)) = (a0 || x1.name.toList == s.toList)) := by rw [Hid, hds, ← Bool.or_assoc, ha0, HSL.out]
            have hxv : ∃ xa xn xc, x2 = .slice xa xn xc := by
              have := h3.flds (x1, x2) (by rw [hx]; exact List.getElem_mem _)
              obtain ⟨a, c, h1, -⟩ := Has.own this
              exact ⟨_, _, _, h1⟩
            obtain ⟨xa, xn, xc, rfl⟩ := hxv
            rw [ha0]
            clear hds hx hsj ha0 hrow
            cases a0 with
            | true =>
              go_wp2_with fail
              go_roundw
              case rel => exact ⟨j + 1, by omega, by go_num, by rw [hnew.out]; rfl, hb.alloc hb.size _⟩
              case measure => simp [intOf]; omega
            | false =>
              go_wp2_with fail
              go_roundw
              case rel => exact ⟨j + 1, by omega, by go_num, by rw [hnew.out]; rfl, hb.alloc hb.size _⟩
              case measure => simp [intOf]; omega
          · have hjl2 : j = ps.length := by omega
            subst hjl2
            rw [List.take_of_length_le (by simp)] at ha0 ⊢
            rw [ha0] at hF0 ⊢
            clear ha0 c1 c3
            obtain ⟨w3, rfl⟩ : ∃ w, w = wr := ⟨_, rfl⟩
            cases a0 with
            | true =>
              have hF : Hid (strctP ⟨ps.map Prod.fst, unames us, l⟩ = none) := hF0
              go_wp2_with (go_at_call 74; refine (failAt_as p 3 h3.par (by decide) (by decide)).mono ?_; rintro r w4 ⟨rfl, hB4, hm4⟩)
              go_ret
              rw [hF.out]
              exact ⟨hM3.trans (MT.of hm4), rfl, hB4⟩
            | false =>
              clear h2 hM2 hb
              cases hY : expectB [123] (nx l1) with
              | none =>
                have hF : Hid (strctP ⟨ps.map Prod.fst, unames us, l⟩ = none) := by rw [Hid, hF0.out, hY]; rfl
                go_wp2_with (go_at_call 72; refine (expect_no _ h3.par (by rw [show (ByteArray.mk #[123]).toList = [123] from ByteArray.toList_mk _]; exact hY)).mono ?_; rintro r w4 ⟨rfl, hB4, hm4⟩)
                go_ret
                rw [hF.out]
                exact ⟨hM3.trans (MT.of hm4), rfl, hB4⟩
              | some l3 =>
                have hF1 : Hid (strctP ⟨ps.map Prod.fst, unames us, l⟩ = match membersP 17 ⟨[], [], unames us, l3⟩ with
                    | none => none
                    | some q => match orderP q.fs q.ns with
                      | none => none
                      | some o => match expectB [125] q.l with
                        | none => none
                        | some l4 => some ⟨ps.map Prod.fst ++ [⟨s, o.fs, o.tag, o.data, o.ptrs⟩], q.us, l4⟩) := by rw [Hid, hF0.out, hY]; rfl
                go_upto_region 19 with (go_at_call 72; refine (expect_yes _ h3.par (by rw [show (ByteArray.mk #[123]).toList = [123] from ByteArray.toList_mk _]; exact hY)).mono ?_; rintro r w4 ⟨rfl, hp4, hm4⟩)
                have h5 := h3.step hm4 hp4
                have hM5 := hM3.trans (MT.of hm4)
                clear hp4 hm4 h3 hM3 hF0
                obtain ⟨p5, e5, hl5, ho5⟩ := id h5.par
                have q5 := ho5.free 5
                obtain ⟨-, -, -, -, -, c5, -, -⟩ := pcs8 ho5
                have hlt5 := ho5.lt
                have hsz4 : (w4.setCell ⟨pb, 5, none⟩ (.slice none 0 0)).heap.size = w4.heap.size := by simp [World.setCell]
                have hlow : w.heap.size ≤ w4.heap.size := hM5.size
                have hFS : FS n0 w4.heap.size pb w4.heap.size T (.slice sa ps.length sc) s [] [] us l3 uv (.slice none 0 0) (.slice none 0 0) ((w4.setCell ⟨pb, 5, none⟩ (.slice none 0 0)).alloc (.cells #[.string s, .slice none 0 0, .int .u8 0, .int .u16 0, .int .u8 0, .bool false, .int .u8 0, .int .u8 0] 70)) := by
                  refine ⟨⟨p5, e5, hl5, (ho5.set 5 _).alloc _⟩, ?_, World.ownsRow_nil _ _ _ _, World.ownsRow_nil _ _ _ _, World.ownsRow.alloc (ownsRow_setCell_other (a := ⟨pb, 5, none⟩) h5.us (row_ne h5.us ho5 (by decide)) _) _⟩
                  have := Own.new (w4.setCell ⟨pb, 5, none⟩ (.slice none 0 0)) #[.string s, .slice none 0 0, .int .u8 0, .int .u16 0, .int .u8 0, .bool false, .int .u8 0, .int .u8 0] 70
                  rw [hsz4] at this
                  exact this
                have hRW : ((w4.setCell ⟨pb, 5, none⟩ (.slice none 0 0)).alloc (.cells #[.string s, .slice none 0 0, .int .u8 0, .int .u16 0, .int .u8 0, .bool false, .int .u8 0, .int .u8 0] 70)).ownsRow n0 70 8 (.slice sa ps.length sc) ps.length (scellsL ps) := (ownsRow_setCell_other (a := ⟨pb, 5, none⟩) h5.row (row_ne h5.row ho5 (by decide)) _).alloc _
                have hFL : FL n0 ps ((w4.setCell ⟨pb, 5, none⟩ (.slice none 0 0)).alloc (.cells #[.string s, .slice none 0 0, .int .u8 0, .int .u16 0, .int .u8 0, .bool false, .int .u8 0, .int .u8 0] 70)) := fun p hp => (h5.flds.other ho5 (by decide) 5 _ p hp).alloc _
                have hMW : MT n0 pb w.heap.size [168, 70] w ((w4.setCell ⟨pb, 5, none⟩ (.slice none 0 0)).alloc (.cells #[.string s, .slice none 0 0, .int .u8 0, .int .u16 0, .int .u8 0, .bool false, .int .u8 0, .int .u8 0] 70)) := (hM5.set (p := ⟨pb, 5, none⟩) (.inl rfl) _).alloc _
                have hszW : ((w4.setCell ⟨pb, 5, none⟩ (.slice none 0 0)).alloc (.cells #[.string s, .slice none 0 0, .int .u8 0, .int .u16 0, .int .u8 0, .bool false, .int .u8 0, .int .u8 0] 70)).heap.size = w4.heap.size + 1 := by rw [World.size_alloc, hsz4]
                have hrb : ∀ k, (Value.slice sa ps.length sc).ownBlock = some k → k < w4.heap.size := fun k hk => (h5.row.lt k hk).2
                have hfb : ∀ p ∈ ps, ∀ k, p.2.ownBlock = some k → k < w4.heap.size := fun p hp k hk => ((h5.flds p hp).lt k hk).2
                have hap := h5.apart
                have hrp : (Value.slice sa ps.length sc).ownBlock ≠ some pb := row_ne h5.row ho5 (by decide)
                have hfp : ∀ p ∈ ps, p.2.ownBlock ≠ some pb := fun p hp => row_ne (h5.flds p hp) ho5 (by decide)
                have hn04 : n0 ≤ w4.heap.size := by omega
                go_wp2_with fail
                generalize ((w4.setCell ⟨pb, 5, none⟩ (.slice none 0 0)).alloc (.cells #[.string s, .slice none 0 0, .int .u8 0, .int .u16 0, .int .u8 0, .bool false, .int .u8 0, .int .u8 0] 70)) = W0 at *
                clear h5 hM5 c5 q5 ho5 hl5 hlt5 hsz4
                go_loopw [2] (fun _ wl => ∃ (k : Nat) (q : Rd) (us' : List (Int × ByteArray)) (uv' nv' fv' : Value), FS n0 w4.heap.size pb w4.heap.size T (.slice sa ps.length sc) s q.fs q.ns us' q.l uv' nv' fv' wl ∧ unames us' = q.us ∧ MT n0 pb w4.heap.size [168] W0 wl ∧
                  q.fs.length ≤ 16 ∧ q.ns.length = q.fs.length ∧ us'.length + (16 - q.fs.length) < 100 ∧ 17 ≤ k + q.fs.length ∧ (∀ f ∈ q.fs, 0 ≤ f.t.kind) ∧ Hid (membersP 17 ⟨[], [], unames us, l3⟩ = membersP k q)) (fun _ wl => 17 - sliceLen (wl.cell? ⟨w4.heap.size, 1, none⟩))
                case atStart => exact ⟨17, ⟨[], [], unames us, l3⟩, us, uv, _, _, hFS, rfl, MT.refl _ _ _ _ _, by simp, rfl, by simp; omega, by simp, by intro f hf; simp at hf, rfl⟩
                case round =>
                  clear hFS
                  obtain ⟨k, q, us', uv', nv', fv', h6, hus6, hM6, hq16, hqn, hqu, hk, hkd, hG⟩ := hrel
                  obtain ⟨k', rfl⟩ : ∃ k', k = k' + 1 := ⟨k - 1, by omega⟩
                  obtain ⟨s2, hs2⟩ : ∃ s2 : ByteArray, s2.toList = q.l.tok := ⟨bsV q.l.tok, bsV_toList _⟩
                  have HS2 : Hid _ := hs2
                  clear hs2
                  cases hq : (s2.toList == [125]) with
                  | false =>
                    cases hq2 : (s2.toList == [117, 110, 105, 111, 110]) with
                    | true =>
                      have hq3 : (s2.toList == sUnion) = true := hq2
                      cases hE : unionP q with
                      | none =>
                        have hG2 : Hid (strctP ⟨ps.map Prod.fst, unames us, l⟩ = none) := by
                          rw [Hid, hF1.out, hG.out, membersP_succ, ← HS2.out, if_neg (by rw [hq]; simp), if_pos hq3, hE]
                        go_wp2_with (first | (go_at_call 53; refine (tok_as h6.par HS2.out).mono ?_; rintro r w6 ⟨rfl, hp6, hb6⟩; have h7 := h6; clear h6; have h6 := h7.calm hb6; clear h7; have hM7 := hM6; clear hM6; have hM6 := hM7.calm hb6; clear hM7) | (go_at_call 75; refine (union_any q.us h6 hus6 hn04 (Nat.le_refl _) hq16 hqu hqn).mono ?_; rw [show (⟨q.fs, q.ns, q.us, q.l⟩ : Rd) = q from rfl, hE]; rintro r w7 ⟨hm7, rfl, hB7⟩))
                        go_ret
                        rw [hG2.out]
                        exact ⟨hMW.trans ((hM6.trans hm7).wide hlow (by simp)), rfl, hB7⟩
                      | some q1 =>
                        have hL := unionP_len hE
                        have hkd1 := union_kinds hE hkd
                        have hG2 : Hid (membersP 17 ⟨[], [], unames us, l3⟩ = membersP k' q1) := by
                          rw [Hid, hG.out, membersP_succ, ← HS2.out, if_neg (by rw [hq]; simp), if_pos hq3, hE]
                        have b1 := (scs2 h6.st).2
                        obtain ⟨fa6, fc6, rfl, -⟩ := Has.own h6.fs
                        go_wp2_with (first | (go_at_call 53; refine (tok_as h6.par HS2.out).mono ?_; rintro r w6 ⟨rfl, hp6, hb6⟩; have h7 := h6; clear h6; have h6 := h7.calm hb6; clear h7; have hM7 := hM6; clear hM6; have hM6 := hM7.calm hb6; clear hM7) | (go_at_call 75; refine (union_any q.us h6 hus6 hn04 (Nat.le_refl _) hq16 hqu hqn).mono ?_; rw [show (⟨q.fs, q.ns, q.us, q.l⟩ : Rd) = q from rfl, hE]; rintro r w7 ⟨hm7, rfl, us7, uv7, nv7, fv7, h8, hus7⟩))
                        have hu7 : us7.length = q1.us.length := by rw [← hus7]; simp [unames]
                        have hu5 : us'.length = q.us.length := by rw [← hus6]; simp [unames]
                        go_roundw
                        case rel => exact ⟨k', q1, us7, uv7, nv7, fv7, h8, hus7, hM6.trans hm7, by omega, by omega, by omega, by omega, hkd1, hG2⟩
                        case measure =>
                          obtain ⟨fa7, fc7, rfl, -⟩ := Has.own h8.fs
                          rw [(scs2 h8.st).2, b1]
                          simp only [sliceLen]
                          omega
                    | false =>
                      have hq3 : (s2.toList == sUnion) = false := hq2
                      cases hE : fieldP false q with
                      | none =>
                        have hG2 : Hid (strctP ⟨ps.map Prod.fst, unames us, l⟩ = none) := by
                          rw [Hid, hF1.out, hG.out, membersP_succ, ← HS2.out, if_neg (by rw [hq]; simp), if_neg (by rw [hq3]; simp), hE]
                        go_wp2_with (first | (go_at_call 53; refine (tok_as h6.par HS2.out).mono ?_; rintro r w6 ⟨rfl, hp6, hb6⟩; have h7 := h6; clear h6; have h6 := h7.calm hb6; clear h7; have hM7 := hM6; clear hM6; have hM6 := hM7.calm hb6; clear hM7) | (go_at_call 76; refine (field_any false q.us h6 hus6 hn04 (Nat.le_refl _) (by omega) hq16 (by omega)).mono ?_; rw [show (⟨q.fs, q.ns, q.us, q.l⟩ : Rd) = q from rfl, hE]; rintro r w7 ⟨hm7, rfl, hB7⟩))
                        go_ret
                        rw [hG2.out]
                        exact ⟨hMW.trans ((hM6.trans hm7).wide hlow (by simp)), rfl, hB7⟩
                      | some q1 =>
                        have hL := fieldP_len hE
                        have hkd1 := field_kinds hE hkd
                        have hG2 : Hid (membersP 17 ⟨[], [], unames us, l3⟩ = membersP k' q1) := by
                          rw [Hid, hG.out, membersP_succ, ← HS2.out, if_neg (by rw [hq]; simp), if_neg (by rw [hq3]; simp), hE]
                        have b1 := (scs2 h6.st).2
                        obtain ⟨fa6, fc6, rfl, -⟩ := Has.own h6.fs
                        go_wp2_with (first | (go_at_call 53; refine (tok_as h6.par HS2.out).mono ?_; rintro r w6 ⟨rfl, hp6, hb6⟩; have h7 := h6; clear h6; have h6 := h7.calm hb6; clear h7; have hM7 := hM6; clear hM6; have hM6 := hM7.calm hb6; clear hM7) | (go_at_call 76; refine (field_any false q.us h6 hus6 hn04 (Nat.le_refl _) (by omega) hq16 (by omega)).mono ?_; rw [show (⟨q.fs, q.ns, q.us, q.l⟩ : Rd) = q from rfl, hE]; rintro r w7 ⟨hm7, rfl, us7, uv7, nv7, fv7, h8, hus7⟩))
                        have hu7 : us7.length = q1.us.length := by rw [← hus7]; simp [unames]
                        have hu5 : us'.length = q.us.length := by rw [← hus6]; simp [unames]
                        go_roundw
                        case rel => exact ⟨k', q1, us7, uv7, nv7, fv7, h8, hus7, hM6.trans hm7, by omega, by omega, by omega, by omega, hkd1, hG2⟩
                        case measure =>
                          obtain ⟨fa7, fc7, rfl, -⟩ := Has.own h8.fs
                          rw [(scs2 h8.st).2, b1]
                          simp only [sliceLen]
                          omega
                  | true =>
                    have hF2 : Hid (strctP ⟨ps.map Prod.fst, unames us, l⟩ = match orderP q.fs q.ns with
                        | none => none
                        | some o => match expectB [125] q.l with
                          | none => none
                          | some l4 => some ⟨ps.map Prod.fst ++ [⟨s, o.fs, o.tag, o.data, o.ptrs⟩], q.us, l4⟩) := by
                      rw [Hid, hF1.out, hG.out, membersP_succ, ← HS2.out, if_pos hq]
                    have hXl : expectB [125] q.l = some (nx q.l) := by
                      unfold expectB
                      rw [← HS2.out, if_pos hq]
                    go_upto_region 27 with (first | (go_at_call 53; refine (tok_as h6.par HS2.out).mono ?_; rintro r w6 ⟨rfl, hp6, hb6⟩; have h7 := h6; clear h6; have h6 := h7.calm hb6; clear h7; have hM7 := hM6; clear hM6; have hM6 := hM7.calm hb6; clear hM7))
                    obtain ⟨p6, e6, hl6, ho6⟩ := id h6.par
                    obtain ⟨-, -, -, c3, -, -, -, -⟩ := pcs8 ho6
                    have q3 := ho6.free 3
                    have hlt6 := ho6.lt
                    have hMW6 := hMW.trans (hM6.wide hlow (by simp))
                    have hRW6 := row_MT hRW hM6 hrp hrb (by decide)
                    have hFL6 : FL n0 ps w6 := fun p hp => row_MT (hFL p hp) hM6 (hfp p hp) (hfb p hp) (by decide)
                    obtain ⟨fa, fc, rfl, -⟩ := Has.own h6.fs
                    have hst : Own w6 w4.heap.size 70 [.string s, .slice fa q.fs.length fc, .int .u8 0, .int .u16 0, .int .u8 0, .bool false, .int .u8 0, .int .u8 0] := h6.st
                    have y0 := hst.cell (j := 0) rfl
                    have y1 := hst.cell (j := 1) rfl
                    have y2 := hst.cell (j := 2) rfl
                    have y3 := hst.cell (j := 3) rfl
                    have y4 := hst.cell (j := 4) rfl
                    have y5 := hst.cell (j := 5) rfl
                    have y6 := hst.cell (j := 6) rfl
                    have y7 := hst.cell (j := 7) rfl
                    have hltT := hst.lt
                    obtain ⟨i70, hi, hz0, hz1, hz2⟩ := info_parts info70
                    have hn06 : n0 ≤ w6.heap.size := by have := hMW6.size; omega
                    go_cut [86] (fun _ wc => ∃ sv', Par wc pb T q.l sv' uv' nv' ∧ wc.ownsRow n0 70 8 sv' (ps.length + 1) (scellsL ps ++ scs s (.slice fa q.fs.length fc)) ∧ wc.ownsRow w4.heap.size 34 11 (.slice fa q.fs.length fc) q.fs.length (fcells q.fs) ∧
                      wc.ownsRow w4.heap.size 3 1 nv' q.ns.length (ncells q.ns) ∧ Uses wc n0 uv' us' ∧ FL n0 ps wc ∧ MT n0 pb w.heap.size [168, 70] w wc)
                    case first =>
                      go_region_law (refine step_app1g rfl (.tmp 83) (.tmp 85) 44 rfl n0 70 i70 _ 8 48 under44 hi hz0 hz1 hz2 rfl (by decide) _ ps.length (scellsL ps) [.string s, .slice fa q.fs.length fc, .int .u8 0, .int .u16 0, .int .u8 0, .bool false, .int .u8 0, .int .u8 0] w6.heap.size rfl rfl (hRW6.alloc (.cells (List.toArray [.string s, .slice fa q.fs.length fc, .int .u8 0, .int .u16 0, .int .u8 0, .bool false, .int .u8 0, .int .u8 0]) 70)) (Own.new w6 (List.toArray [.string s, .slice fa q.fs.length fc, .int .u8 0, .int .u16 0, .int .u8 0, .bool false, .int .u8 0, .int .u8 0]) 70) rfl rfl (by omega) (by unfold maxLen; omega) (by simp; omega) ?_; intro v5 w5 hU5 hg5; obtain ⟨va, vc, rfl, -⟩ := Has.own hU5; have hg6 : (w6.alloc (.cells (List.toArray [.string s, .slice fa q.fs.length fc, .int .u8 0, .int .u16 0, .int .u8 0, .bool false, .int .u8 0, .int .u8 0]) 70)).grownBy w5 (Value.slice sa ps.length sc).ownBlock := ⟨hg5.os, hg5.tape, hg5.output, hg5.size, hg5.block⟩; have ho7 := (ho6.alloc (.cells (List.toArray [.string s, .slice fa q.fs.length fc, .int .u8 0, .int .u16 0, .int .u8 0, .bool false, .int .u8 0, .int .u8 0]) 70)).grown hg6 (Ne.symm hrp); obtain ⟨-, -, -, x3, -, -, -, -⟩ := pcs8 ho7; have x4 := ho7.free 3; have hlt7 := ho7.lt)
                      all_goals as_aux_lemma =>
                        go_wp2_with fail
                        go_meet
                        have f7 := kept_row (h6.fs.alloc (.cells (List.toArray [.string s, .slice fa q.fs.length fc, .int .u8 0, .int .u16 0, .int .u8 0, .bool false, .int .u8 0, .int .u8 0]) 70)) (hRW6.alloc _) (by decide) hg6
                        have n7 := kept_row (h6.ns.alloc (.cells (List.toArray [.string s, .slice fa q.fs.length fc, .int .u8 0, .int .u16 0, .int .u8 0, .bool false, .int .u8 0, .int .u8 0]) 70)) (hRW6.alloc _) (by decide) hg6
                        have u7 := kept_row (World.ownsRow.alloc h6.us (.cells (List.toArray [.string s, .slice fa q.fs.length fc, .int .u8 0, .int .u16 0, .int .u8 0, .bool false, .int .u8 0, .int .u8 0]) 70)) (hRW6.alloc _) (by decide) hg6
                        have L7 : FL n0 ps w5 := fun p hp => kept_row ((hFL6 p hp).alloc (.cells (List.toArray [.string s, .slice fa q.fs.length fc, .int .u8 0, .int .u16 0, .int .u8 0, .bool false, .int .u8 0, .int .u8 0]) 70)) (hRW6.alloc _) (by decide) hg6
                        exact ⟨_, ⟨p6, e6, hl6, ho7.set 3 _⟩, ownsRow_setCell_other (a := ⟨pb, 3, none⟩) hU5 (row_ne hU5 ho7 (by decide)) _, ownsRow_setCell_other (a := ⟨pb, 3, none⟩) f7 (row_ne f7 ho7 (by decide)) _,
                          ownsRow_setCell_other (a := ⟨pb, 3, none⟩) n7 (row_ne n7 ho7 (by decide)) _, ownsRow_setCell_other (a := ⟨pb, 3, none⟩) u7 (row_ne u7 ho7 (by decide)) _, L7.other ho7 (by decide) 3 _,
                          ((hMW6.alloc _).grown (hRW6.alloc _) hg6 (.inl ⟨by simp, Nat.le_refl _⟩)).set (p := ⟨pb, 3, none⟩) (.inl rfl) _⟩
                    case rest =>
                      obtain ⟨sv', P9, R9, F9, N9, U9, L9, M9⟩ := hcut
                      clear h6 hM6 hMW6 hRW6 hFL6 hst y0 y1 y2 y3 y4 y5 y6 y7 hltT c3 q3 hlt6 ho6 hl6
                      obtain ⟨w9, rfl⟩ : ∃ w, w = wc := ⟨_, rfl⟩
                      obtain ⟨sa', sc', rfl, -⟩ := Has.own R9
                      obtain ⟨p9, e9, hl9, ho9⟩ := id P9
                      obtain ⟨-, -, -, c3, -, -, -, -⟩ := pcs8 ho9
                      have hlt9 := ho9.lt
                      have hn09 : n0 ≤ w9.heap.size := by have := M9.size; omega
                      have hO := order_any (m := ps.length) P9 R9 (scellsL_len ps) F9 N9 hqn hq16 (by omega) hkd hn09
                      have HO : Hid _ := hO
                      clear hO
                      cases hord : orderP q.fs q.ns with
                      | none =>
                        have hG2 : Hid (strctP ⟨ps.map Prod.fst, unames us, l⟩ = none) := by rw [Hid, hF2.out, hord]
                        rw [hord] at HO
                        go_wp2_with (go_at_call 77; refine Calls.mono (Hid.out HO) ?_; rintro r w10 ⟨hm10, rfl, hB10⟩)
                        go_ret
                        rw [hG2.out]
                        exact ⟨M9.trans (hm10.wide M9.size (by simp)), rfl, hB10⟩
                      | some o =>
                        have hG2 : Hid (strctP ⟨ps.map Prod.fst, unames us, l⟩ = some ⟨ps.map Prod.fst ++ [⟨s, o.fs, o.tag, o.data, o.ptrs⟩], q.us, nx q.l⟩) := by rw [Hid, hF2.out, hord, hXl]
                        rw [hord] at HO
                        go_wp2_with (first | (go_at_call 77; refine Calls.mono (Hid.out HO) ?_; rintro r w10 ⟨hm10, rfl, P10, v, R10, V10⟩) | (go_at_call 72; refine (expect_yes _ P10 (by rw [show (ByteArray.mk #[125]).toList = [125] from ByteArray.toList_mk _]; exact hXl)).mono ?_; rintro r w11 ⟨rfl, hp11, hm11⟩))
                        go_ret
                        rw [hG2.out]
                        refine ⟨(M9.trans (hm10.wide M9.size (by simp))).trans (MT.of hm11), rfl, ps ++ [(⟨s, o.fs, o.tag, o.data, o.ptrs⟩, v)], us', _, uv', nv', ⟨hp11, ?_, ?_, ?_, ?_⟩, by simp, hus6⟩
                        · exact row_Par (row_MT U9 hm10 (row_ne U9 ho9 (by decide)) (fun k hk => (U9.lt k hk).2) (by decide)) hm11 P10 (by decide)
                        · rw [List.length_append, scellsL_snoc]
                          exact row_Par R10 hm11 P10 (by decide)
                        · intro p hp
                          rw [List.mem_append, List.mem_singleton] at hp
                          rcases hp with hp | rfl
                          · exact ((L9.mt hm10 P9 (Nat.le_refl _) (by decide)).step hm11 P10) p hp
                          · exact row_Par (World.ownsRow.mono V10 hn09) hm11 P10 (by decide)
                        · rw [ApartP, List.pairwise_append]
                          refine ⟨hap, List.pairwise_singleton _ _, ?_⟩
                          intro a ha b hb k hk hk2
                          rw [List.mem_singleton] at hb
                          subst hb
                          have h1 := ((L9 a ha).lt k hk).2
                          have h2 := (V10.lt k hk2).1
                          omega
end Go.Proofs.Ygcfae
