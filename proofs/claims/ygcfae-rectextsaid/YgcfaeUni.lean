import Derived.Test.YgcfaeFld
import Derived.Test.YgcfaePLawB
namespace Go.Proofs.Ygcfae
open Go.RowKit

theorem innerB_one {l : Lx} {k : Nat} {us : List Bs} {l1 : Lx} (h : innerB l = some (k, us, l1)) : us.length ≤ 1 := by
  unfold innerB at h
  split at h
  · cases h; simp
  · split at h
    · cases h
    · cases h; simp
theorem typB_one {u : Bool} {nu : Nat} {l : Lx} {t : Typ} {us : List Bs} {l1 : Lx} (h : typB u nu l = some (t, us, l1)) : us.length ≤ 1 := by
  unfold typB at h
  split at h
  · cases h
  · split at h
    · cases h
    · next hI =>
      have hk := innerB_one hI
      split at h
      · cases h
      · split at h
        · cases h
        · cases h; exact hk

theorem fieldP_len {u : Bool} {r q : Rd} (h : fieldP u r = some q) : q.fs.length = r.fs.length + 1 ∧ q.ns.length = r.ns.length + 1 ∧ r.fs.length < 16 ∧ q.us.length ≤ r.us.length + 1 := by
  unfold fieldP at h
  split at h
  · cases h
  split at h
  · cases h
  split at h
  · cases h
  next h16 =>
  split at h
  · cases h
  split at h
  · cases h
  split at h
  · cases h
  split at h
  · cases h
  next hT =>
  have := typB_one hT
  split at h
  · cases h
  split at h
  · cases h
  · cases h
    simp
    omega

def sliceLen (o : Option Value) : Nat := match o with
  | some (.slice _ n _) => n
  | _ => 0

theorem anyu_succ {fs : List Fld} {j : Nat} (h : j < fs.length) : (fs.take (j + 1)).any (fun f => f.union) = ((fs.take j).any (fun f => f.union) || fs[j].union) := by
  rw [List.take_succ_eq_append_getElem h, List.any_append]; simp

set_option maxRecDepth 100000
set_option maxHeartbeats 20000000 in
theorem union_any {n0 lo pb tb : Nat} {T : ByteArray} {sv : Value} {nm : ByteArray} {fs : List Fld} {ns : List Nat} {us : List (Int × ByteArray)} {l : Lx} {uv nv fv : Value} {w : World} (rus : List Bs)
    (h : FS n0 lo pb tb T sv nm fs ns us l uv nv fv w) (hus : unames us = rus) (hn0 : n0 ≤ lo) (hlo : lo ≤ tb) (hf16 : fs.length ≤ 16) (hul : us.length + (16 - fs.length) < 100) (hnl : ns.length = fs.length) :
    Calls Faeg.prog 75 #[.pointer (some ⟨pb, 0, none⟩), .pointer (some ⟨tb, 0, none⟩)] w (FPost (unionP ⟨fs, ns, rus, l⟩) n0 lo pb tb T sv nm w) := by
  obtain ⟨p, e, hl, ho⟩ := id h.par
  obtain ⟨c0, c1, c2, -, -, -, -, -⟩ := pcs8 ho
  have hlt := ho.lt
  obtain ⟨fa, fc, rfl, -⟩ := Has.own h.fs
  have hne := h.ne
  have hltb : lo ≤ w.heap.size := by have := h.st.lt; omega
  go_enter Faeg.func75, Faeg.ntmps75
  go_upto_region 3 with (go_at_call 52; refine (next_any h.par).mono ?_; rintro r w1 ⟨rfl, hp1, hm1⟩)
  have h1 := h.step hm1 hp1
  have hM1 : MT n0 pb lo [168] w w1 := MT.of hm1
  clear c0 c1 c2 hp1 hm1
  cases hX : expectB [123] (nx l) with
  | none =>
    have hF : Hid (unionP ⟨fs, ns, rus, l⟩ = none) := by rw [Hid]; simp only [unionP, hX]
    go_wp2_with (go_at_call 72; refine (expect_no _ h1.par (by rw [show (ByteArray.mk #[123]).toList = [123] from ByteArray.toList_mk _]; exact hX)).mono ?_; rintro r w2 ⟨rfl, hB2, hm2⟩)
    go_ret
    rw [hF.out]
    exact ⟨hM1.trans (MT.of hm2), rfl, hB2⟩
  | some l1 =>
    go_upto_region 5 with (go_at_call 72; refine (expect_yes _ h1.par (by rw [show (ByteArray.mk #[123]).toList = [123] from ByteArray.toList_mk _]; exact hX)).mono ?_; rintro r w2 ⟨rfl, hp2, hm2⟩)
    have h2 := h1.step hm2 hp2
    have hM2 := hM1.trans (MT.of hm2)
    clear hp2 hm2 h1 hM1
    obtain ⟨s, hs⟩ : ∃ s : ByteArray, s.toList = l1.tok := ⟨bsV l1.tok, bsV_toList _⟩
    obtain ⟨e0, he0⟩ : ∃ e0, (s.toList == [125]) = e0 := ⟨_, rfl⟩
    have hF0 : Hid (unionP ⟨fs, ns, rus, l⟩ = if e0 || fs.any (fun f => f.union) then none else match fieldsP 17 ⟨fs, ns, rus, l1⟩ with
        | none => none
        | some r2 => some r2.go) := by
      rw [Hid]; simp only [unionP, hX, ← he0, hs]; rfl
    have HS : Hid _ := hs
    clear hs
    go_upto_region 6 with (go_at_call 53; refine (tok_as h2.par HS.out).mono ?_; rintro r w3 ⟨rfl, hp3, hb3⟩)
    have h3 := h2.calm hb3
    have hM3 := hM2.calm hb3
    clear hp3 hb3 h2 hM2
    obtain ⟨-, b1⟩ := scs2 h3.st
    have hlt3 := h3.st.lt
    go_wp2_with fail
    go_loopw [26, 6] (fun i v wl => ∃ j : Nat, j ≤ fs.length ∧ i = .int .i64 j ∧ v = .bool (e0 || (fs.take j).any (fun f => f.union)) ∧ Below w3.heap.size w3 wl) (fun i _ _ => fs.length - (intOf i).toNat)
    case atStart => exact ⟨0, Nat.zero_le _, rfl, by simp, Below.refl _ _⟩
    case round =>
      obtain ⟨j, hj, rfl, rfl, hb⟩ := hrel
      have h4 := h3.calm hb
      have hM4 := hM3.calm hb
      obtain ⟨a0, ha0⟩ : ∃ a0, (e0 || (fs.take j).any (fun f => f.union)) = a0 := ⟨_, rfl⟩
      by_cases hjl : j < fs.length
      · obtain ⟨fa', fc', he, hH⟩ := Has.own h4.fs
        cases he
        have hH2 : ∃ b off, fa = some ⟨b, off, none⟩ ∧ b < wr.heap.size ∧ AtB wr b off (fcells fs) := by
          rcases hH with hH | hH
          · exfalso
            have := congrArg List.length hH
            rw [fcells, flat_length Fld.cells 11 (fun _ => rfl), List.length_nil] at this
            omega
          · exact hH
        obtain ⟨bx, ox, rfl, hbx, hcx⟩ := hH2
        have hfj := fld_at hcx hjl
        obtain ⟨d0, d1, d2, d3, d4, d5, d6, d7, d8, d9, d10⟩ := fld11 hfj
        have hds := anyu_succ hjl
        obtain ⟨x, hx⟩ : ∃ x, x = fs[j] := ⟨_, rfl⟩
        rw [← hx] at hds d0 d1 d2 d3 d4 d5 d6 d7 d8 d9 d10
        have hnew : Hid ((e0 || (fs.take (j + 1)).any (fun f => f.union)) = (a0 || x.union)) := by rw [Hid, hds, ← Bool.or_assoc, ha0]
        have HA : Hid _ := ha0
        rw [ha0]
        clear hds hx hfj hcx b1 ha0
        cases a0 with
        | true =>
          go_wp2_with fail
          go_roundw
          case rel => exact ⟨j + 1, by omega, by go_num, by rw [hnew.out]; rfl, hb.alloc hb.size _⟩
          case measure => simp [intOf]; omega
        | false =>
          go_wp2_with fail
          go_roundw
          case rel => exact ⟨j + 1, by omega, by go_num, by rw [hnew.out]; rfl, hb.alloc hb.size _⟩
          case measure => simp [intOf]; omega
      · have hjl2 : j = fs.length := by omega
        subst hjl2
        rw [List.take_of_length_le (Nat.le_refl _)] at ha0 ⊢
        rw [ha0] at hF0 ⊢
        clear b1 ha0
        obtain ⟨w4, rfl⟩ : ∃ w, w = wr := ⟨_, rfl⟩
        cases a0 with
        | true =>
          have hF : Hid (unionP ⟨fs, ns, rus, l⟩ = none) := hF0
          go_wp2_with (go_at_call 74; refine (failAt_as p 8 h4.par (by decide) (by decide)).mono ?_; rintro r w5 ⟨rfl, hB5, hm5⟩)
          go_ret
          rw [hF.out]
          exact ⟨hM4.trans (MT.of hm5), rfl, hB5⟩
        | false =>
          have hF : Hid (unionP ⟨fs, ns, rus, l⟩ = match fieldsP 17 ⟨fs, ns, rus, l1⟩ with
              | none => none
              | some r2 => some r2.go) := hF0
          go_wp2_with fail
          go_loopw [4] (fun _ wl => ∃ (k : Nat) (q : Rd) (us' : List (Int × ByteArray)) (uv' nv' fv' : Value), FS n0 lo pb tb T sv nm q.fs q.ns us' q.l uv' nv' fv' wl ∧ unames us' = q.us ∧ MT n0 pb lo [168] w wl ∧ q.fs.length ≤ 16 ∧ q.ns.length = q.fs.length ∧
            us'.length + (16 - q.fs.length) < 100 ∧ 17 ≤ k + q.fs.length ∧ Hid (fieldsP 17 ⟨fs, ns, rus, l1⟩ = fieldsP k q)) (fun _ wl => 17 - sliceLen (wl.cell? ⟨tb, 1, none⟩))
          case atStart => exact ⟨17, ⟨fs, ns, rus, l1⟩, us, uv, nv, _, h4, hus, hM4, hf16, hnl, hul, by omega, rfl⟩
          case round =>
            clear h4 hM4 h3 hM3 h
            obtain ⟨k, q, us', uv', nv', fv', h5, hus5, hM5, hq16, hqn, hqu, hk, hG⟩ := hrel
            obtain ⟨k', rfl⟩ : ∃ k', k = k' + 1 := ⟨k - 1, by omega⟩
            obtain ⟨s2, hs2⟩ : ∃ s2 : ByteArray, s2.toList = q.l.tok := ⟨bsV q.l.tok, bsV_toList _⟩
            have HS2 : Hid _ := hs2
            clear hs2
            cases hq : (s2.toList == [125]) with
            | true =>
              have hG2 : Hid (unionP ⟨fs, ns, rus, l⟩ = some q.go) := by
                rw [Hid, hF.out, hG.out, fieldsP_succ, ← HS2.out, if_pos hq]
              go_wp2_with (first | (go_at_call 53; refine (tok_as h5.par HS2.out).mono ?_; rintro r w6 ⟨rfl, hp6, hb6⟩) | (go_at_call 52; refine (next_any hp6).mono ?_; rintro r w7 ⟨rfl, hp7, hm7⟩))
              go_ret
              rw [hG2.out]
              exact ⟨(hM5.calm hb6).trans (MT.of hm7), rfl, us', uv', nv', fv', (h5.calm hb6).step hm7 hp7, hus5⟩
            | false =>
              cases hE : fieldP true q with
              | none =>
                have hG2 : Hid (unionP ⟨fs, ns, rus, l⟩ = none) := by
                  rw [Hid, hF.out, hG.out, fieldsP_succ, ← HS2.out, if_neg (by rw [hq]; simp), hE]
                go_wp2_with (first | (go_at_call 53; refine (tok_as h5.par HS2.out).mono ?_; rintro r w6 ⟨rfl, hp6, hb6⟩; have h6 := h5.calm hb6) | (go_at_call 76; refine (field_any true q.us h6 hus5 hn0 hlo (by omega) hq16 (by omega)).mono ?_; rw [show (⟨q.fs, q.ns, q.us, q.l⟩ : Rd) = q from rfl, hE]; rintro r w7 ⟨hm7, rfl, hB7⟩))
                go_ret
                rw [hG2.out]
                exact ⟨(hM5.calm hb6).trans hm7, rfl, hB7⟩
              | some q1 =>
                have hL := fieldP_len hE
                have hG2 : Hid (fieldsP 17 ⟨fs, ns, rus, l1⟩ = fieldsP k' q1) := by
                  rw [Hid, hG.out, fieldsP_succ, ← HS2.out, if_neg (by rw [hq]; simp), hE]
                have b1 := (scs2 h5.st).2
                obtain ⟨fa5, fc5, rfl, -⟩ := Has.own h5.fs
                go_wp2_with (first | (go_at_call 53; refine (tok_as h5.par HS2.out).mono ?_; rintro r w6 ⟨rfl, hp6, hb6⟩; have h6 := h5.calm hb6) | (go_at_call 76; refine (field_any true q.us h6 hus5 hn0 hlo (by omega) hq16 (by omega)).mono ?_; rw [show (⟨q.fs, q.ns, q.us, q.l⟩ : Rd) = q from rfl, hE]; rintro r w7 ⟨hm7, rfl, us7, uv7, nv7, fv7, h7, hus7⟩))
                have hu7 : us7.length = q1.us.length := by rw [← hus7]; simp [unames]
                have hu5 : us'.length = q.us.length := by rw [← hus5]; simp [unames]
                go_roundw
                case rel => exact ⟨k', q1, us7, uv7, nv7, fv7, h7, hus7, (hM5.calm hb6).trans hm7, by omega, by omega, by omega, by omega, hG2⟩
                case measure =>
                  obtain ⟨fa7, fc7, rfl, -⟩ := Has.own h7.fs
                  rw [(scs2 h7.st).2, b1]
                  simp only [sliceLen]
                  omega
end Go.Proofs.Ygcfae
