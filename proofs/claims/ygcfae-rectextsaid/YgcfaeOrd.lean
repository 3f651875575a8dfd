import Derived.Test.YgcfaeUni
import Derived.RangeFuncBox
import Derived.BigRegion
import Derived.Deep.Onto
namespace Go.Proofs.Ygcfae
open Go.RowKit

theorem MT.stored {n0 pb lo : Nat} {es : List TypeId} {w w1 : World} {base : Nat} {e : TypeId} {size n g cap : Nat} {xs : List Value} (h : MT n0 pb lo es w w1) (hr : w1.ownsRow base e size (.slice (some ⟨g, 0, none⟩) n cap) n xs)
    (he : e ∈ es) (hb : n0 ≤ base) (j : Nat) (u : Value) : MT n0 pb lo es w (w1.setCell ⟨g, j, none⟩ u) := by
  refine h.trans ⟨rfl, rfl, rfl, by simp [World.setCell], fun k hk hs => Below.heap_setCell _ _ _ _ fun e1 => ?_⟩
  subst e1
  rcases hr.2 with ⟨h1, -⟩ | ⟨g', cap', cur, h1, h2, h3, -⟩
  · cases h1
  · cases h1
    exact hs (.inr (.inr ⟨Nat.le_trans hb h2, _, e, _, he, h3⟩))

/-- a whole field stored into a row of fields -/
theorem flds_set {acc : List Fld} {k : Nat} (hk : k < acc.length) (f : Fld) :
    (((((((((((fcells acc).set (k * 11) (.string f.name)).set (k * 11 + 1) (.int .u8 f.t.kind)).set (k * 11 + 2) (.int .u8 f.t.elem)).set (k * 11 + 3) (.int .u8 f.t.ref)).set (k * 11 + 4) (.int .u8 f.t.nest)).set (k * 11 + 5) (.int .u8 f.p.bits)).set
      (k * 11 + 6) (.int .u16 f.p.off)).set (k * 11 + 7) (.int .u8 f.p.slot)).set (k * 11 + 8) (.bool f.p.isPtr)).set (k * 11 + 9) (.int .u64 f.dflt)).set (k * 11 + 10) (.bool f.union) = fcells (acc.set k f) := by
  have st : ∀ (g g' : Fld) (j : Nat) (u : Value), j < 11 → g'.cells = g.cells.set j u → (fcells (acc.set k g)).set (k * 11 + j) u = fcells (acc.set k g') := by
    intro g g' j u hj hc
    have := flat_set Fld.cells 11 (fun _ => rfl) (acc.set k g) k j (by rw [List.length_set]; exact hk) g' u hj (by rw [List.getElem_set_self]; exact hc)
    rw [List.set_set] at this
    exact this
  have h0 : acc = acc.set k acc[k] := (List.set_getElem_self hk).symm
  obtain ⟨a, ha⟩ : ∃ a, a = acc[k] := ⟨_, rfl⟩
  rw [← ha] at h0
  have e0 : (fcells (acc.set k a)).set (k * 11) (.string f.name) = fcells (acc.set k ⟨f.name, a.t, a.p, a.dflt, a.union⟩) := st a ⟨f.name, a.t, a.p, a.dflt, a.union⟩ 0 _ (by omega) rfl
  have e1 : (fcells (acc.set k ⟨f.name, a.t, a.p, a.dflt, a.union⟩)).set (k * 11 + 1) (.int .u8 f.t.kind) = fcells (acc.set k ⟨f.name, ⟨f.t.kind, a.t.elem, a.t.ref, a.t.nest⟩, a.p, a.dflt, a.union⟩) := st ⟨f.name, a.t, a.p, a.dflt, a.union⟩ ⟨f.name, ⟨f.t.kind, a.t.elem, a.t.ref, a.t.nest⟩, a.p, a.dflt, a.union⟩ 1 _ (by omega) rfl
  have e2 : (fcells (acc.set k ⟨f.name, ⟨f.t.kind, a.t.elem, a.t.ref, a.t.nest⟩, a.p, a.dflt, a.union⟩)).set (k * 11 + 2) (.int .u8 f.t.elem) = fcells (acc.set k ⟨f.name, ⟨f.t.kind, f.t.elem, a.t.ref, a.t.nest⟩, a.p, a.dflt, a.union⟩) := st ⟨f.name, ⟨f.t.kind, a.t.elem, a.t.ref, a.t.nest⟩, a.p, a.dflt, a.union⟩ ⟨f.name, ⟨f.t.kind, f.t.elem, a.t.ref, a.t.nest⟩, a.p, a.dflt, a.union⟩ 2 _ (by omega) rfl
  have e3 : (fcells (acc.set k ⟨f.name, ⟨f.t.kind, f.t.elem, a.t.ref, a.t.nest⟩, a.p, a.dflt, a.union⟩)).set (k * 11 + 3) (.int .u8 f.t.ref) = fcells (acc.set k ⟨f.name, ⟨f.t.kind, f.t.elem, f.t.ref, a.t.nest⟩, a.p, a.dflt, a.union⟩) := st ⟨f.name, ⟨f.t.kind, f.t.elem, a.t.ref, a.t.nest⟩, a.p, a.dflt, a.union⟩ ⟨f.name, ⟨f.t.kind, f.t.elem, f.t.ref, a.t.nest⟩, a.p, a.dflt, a.union⟩ 3 _ (by omega) rfl
  have e4 : (fcells (acc.set k ⟨f.name, ⟨f.t.kind, f.t.elem, f.t.ref, a.t.nest⟩, a.p, a.dflt, a.union⟩)).set (k * 11 + 4) (.int .u8 f.t.nest) = fcells (acc.set k ⟨f.name, f.t, a.p, a.dflt, a.union⟩) := st ⟨f.name, ⟨f.t.kind, f.t.elem, f.t.ref, a.t.nest⟩, a.p, a.dflt, a.union⟩ ⟨f.name, f.t, a.p, a.dflt, a.union⟩ 4 _ (by omega) rfl
  have e5 : (fcells (acc.set k ⟨f.name, f.t, a.p, a.dflt, a.union⟩)).set (k * 11 + 5) (.int .u8 f.p.bits) = fcells (acc.set k ⟨f.name, f.t, ⟨f.p.bits, a.p.off, a.p.slot, a.p.isPtr⟩, a.dflt, a.union⟩) := st ⟨f.name, f.t, a.p, a.dflt, a.union⟩ ⟨f.name, f.t, ⟨f.p.bits, a.p.off, a.p.slot, a.p.isPtr⟩, a.dflt, a.union⟩ 5 _ (by omega) rfl
  have e6 : (fcells (acc.set k ⟨f.name, f.t, ⟨f.p.bits, a.p.off, a.p.slot, a.p.isPtr⟩, a.dflt, a.union⟩)).set (k * 11 + 6) (.int .u16 f.p.off) = fcells (acc.set k ⟨f.name, f.t, ⟨f.p.bits, f.p.off, a.p.slot, a.p.isPtr⟩, a.dflt, a.union⟩) := st ⟨f.name, f.t, ⟨f.p.bits, a.p.off, a.p.slot, a.p.isPtr⟩, a.dflt, a.union⟩ ⟨f.name, f.t, ⟨f.p.bits, f.p.off, a.p.slot, a.p.isPtr⟩, a.dflt, a.union⟩ 6 _ (by omega) rfl
  have e7 : (fcells (acc.set k ⟨f.name, f.t, ⟨f.p.bits, f.p.off, a.p.slot, a.p.isPtr⟩, a.dflt, a.union⟩)).set (k * 11 + 7) (.int .u8 f.p.slot) = fcells (acc.set k ⟨f.name, f.t, ⟨f.p.bits, f.p.off, f.p.slot, a.p.isPtr⟩, a.dflt, a.union⟩) := st ⟨f.name, f.t, ⟨f.p.bits, f.p.off, a.p.slot, a.p.isPtr⟩, a.dflt, a.union⟩ ⟨f.name, f.t, ⟨f.p.bits, f.p.off, f.p.slot, a.p.isPtr⟩, a.dflt, a.union⟩ 7 _ (by omega) rfl
  have e8 : (fcells (acc.set k ⟨f.name, f.t, ⟨f.p.bits, f.p.off, f.p.slot, a.p.isPtr⟩, a.dflt, a.union⟩)).set (k * 11 + 8) (.bool f.p.isPtr) = fcells (acc.set k ⟨f.name, f.t, f.p, a.dflt, a.union⟩) := st ⟨f.name, f.t, ⟨f.p.bits, f.p.off, f.p.slot, a.p.isPtr⟩, a.dflt, a.union⟩ ⟨f.name, f.t, f.p, a.dflt, a.union⟩ 8 _ (by omega) rfl
  have e9 : (fcells (acc.set k ⟨f.name, f.t, f.p, a.dflt, a.union⟩)).set (k * 11 + 9) (.int .u64 f.dflt) = fcells (acc.set k ⟨f.name, f.t, f.p, f.dflt, a.union⟩) := st ⟨f.name, f.t, f.p, a.dflt, a.union⟩ ⟨f.name, f.t, f.p, f.dflt, a.union⟩ 9 _ (by omega) rfl
  have e10 : (fcells (acc.set k ⟨f.name, f.t, f.p, f.dflt, a.union⟩)).set (k * 11 + 10) (.bool f.union) = fcells (acc.set k f) := st ⟨f.name, f.t, f.p, f.dflt, a.union⟩ f 10 _ (by omega) rfl
  rw [show fcells acc = fcells (acc.set k a) by rw [← h0], e0, e1, e2, e3, e4, e5, e6, e7, e8, e9, e10]

def OPost (o : Option RL) (n0 pb : Nat) (T : ByteArray) (l : Lx) (sv uv nv : Value) (nm : ByteArray) (xs : List Value) (m : Nat) (w : World) : Ending → World → Prop := fun r w' =>
  MT n0 pb w.heap.size [70] w w' ∧ match o with
    | none => r = .returned (.bool false) ∧ Bad w' pb
    | some o => r = .returned (.bool true) ∧ Par w' pb T l sv uv nv ∧ ∃ v, w'.ownsRow n0 70 8 sv (m + 1) (xs ++ Str.cells ⟨nm, o.fs, o.tag, o.data, o.ptrs⟩ v) ∧ w'.ownsRow w.heap.size 34 11 v o.fs.length (fcells o.fs)

theorem sort_len {n : Nat} : ∀ {fs : List Fld} {ns : List Nat} {acc out : List Fld}, sortP n fs ns acc = some out → out.length = acc.length
  | [], _, _, _, h => by cases h; rfl
  | _ :: _, [], _, _, h => by cases h
  | f :: fs, m :: ns, acc, out, h => by
    simp only [sortP] at h
    split at h
    · cases h
    · split at h
      · cases h
      · rw [sort_len h, List.length_set]

set_option maxRecDepth 100000
set_option maxHeartbeats 20000000 in
theorem order_any {n0 lo pb : Nat} {T : ByteArray} {l : Lx} {sv uv nv fv : Value} {nm : ByteArray} {fs : List Fld} {ns : List Nat} {xs : List Value} {m : Nat} {w : World} (hp : Par w pb T l sv uv nv) (hS : w.ownsRow n0 70 8 sv (m + 1) (xs ++ scs nm fv))
    (hxs : xs.length = m * 8) (hF : w.ownsRow lo 34 11 fv fs.length (fcells fs)) (hN : w.ownsRow lo 3 1 nv ns.length (ncells ns)) (hnl : ns.length = fs.length) (hf16 : fs.length ≤ 16) (hm : m < 4) (hk0 : ∀ f ∈ fs, 0 ≤ f.t.kind) (_ : n0 ≤ w.heap.size) :
    Calls Faeg.prog 77 #[.pointer (some ⟨pb, 0, none⟩), .int .i64 m] w (OPost (orderP fs ns) n0 pb T l sv uv nv nm xs m w) := by
  obtain ⟨gs, cap, rfl⟩ := ownsRow_succ hS
  obtain ⟨p, e, hl, ho⟩ := id hp
  obtain ⟨-, -, -, c3, -, c5, -, -⟩ := pcs8 ho
  have hlt := ho.lt
  obtain ⟨fa, fc, rfl, -⟩ := Has.own hF
  obtain ⟨na, nc, rfl, -⟩ := Has.own hN
  have hsg := (hS.lt gs rfl).2
  have sc : ∀ w' : World, w'.ownsRow n0 70 8 (.slice (some ⟨gs, 0, none⟩) (m + 1) cap) (m + 1) (xs ++ scs nm (.slice fa fs.length fc)) → ∀ j u, (scs nm (.slice fa fs.length fc))[j]? = some u → w'.cell? ⟨gs, m * 8 + j, none⟩ = some u := fun w' h j u hj => by
    have := h.cells rfl (m * 8 + j) u (by rw [List.getElem?_append_right (by omega), hxs, show m * 8 + j - m * 8 = j by omega]; exact hj)
    simpa [Addr.add_lit] using this
  have s1 := sc w hS 1 _ rfl
  obtain ⟨i34, hi, hz0, hz1, hz2⟩ := info_parts info34
  go_enter Faeg.func77, Faeg.ntmps77
  go_wp2_with (at_make; refine wpList_make_full _ rfl _ _ 23 rfl w.heap.size 34 i34 _ 11 Faeg.underlying23 hi hz0 hz1 .i64 .i64 _ _ fs.length rfl rfl rfl rfl (by rw [hz2]; omega) (by unfold maxLen; omega) (Nat.le_refl _) ?_; intro w1 hown hgrow; have hb1 : Below w.heap.size w w1 := (Below.refl _ _).grown hgrow (Nat.le_refl _) (by simp); have s2 := sc w1 (row_calm hS hb1) 1 _ rfl; have hsz1 := hb1.size)
  rw [made_zero] at hown
  have hord : orderP fs ns = match sortP fs.length fs ns (List.replicate fs.length Fld.zero) with
      | none => none
      | some gs => rLay gs := rfl
  have HO : Hid _ := hord
  clear hord s1 s2
  go_loopw [33] (fun i wl => ∃ (j : Nat) (acc : List Fld), j ≤ fs.length ∧ i = .int .i64 j ∧ acc.length = fs.length ∧ wl.ownsRow w.heap.size 34 11 (.slice (some ⟨w.heap.size, 0, none⟩) fs.length fs.length) fs.length (fcells acc) ∧ Below w.heap.size w wl ∧
    (∀ f ∈ acc, 0 ≤ f.t.kind) ∧ Hid (sortP fs.length fs ns (List.replicate fs.length Fld.zero) = sortP fs.length (fs.drop j) (ns.drop j) acc)) (fun i _ => fs.length - (intOf i).toNat)
  case atStart => exact ⟨0, _, Nat.zero_le _, rfl, by simp, hown, hb1, by intro f hf; rw [List.mem_replicate] at hf; rw [hf.2]; decide, rfl⟩
  case round =>
    clear hown hgrow hb1
    obtain ⟨j, acc, hj, rfl, hal, hown, hb, hka, hG⟩ := hrel
    have hsz := hb.size
    have s1 := sc wr (row_calm hS hb) 1 _ rfl
    have hpw := hp.calm hb
    obtain ⟨-, -, -, -, -, c5, -, -⟩ := pcs8 (ho.below hb ho.lt)
    by_cases hjl : j < fs.length
    · have hH2 : ∃ b off, fa = some ⟨b, off, none⟩ ∧ b < w.heap.size ∧ AtB w b off (fcells fs) := by
        obtain ⟨fa', fc', he, hH⟩ := Has.own hF
        cases he
        rcases hH with hH | hH
        · exfalso
          have := congrArg List.length hH
          rw [fcells, flat_length Fld.cells 11 (fun _ => rfl), List.length_nil] at this
          omega
        · exact hH
      obtain ⟨bx, ox, rfl, hbx, hcx⟩ := hH2
      have hfj := (fld_at hcx hjl).below hb hbx
      obtain ⟨d0, d1, d2, d3, d4, d5, d6, d7, d8, d9, d10⟩ := fld11 hfj
      have hH3 : ∃ b off, na = some ⟨b, off, none⟩ ∧ b < w.heap.size ∧ AtB w b off (ncells ns) := by
        obtain ⟨fa', fc', he, hH⟩ := Has.own hN
        cases he
        rcases hH with hH | hH
        · exfalso
          have := congrArg List.length hH
          rw [ncells, List.length_map, List.length_nil] at this
          omega
        · exact hH
      obtain ⟨bn, on, rfl, hbn, hcn⟩ := hH3
      have hn1 := (hcn.below hb hbn) j (.int .i64 (ns[j]'(by omega) : Nat)) (by simp [ncells, show j < ns.length by omega])
      have hG2 : Hid (sortP fs.length fs ns (List.replicate fs.length Fld.zero) = if fs.length ≤ ns[j]'(by omega) then none else if (acc.getD (ns[j]'(by omega)) Fld.zero).name.toList != [] then none else sortP fs.length (fs.drop (j + 1)) (ns.drop (j + 1)) (acc.set (ns[j]'(by omega)) fs[j])) := by
        rw [Hid, hG.out, List.drop_eq_getElem_cons hjl, List.drop_eq_getElem_cons (show j < ns.length by omega)]; rfl
      have hkf := hk0 fs[j] (List.getElem_mem _)
      obtain ⟨x, hx⟩ : ∃ x, x = fs[j] := ⟨_, rfl⟩
      obtain ⟨y, hy⟩ : ∃ y, y = ns[j]'(by omega) := ⟨_, rfl⟩
      rw [← hx] at d0 d1 d2 d3 d4 d5 d6 d7 d8 d9 d10 hG2 hkf
      rw [← hy] at hn1 hG2
      clear hx hy hfj hG
      have hltb : bx < wr.heap.size := by omega
      have hltn : bn < wr.heap.size := by omega
      have hltg : gs < wr.heap.size := by omega
      have hltp : pb < wr.heap.size := by omega
      have hlts : w.heap.size < wr.heap.size := (hown.lt _ rfl).2
      by_cases hyn : fs.length ≤ y
      · have hF3 : Hid (orderP fs ns = none) := by rw [Hid, HO.out, hG2.out, if_pos hyn]
        go_wp2_with (go_at_call 93; refine (fail_as 5 (hpw.alloc _) (by decide) (by decide)).mono ?_; rintro r w3 ⟨rfl, hB3, hm3⟩)
        go_ret
        rw [hF3.out]
        exact ⟨(((MT.refl _ _ _ _ _).calm hb).alloc _).trans (MT.of hm3), rfl, hB3⟩
      · have hyl : y < acc.length := by omega
        have hac : ∀ jj u, ((acc[y]'hyl).cells)[jj]? = some u → jj < 11 → wr.cell? ⟨w.heap.size, y * 11 + jj, none⟩ = some u := fun jj u hu hjj => by
          have := hown.cells rfl (y * 11 + jj) u (by rw [fcells, flat_get Fld.cells 11 (fun _ => rfl) acc y jj hyl hjj]; exact hu)
          simpa [Addr.add_lit] using this
        have hfz := hown.frozenAt
        have z0 := hac 0 _ rfl (by omega)
        have z1 := hac 1 _ rfl (by omega)
        have z2 := hac 2 _ rfl (by omega)
        have z3 := hac 3 _ rfl (by omega)
        have z4 := hac 4 _ rfl (by omega)
        have z5 := hac 5 _ rfl (by omega)
        have z6 := hac 6 _ rfl (by omega)
        have z7 := hac 7 _ rfl (by omega)
        have z8 := hac 8 _ rfl (by omega)
        have z9 := hac 9 _ rfl (by omega)
        have z10 := hac 10 _ rfl (by omega)
        rw [Nat.add_zero] at z0
        have hgd : acc.getD y Fld.zero = acc[y]'hyl := by simp [hyl]
        rw [hgd, if_neg hyn] at hG2
        obtain ⟨g, hg⟩ : ∃ g, g = acc[y]'hyl := ⟨_, rfl⟩
        rw [← hg] at z0 z1 z2 z3 z4 z5 z6 z7 z8 z9 z10 hG2
        clear hac hgd hg
        cases he : g.name.toList.isEmpty with
        | false =>
          have hne : ¬ g.name.toList = [] := by simpa using he
          have hF3 : Hid (orderP fs ns = none) := by rw [Hid, HO.out, hG2.out, if_pos (by simpa using hne)]
          clear hne
          go_wp2_with (go_at_call 93; refine (fail_as 5 (hpw.alloc _) (by decide) (by decide)).mono ?_; rintro r w3 ⟨rfl, hB3, hm3⟩)
          go_ret
          rw [hF3.out]
          exact ⟨(((MT.refl _ _ _ _ _).calm hb).alloc _).trans (MT.of hm3), rfl, hB3⟩
        | true =>
          have hne : g.name.toList = [] := by simpa using he
          have hG3 : Hid (sortP fs.length fs ns (List.replicate fs.length Fld.zero) = sortP fs.length (fs.drop (j + 1)) (ns.drop (j + 1)) (acc.set y x)) := by rw [Hid, hG2.out, if_neg (by simp [hne])]
          clear hne
          have f0 := hfz (y * 11)
          have f1 := hfz (y * 11 + 1)
          have f2 := hfz (y * 11 + 2)
          have f3 := hfz (y * 11 + 3)
          have f4 := hfz (y * 11 + 4)
          have f5 := hfz (y * 11 + 5)
          have f6 := hfz (y * 11 + 6)
          have f7 := hfz (y * 11 + 7)
          have f8 := hfz (y * 11 + 8)
          have f9 := hfz (y * 11 + 9)
          have f10 := hfz (y * 11 + 10)
          clear hfz
          go_wp2_with fail
          go_roundw
          case rel =>
            refine ⟨j + 1, acc.set y x, by omega, by go_num, by rw [List.length_set]; exact hal, ?_, ?_, ?_, hG3⟩
            · rw [← flds_set hyl x]
              exact (((((((((((hown.stored (y * 11) _).1.stored (y * 11 + 1) _).1.stored (y * 11 + 2) _).1.stored (y * 11 + 3) _).1.stored (y * 11 + 4) _).1.stored (y * 11 + 5) _).1.stored (y * 11 + 6) _).1.stored (y * 11 + 7) _).1.stored (y * 11 + 8) _).1.stored (y * 11 + 9) _).1.stored (y * 11 + 10) _).1.alloc _
            · exact (((((((((((hb.setCell (p := ⟨w.heap.size, y * 11, none⟩) (Nat.le_refl _) _).setCell (p := ⟨w.heap.size, y * 11 + 1, none⟩) (Nat.le_refl _) _).setCell (p := ⟨w.heap.size, y * 11 + 2, none⟩) (Nat.le_refl _) _).setCell (p := ⟨w.heap.size, y * 11 + 3, none⟩) (Nat.le_refl _) _).setCell (p := ⟨w.heap.size, y * 11 + 4, none⟩) (Nat.le_refl _) _).setCell (p := ⟨w.heap.size, y * 11 + 5, none⟩) (Nat.le_refl _) _).setCell (p := ⟨w.heap.size, y * 11 + 6, none⟩) (Nat.le_refl _) _).setCell (p := ⟨w.heap.size, y * 11 + 7, none⟩) (Nat.le_refl _) _).setCell (p := ⟨w.heap.size, y * 11 + 8, none⟩) (Nat.le_refl _) _).setCell (p := ⟨w.heap.size, y * 11 + 9, none⟩) (Nat.le_refl _) _).setCell (p := ⟨w.heap.size, y * 11 + 10, none⟩) (Nat.le_refl _) _).alloc (by simp [World.setCell]; omega) _
            · intro f hf
              rcases List.mem_or_eq_of_mem_set hf with hf | hf
              · exact hka f hf
              · rw [hf]; exact hkf
          case measure => simp [intOf]; omega
    · have hje : j = fs.length := by omega
      subst hje
      have hsort : sortP fs.length fs ns (List.replicate fs.length Fld.zero) = some acc := by
        rw [hG.out, List.drop_eq_nil_of_le (Nat.le_refl _), sortP]
      have hF3 : Hid (orderP fs ns = rLay acc) := by rw [Hid, HO.out, hsort]
      clear HO hG hsort c5 s1
      obtain ⟨w2, rfl⟩ : ∃ w, w = wr := ⟨_, rfl⟩
      have hHas : Has w2 (some ⟨w.heap.size, 0, none⟩) (fcells acc) := by
        obtain ⟨a', c', he, hH⟩ := Has.own hown
        cases he
        exact hH
      have hlay := rLayout_any acc (some ⟨w.heap.size, 0, none⟩) fs.length fs.length w2 hal hHas hka
      unfold RPost at hlay
      have HL : Hid _ := hlay
      clear hlay
      have hMw : MT n0 pb w.heap.size [70] w w2 := (MT.refl _ _ _ _ _).calm hb
      cases hr : rLay acc with
      | none =>
        rw [hr] at HL
        go_wp2_with (first | (go_at_call 12; refine Calls.mono (Hid.out HL) ?_; rintro r w3 ⟨hb3, rfl⟩) | (go_at_call 93; refine (fail_as 2 ((hpw.calm hb3).alloc _) (by decide) (by decide)).mono ?_; rintro r w4 ⟨rfl, hB4, hm4⟩))
        go_ret
        rw [hF3.out, hr]
        exact ⟨((hMw.calm hb3).alloc _).trans (MT.of hm4), rfl, hB4⟩
      | some o =>
        rw [hr] at HL
        have hol := rLay_len hr
        go_upto_region 14 with (go_at_call 12; refine Calls.mono (Hid.out HL) ?_; rintro r w3 ⟨hb3, v, rfl, hv⟩)
        have hS3 := (row_calm (row_calm hS hb) hb3).alloc (.cells #[.int .u8 o.tag.bits, .int .u16 o.tag.off, .int .u8 o.tag.slot, .bool o.tag.isPtr] 27)
        have hv3 := hv.alloc (.cells #[.int .u8 o.tag.bits, .int .u16 o.tag.off, .int .u8 o.tag.slot, .bool o.tag.isPtr] 27)
        have hP3 := (hpw.calm hb3).alloc (.cells #[.int .u8 o.tag.bits, .int .u16 o.tag.off, .int .u8 o.tag.slot, .bool o.tag.isPtr] 27)
        have hM3 := (hMw.calm hb3).alloc (.cells #[.int .u8 o.tag.bits, .int .u16 o.tag.off, .int .u8 o.tag.slot, .bool o.tag.isPtr] 27)
        have hT3 : Own (w3.alloc (.cells #[.int .u8 o.tag.bits, .int .u16 o.tag.off, .int .u8 o.tag.slot, .bool o.tag.isPtr] 27)) w3.heap.size 27 (Plc.cells o.tag) := Own.new _ _ _
        generalize w3.alloc (.cells #[.int .u8 o.tag.bits, .int .u16 o.tag.off, .int .u8 o.tag.slot, .bool o.tag.isPtr] 27) = W at *
        obtain ⟨va, vc, rfl, -⟩ := Has.own hv
        obtain ⟨t0, t1, t2, t3⟩ := plc4 (o := 0) hT3.at
        simp only [Nat.zero_add] at t1 t2 t3
        have hltT := hT3.lt
        have hgt : gs ≠ w3.heap.size := by
          have := hb3.size
          omega
        have k1 := sc W hS3 1 _ rfl
        have g1 := hS3.frozenAt (m * 8 + 1)
        have k2 := sc W hS3 2 _ rfl
        have g2 := hS3.frozenAt (m * 8 + 2)
        have k3 := sc W hS3 3 _ rfl
        have g3 := hS3.frozenAt (m * 8 + 3)
        have k4 := sc W hS3 4 _ rfl
        have g4 := hS3.frozenAt (m * 8 + 4)
        have k5 := sc W hS3 5 _ rfl
        have g5 := hS3.frozenAt (m * 8 + 5)
        have k6 := sc W hS3 6 _ rfl
        have g6 := hS3.frozenAt (m * 8 + 6)
        have k7 := sc W hS3 7 _ rfl
        have g7 := hS3.frozenAt (m * 8 + 7)
        have hltg := (hS3.lt gs rfl).2
        have hpg : pb ≠ gs := fun e1 => row_ne hS ho (by decide) (e1 ▸ rfl)
        have hvg : (Value.slice va acc.length vc).ownBlock ≠ some gs := fun e1 => row_row hv3 hS3 (by decide) e1 rfl
        go_region
        go_wp2_with fail
        go_ret
        have S1 := (hS3.stored (m * 8 + 1) (.slice va fs.length vc)).1
        have M1 := hM3.stored hS3 (by simp) (Nat.le_refl _) (m * 8 + 1) (.slice va fs.length vc)
        have P1 := hP3.other (a := ⟨gs, m * 8 + 1, none⟩) hpg (.slice va fs.length vc)
        have V1 := ownsRow_setCell_other (a := ⟨gs, m * 8 + 1, none⟩) hv3 hvg (.slice va fs.length vc)
        have S2 := (S1.stored (m * 8 + 2) (.int .u8 o.tag.bits)).1
        have M2 := M1.stored S1 (by simp) (Nat.le_refl _) (m * 8 + 2) (.int .u8 o.tag.bits)
        have P2 := P1.other (a := ⟨gs, m * 8 + 2, none⟩) hpg (.int .u8 o.tag.bits)
        have V2 := ownsRow_setCell_other (a := ⟨gs, m * 8 + 2, none⟩) V1 hvg (.int .u8 o.tag.bits)
        have S3 := (S2.stored (m * 8 + 2 + 1) (.int .u16 o.tag.off)).1
        have M3 := M2.stored S2 (by simp) (Nat.le_refl _) (m * 8 + 2 + 1) (.int .u16 o.tag.off)
        have P3 := P2.other (a := ⟨gs, m * 8 + 2 + 1, none⟩) hpg (.int .u16 o.tag.off)
        have V3 := ownsRow_setCell_other (a := ⟨gs, m * 8 + 2 + 1, none⟩) V2 hvg (.int .u16 o.tag.off)
        have S4 := (S3.stored (m * 8 + 2 + 2) (.int .u8 o.tag.slot)).1
        have M4 := M3.stored S3 (by simp) (Nat.le_refl _) (m * 8 + 2 + 2) (.int .u8 o.tag.slot)
        have P4 := P3.other (a := ⟨gs, m * 8 + 2 + 2, none⟩) hpg (.int .u8 o.tag.slot)
        have V4 := ownsRow_setCell_other (a := ⟨gs, m * 8 + 2 + 2, none⟩) V3 hvg (.int .u8 o.tag.slot)
        have S5 := (S4.stored (m * 8 + 2 + 3) (.bool o.tag.isPtr)).1
        have M5 := M4.stored S4 (by simp) (Nat.le_refl _) (m * 8 + 2 + 3) (.bool o.tag.isPtr)
        have P5 := P4.other (a := ⟨gs, m * 8 + 2 + 3, none⟩) hpg (.bool o.tag.isPtr)
        have V5 := ownsRow_setCell_other (a := ⟨gs, m * 8 + 2 + 3, none⟩) V4 hvg (.bool o.tag.isPtr)
        have S6 := (S5.stored (m * 8 + 6) (.int .u8 o.data)).1
        have M6 := M5.stored S5 (by simp) (Nat.le_refl _) (m * 8 + 6) (.int .u8 o.data)
        have P6 := P5.other (a := ⟨gs, m * 8 + 6, none⟩) hpg (.int .u8 o.data)
        have V6 := ownsRow_setCell_other (a := ⟨gs, m * 8 + 6, none⟩) V5 hvg (.int .u8 o.data)
        have S7 := (S6.stored (m * 8 + 7) (.int .u8 o.ptrs)).1
        have M7 := M6.stored S6 (by simp) (Nat.le_refl _) (m * 8 + 7) (.int .u8 o.ptrs)
        have P7 := P6.other (a := ⟨gs, m * 8 + 7, none⟩) hpg (.int .u8 o.ptrs)
        have V7 := ownsRow_setCell_other (a := ⟨gs, m * 8 + 7, none⟩) V6 hvg (.int .u8 o.ptrs)
        rw [hF3.out, hr]
        refine ⟨Mod.drew M7, rfl, Par.drew P7, .slice va fs.length vc, ?_, ?_⟩
        · have hset : ((((((((xs ++ scs nm (.slice fa fs.length fc)).set (m * 8 + 1) (.slice va fs.length vc)).set (m * 8 + 2) (.int .u8 o.tag.bits)).set (m * 8 + 2 + 1) (.int .u16 o.tag.off)).set (m * 8 + 2 + 2) (.int .u8 o.tag.slot)).set (m * 8 + 2 + 3) (.bool o.tag.isPtr)).set (m * 8 + 6) (.int .u8 o.data)).set (m * 8 + 7) (.int .u8 o.ptrs)) =
              xs ++ Str.cells ⟨nm, o.fs, o.tag, o.data, o.ptrs⟩ (.slice va fs.length vc) := by
            rw [← hxs]
            simp [List.set_append_right, scs, Str.cells, Nat.add_assoc, Nat.add_sub_cancel_left]
          rw [← hset]
          exact World.ownsRow.drew S7
        · rw [hal] at V7
          rw [show o.fs.length = fs.length by omega]
          exact World.ownsRow.drew (World.ownsRow.mono V7 hsz)
end Go.Proofs.Ygcfae
