import Derived.Test.YgcfaeRLayC
namespace Go.Proofs.Ygcfae
open Go.RowKit
theorem info34 : (Faeg.prog.info? 34).map (fun i => (i.zero, i.size, i.bytes)) = some (some (.agg #[.string ByteArray.empty, .int .u8 0, .int .u8 0, .int .u8 0, .int .u8 0, .int .u8 0, .int .u16 0, .int .u8 0, .bool false, .int .u64 0, .bool false]), 11, 48) := by kernel_rfl

def RPost (fs : List Fld) (w : World) (e : Ending) (w' : World) : Prop :=
  Below w.heap.size w w' ∧
  match rLay fs with
  | none => e = .returned (.tuple #[.slice none 0 0, .agg #[.int .u8 0, .int .u16 0, .int .u8 0, .bool false], .int .u8 0, .int .u8 0, .bool false])
  | some r => ∃ v, e = .returned (.tuple #[v, .agg #[.int .u8 r.tag.bits, .int .u16 r.tag.off, .int .u8 r.tag.slot, .bool r.tag.isPtr], .int .u8 r.data, .int .u8 r.ptrs, .bool true]) ∧
      w'.ownsRow w.heap.size 34 11 v fs.length (fcells r.fs)

theorem RPost.no {fs : List Fld} {w w' : World} (h : rLay fs = none) (hb : Below w.heap.size w w') :
    RPost fs w (.returned (.tuple #[.slice none 0 0, .agg #[.int .u8 0, .int .u16 0, .int .u8 0, .bool false], .int .u8 0, .int .u8 0, .bool false])) w' := by
  unfold RPost; rw [h]; exact ⟨hb, rfl⟩

theorem RPost.yes {fs : List Fld} {w w' : World} {r : RL} {v : Value} (h : rLay fs = some r) (hb : Below w.heap.size w w') (ho : w'.ownsRow w.heap.size 34 11 v fs.length (fcells r.fs)) :
    RPost fs w (.returned (.tuple #[v, .agg #[.int .u8 r.tag.bits, .int .u16 r.tag.off, .int .u8 r.tag.slot, .bool r.tag.isPtr], .int .u8 r.data, .int .u8 r.ptrs, .bool true])) w' := by
  unfold RPost; rw [h]; exact ⟨hb, v, rfl, ho⟩

theorem ownsRow_base {w : World} {base base' : Nat} {e : TypeId} {size : Nat} {v : Value} {n : Nat} {xs : List Value} (h : w.ownsRow base e size v n xs) (hb : base' ≤ base) : w.ownsRow base' e size v n xs := by
  obtain ⟨h1, h2⟩ := h
  refine ⟨h1, ?_⟩
  rcases h2 with h2 | ⟨g, cap, cur, hv, hg, r⟩
  · exact .inl h2
  · exact .inr ⟨g, cap, cur, hv, by omega, r⟩

theorem plc_own {wr : World} {b : Nat} {p : Plc} (h : Own wr b 27 p.cells) :
    (wr.cell? ⟨b, 0, none⟩ = some (.int .u8 p.bits) ∧ wr.cell? ⟨b, 1, none⟩ = some (.int .u16 p.off) ∧ wr.cell? ⟨b, 2, none⟩ = some (.int .u8 p.slot) ∧ wr.cell? ⟨b, 3, none⟩ = some (.bool p.isPtr)) ∧
    wr.frozen? ⟨b, 0, none⟩ = false ∧ wr.frozen? ⟨b, 1, none⟩ = false ∧ wr.frozen? ⟨b, 2, none⟩ = false ∧ wr.frozen? ⟨b, 3, none⟩ = false :=
  ⟨⟨h.cell rfl, h.cell rfl, h.cell rfl, h.cell rfl⟩, h.free _, h.free _, h.free _, h.free _⟩

theorem own_put4 {w : World} {b : Nat} {e : TypeId} {v0 v1 v2 v3 u0 u1 u2 u3 : Value} (h : Own w b e [v0, v1, v2, v3]) :
    Own ((((w.setCell ⟨b, 0, none⟩ u0).setCell ⟨b, 1, none⟩ u1).setCell ⟨b, 2, none⟩ u2).setCell ⟨b, 3, none⟩ u3) b e [u0, u1, u2, u3] := (((h.set 0 u0).set 1 u1).set 2 u2).set 3 u3
theorem below_put4 {w0 w : World} {B b : Nat} {u0 u1 u2 u3 : Value} (h : Below B w0 w) (hb : B ≤ b) :
    Below B w0 ((((w.setCell ⟨b, 0, none⟩ u0).setCell ⟨b, 1, none⟩ u1).setCell ⟨b, 2, none⟩ u2).setCell ⟨b, 3, none⟩ u3) :=
  (((h.setCell (p := ⟨b, 0, none⟩) hb u0).setCell (p := ⟨b, 1, none⟩) hb u1).setCell (p := ⟨b, 2, none⟩) hb u2).setCell (p := ⟨b, 3, none⟩) hb u3

set_option maxRecDepth 100000
set_option maxHeartbeats 400000 in
theorem rLayout_long (fs : List Fld) (ao : Option Addr) (n cap : Nat) (w : World) (hn : fs.length = n) (hl : 16 < n) :
    Calls Faeg.prog 12 #[.slice ao n cap] w (RPost fs w) := by
  have hst : Hid (rLay fs = none) := by
    show _ = _
    unfold rLay; rw [if_pos (by omega)]
  have hd16 : decide (16 < (n : Int)) = true := by simp; omega
  go_enter Faeg.func12, Faeg.ntmps12
  go_wp2
  refine bodyPost_ret (v := .tuple #[.slice none 0 0, .agg #[.int .u8 0, .int .u16 0, .int .u8 0, .bool false], .int .u8 0, .int .u8 0, .bool false]) (by simp [results, Faeg.results12, go_sem]) rfl ?_
  exact RPost.no hst.out ((Below.refl _ _).alloc (Nat.le_refl _) _)

theorem wrap_u16_zero : IntKind.u16.wrap 0 = 0 := by decide
theorem fcells_snoc (fs : List Fld) (f : Fld) : fcells (fs ++ [f]) = fcells fs ++ f.cells := by simp [fcells]

theorem any_take_succ {fs : List Fld} {k : Nat} (h : k < fs.length) (p : Fld → Bool) (h1 : (fs.take k).any p = false) (h2 : p fs[k] = false) : (fs.take (k + 1)).any p = false := by
  rw [List.take_succ_eq_append_getElem h, List.any_append, h1]; simp [h2]

set_option maxHeartbeats 4000000 in
theorem rLayout_short (fs : List Fld) (ao : Option Addr) (n cap : Nat) (w : World) (hn : fs.length = n) (hl : n ≤ 16) (hc : Has w ao (fcells fs)) (hk0 : ∀ f ∈ fs, 0 ≤ f.t.kind) :
    Calls Faeg.prog 12 #[.slice ao n cap] w (RPost fs w) := by
  have hd16 : decide (16 < (n : Int)) = false := by simp; omega
  go_enter Faeg.func12, Faeg.ntmps12
  go_wp2
  go_loopw [2, 22] (fun v i wr => ∃ k : Nat, k ≤ n ∧ v = .slice none 0 0 ∧ i = .int .i64 k ∧ Below w.heap.size w wr ∧ Own wr w.heap.size 27 Plc.zero.cells ∧ Hid ((fs.take k).any (fun f => decide (14 < f.t.kind)) = false)) (fun _ i _ => n - (intOf i).toNat)
  case atStart => exact ⟨0, Nat.zero_le _, rfl, rfl, (Below.refl _ _).alloc (Nat.le_refl _) _, Own.new _ _ _, rfl⟩
  case round =>
    obtain ⟨k, hk, rfl, rfl, hbl, htag, hany⟩ := hrel
    have hts := htag.lt
    by_cases hlt : k < n
    · rcases hc with hc | ⟨b, off, rfl, hb, hc⟩
      · exfalso
        have := congrArg List.length hc
        rw [fcells, flat_length Fld.cells 11 (fun _ => rfl)] at this
        simp at this
        omega
      have hf := (fld_at hc (k := k) (by omega)).below hbl hb
      obtain ⟨f, hfe⟩ : ∃ f, f = fs[k] := ⟨_, rfl⟩
      rw [← hfe] at hf
      obtain ⟨c0, c1, c2, c3, c4, c5, c6, c7, c8, c9, c10⟩ := fld11 hf
      clear hf
      have HF : Hid (f = fs[k]) := hfe
      clear hfe
      by_cases h14 : 14 < f.t.kind
      · have hst : Hid (rLay fs = none) := by
          show _ = _
          unfold rLay
          rw [if_neg (by omega), if_pos]
          rw [List.any_eq_true]
          exact ⟨f, by rw [HF.out]; exact List.getElem_mem _, by simpa using h14⟩
        obtain ⟨⟨t0, t1, t2, t3⟩, q0, q1, q2, q3⟩ := plc_own htag
        have T' := own_put4 (u0 := .int .u8 0) (u1 := .int .u16 0) (u2 := .int .u8 0) (u3 := .bool false) htag
        have B' := below_put4 (b := w.heap.size) (u0 := .int .u8 0) (u1 := .int .u16 0) (u2 := .int .u8 0) (u3 := .bool false) hbl (Nat.le_refl _)
        go_wp2
        revert T' B'
        generalize (((wr.setCell ⟨w.heap.size, 0, none⟩ (.int .u8 0)).setCell ⟨w.heap.size, 1, none⟩ (.int .u16 0)).setCell ⟨w.heap.size, 2, none⟩ (.int .u8 0)).setCell ⟨w.heap.size, 3, none⟩ (.bool false) = X
        intro T' B'
        obtain ⟨⟨p0, p1, p2, p3⟩, _⟩ := plc_own (p := Plc.zero) T'
        have hX := T'.lt
        refine bodyPost_ret (v := .tuple #[.slice none 0 0, .agg #[.int .u8 0, .int .u16 0, .int .u8 0, .bool false], .int .u8 0, .int .u8 0, .bool false]) (by simp [results, Faeg.results12, go_sem, p0, p1, p2, p3, hX]; exact ⟨rfl, rfl, rfl, rfl⟩) rfl ?_
        exact RPost.no hst.out (B'.alloc (by omega) _)
      · have hany' : Hid ((fs.take (k + 1)).any (fun f => decide (14 < f.t.kind)) = false) := any_take_succ (by omega) _ hany.out (by rw [← HF.out]; simpa using h14)
        go_wp2
        go_roundw
        case rel => exact ⟨k + 1, by omega, rfl, by go_num, hbl.alloc (by omega) _, htag.alloc _, hany'⟩
        case measure => simp [intOf]; omega
    · have hall : Hid (fs.any (fun f => decide (14 < f.t.kind)) = false) := by
        have := hany.out
        rwa [List.take_of_length_le (by omega)] at this
      clear hany hk
      have hcr := hc.below hbl
      obtain ⟨E, hE⟩ : ∃ E, eRun fs ES.start = E := ⟨_, rfl⟩
      have HE : Hid _ := hE
      have hKs : Hid (∀ k ∈ E.ts, 0 ≤ k) := by rw [← hE]; exact eRun_kinds fs (by intro k hk; simp [ES.start] at hk) hk0
      clear hE
      cases hs : sLay E.ts with
      | none =>
        have hst : Hid (rLay fs = none) := by
          show _ = _
          unfold rLay
          rw [if_neg (by omega), if_neg (by simpa using hall.out), HE.out, hs]
        have HS : Hid _ := hs
        clear hs
        go_wp2_with (first | (go_at_call 30; refine (entries_yes fs HE.out ao n cap _ hn hl hcr).mono ?_; rintro e w1 ⟨a2, c2, a3, c3, rfl, has2, has3, bel1⟩; have s1 := bel1.size; have htag1 := htag.below bel1 hts) | (go_at_call 31; refine (sLayout_no HS.out a2 _ c2 _ rfl (has2.below ((Below.refl _ _).alloc (Nat.le_refl _) _)) hKs.out).mono ?_; rintro e w2 ⟨rfl, bel2⟩; have htag2 := (htag1.alloc _).below bel2 (by simp; omega); obtain ⟨⟨t0, t1, t2, t3⟩, q0, q1, q2, q3⟩ := plc_own htag2))
        have bel3 : Below w.heap.size w w2 := hbl.trans ((bel1.mono (by omega)).trans (((Below.refl _ w1).alloc (by omega) _).trans (bel2.mono (by simp; omega))))
        have T' := own_put4 (u0 := .int .u8 0) (u1 := .int .u16 0) (u2 := .int .u8 0) (u3 := .bool false) htag2
        have B' := below_put4 (b := w.heap.size) (u0 := .int .u8 0) (u1 := .int .u16 0) (u2 := .int .u8 0) (u3 := .bool false) bel3 (Nat.le_refl _)
        revert T' B'
        generalize (((w2.setCell ⟨w.heap.size, 0, none⟩ (.int .u8 0)).setCell ⟨w.heap.size, 1, none⟩ (.int .u16 0)).setCell ⟨w.heap.size, 2, none⟩ (.int .u8 0)).setCell ⟨w.heap.size, 3, none⟩ (.bool false) = X
        intro T' B'
        obtain ⟨⟨p0, p1, p2, p3⟩, _⟩ := plc_own (p := Plc.zero) T'
        refine bodyPost_ret (v := .tuple #[.slice none 0 0, .agg #[.int .u8 0, .int .u16 0, .int .u8 0, .bool false], .int .u8 0, .int .u8 0, .bool false]) (by simp [results, Faeg.results12, go_sem, p0, p1, p2, p3]; exact ⟨rfl, rfl, rfl, rfl⟩) rfl ?_
        exact RPost.no hst.out B'
      | some st =>
        have okS := sLay_len hs
        have okE := eRun_start fs
        rw [HE.out] at okE
        obtain ⟨okE, okI⟩ := okE
        have hst : Hid (rLay fs = some ⟨List.zipWith (layF st.ps) fs E.ix, placeOf st.ps E.tag, st.data, st.ptrs⟩) := by
          show _ = _
          unfold rLay
          rw [if_neg (by omega), if_neg (by simpa using hall.out), HE.out, hs]
        have HS : Hid _ := hs
        clear hs
        obtain ⟨i34, hi, hz0, hz1, hz2⟩ := info_parts info34
        go_upto_if 50 with (first | (go_at_call 30; refine (entries_yes fs HE.out ao n cap _ hn hl hcr).mono ?_; rintro e w1 ⟨a2, c2, a3, c3, rfl, has2, has3, bel1⟩; have s1 := bel1.size; have htag1 := htag.below bel1 hts) | (go_at_call 31; refine (sLayout_yes HS.out a2 _ c2 _ rfl (has2.below ((Below.refl _ _).alloc (Nat.le_refl _) _)) hKs.out).mono ?_; rintro e w2 ⟨ap, cp, rfl, hasp, bel2⟩; have htag2 := (htag1.alloc _).below bel2 (by simp; omega); have hu2 := (Own.new w1 #[.int .i64 E.tag, .int .i64 E.word, .int .i64 E.slot] 99).below bel2 (by simp); have s2 := bel2.size; simp only [World.size_alloc] at s2))
        go_cut [2] (fun v wc => (0 < n → v = .slice (some ⟨w2.heap.size, 0, none⟩) 0 n) ∧ wc.ownsRow w2.heap.size 34 11 v 0 [] ∧ Below w2.heap.size w2 wc)
        case first =>
          by_cases hn0 : n = 0
          · have hd0 : decide (0 < (n : Int)) = false := by simp; omega
            go_wp2_with fail
            go_meet
            exact ⟨fun h => by omega, World.ownsRow_nil _ _ _ _, Below.refl _ _⟩
          · have hd0 : decide (0 < (n : Int)) = true := by simp; omega
            go_wp2_with (at_make; refine wpList_make_own _ rfl _ _ 23 rfl w2.heap.size 34 i34 _ 11 Faeg.underlying23 hi hz0 hz1 .i64 .i64 _ n rfl rfl rfl (by rw [hz2]; omega) (by unfold maxLen; omega) (Nat.le_refl _) ?_; intro w3 hown hgrow)
            go_meet
            exact ⟨fun _ => rfl, hown, (Below.refl _ _).grown hgrow (Nat.le_refl _) (by simp)⟩
        case rest =>
          obtain ⟨hv0, hown, hbel0⟩ := hcut
          have bel3 : Below w.heap.size w w2 := hbl.trans ((bel1.mono (by omega)).trans (((Below.refl _ w1).alloc (by omega) _).trans (bel2.mono (by simp; omega))))
          have hc2 := hc.below bel3
          have has3' := (has3.below ((Below.refl _ w1).alloc (Nat.le_refl _) (.cells #[.int .i64 E.tag, .int .i64 E.word, .int .i64 E.slot] 99))).below bel2
          clear bel1 bel2 has2 has3 htag htag1 hc hcr hbl
          obtain ⟨outs, houts⟩ : ∃ outs, outs = List.zipWith (layF st.ps) fs E.ix := ⟨_, rfl⟩
          have hol : outs.length = n := by rw [houts, List.length_zipWith, okE.ix_len]; omega
          go_wp2_with fail
          go_loopw [2, 56] (fun v i wq => ∃ k : Nat, k ≤ n ∧ (0 < n → v = .slice (some ⟨w2.heap.size, 0, none⟩) k n) ∧ i = .int .i64 k ∧ wq.ownsRow w2.heap.size 34 11 v k (fcells (outs.take k)) ∧ Below w2.heap.size w2 wq) (fun _ i _ => n - (intOf i).toNat)
          case atStart => exact ⟨0, Nat.zero_le _, hv0, rfl, hown, hbel0⟩
          case round =>
            clear hv0 hown hbel0
            obtain ⟨j, hj, hv, rfl, own, bel⟩ := hrel
            have hbs := bel.size
            by_cases hjn : j < n
            · obtain rfl := hv (by omega)
              clear hv
              have hb3 : ∃ b off, ao = some ⟨b, off, none⟩ ∧ b < w2.heap.size ∧ AtB w2 b off (fcells fs) := by
                rcases hc2 with h | h
                · exfalso
                  have := congrArg List.length h
                  rw [fcells, flat_length Fld.cells 11 (fun _ => rfl)] at this
                  simp at this
                  omega
                · exact h
              obtain ⟨b, off, rfl, hb, hcb⟩ := hb3
              have hi3 : ∃ b off, a3 = some ⟨b, off, none⟩ ∧ b < w2.heap.size ∧ AtB w2 b off (E.ix.map (.int .i64)) := by
                rcases has3' with h | h
                · exfalso
                  have := congrArg List.length h
                  rw [List.length_map, okE.ix_len, List.length_nil] at this
                  omega
                · exact h
              obtain ⟨bi, oi, rfl, hbi, hcbi⟩ := hi3
              have hbi' : bi < wr.heap.size := by omega
              have hjx : j < E.ix.length := by rw [okE.ix_len]; omega
              have hf := (fld_at hcb (k := j) (by omega)).below bel hb
              have hx := (hcbi.below bel hbi) j (.int .i64 E.ix[j]) (by simp [hjx])
              have hix := okI E.ix[j] (List.getElem_mem _)
              have hoj : Hid (outs.take (j + 1) = outs.take j ++ [layF st.ps fs[j] E.ix[j]]) := by
                show _ = _
                rw [List.take_succ_eq_append_getElem (by omega)]
                simp [houts]
              obtain ⟨f, hfe⟩ : ∃ f, f = fs[j] := ⟨_, rfl⟩
              obtain ⟨ix, hixe⟩ : ∃ ix, ix = E.ix[j] := ⟨_, rfl⟩
              have hfk : 0 ≤ f.t.kind := by rw [hfe]; exact hk0 _ (List.getElem_mem _)
              rw [← hfe] at hf hoj
              rw [← hixe] at hx hix hoj
              obtain ⟨c0, c1, c2, c3, c4, c5, c6, c7, c8, c9, c10⟩ := fld11 hf
              clear hf hfe hixe hcb hcbi hc2 has3' houts
              obtain ⟨s, hs⟩ : ∃ s, s = wd f.t.kind := ⟨_, rfl⟩
              have s0 : 0 ≤ s ∧ s ≤ 64 := by rw [hs]; exact wd_nonneg _
              have hwd : ∀ w, Calls Faeg.prog 32 #[.int .u8 f.t.kind] w fun e w' => e = .returned (.int .u8 s) ∧ w' = w := fun w => by
                rw [hs]; exact width_any f.t.kind w hfk
              have HSW : Hid (s = wd f.t.kind) := hs
              have HWD : Hid _ := hwd
              clear hs hwd
              by_cases hneg : ix < 0
              · have HPL : Hid (placeOf st.ps ix = Plc.zero) := by
                  show _ = _
                  unfold placeOf; rw [if_neg (by omega)]
                cases hu : f.union with
                | false =>
                  have hcs : Hid ((layF st.ps f ix).cells = [.string f.name, .int .u8 f.t.kind, .int .u8 f.t.elem, .int .u8 f.t.ref, .int .u8 f.t.nest, .int .u8 0, .int .u16 0, .int .u8 0, .bool false, .int .u64 f.dflt, .bool false]) := by
                    show _ = _
                    simp [layF, Fld.cells, HPL.out, hu, ← HSW.out, Plc.zero]
                  go_wp2_with (first | (go_at_call 32; refine (HWD.out _).mono ?_; rintro e w' ⟨rfl, hww⟩; rw [hww]; clear hww) | (at_builtin; refine wpList_app1 rfl (.tmp 96) (.tmp 98) 23 rfl w2.heap.size 34 i34 11 Faeg.underlying23 hi hz1 w2.heap.size j n (fcells (outs.take j)) [.string f.name, .int .u8 f.t.kind, .int .u8 f.t.elem, .int .u8 f.t.ref, .int .u8 f.t.nest, .int .u8 0, .int .u16 0, .int .u8 0, .bool false, .int .u64 f.dflt, .bool false] _ rfl rfl (by exact own.alloc _) (by simp) rfl rfl (by omega) ?_; intro w4 own4 grow4))
                  have own5 : w4.ownsRow w2.heap.size 34 11 (.slice (some ⟨w2.heap.size, 0, none⟩) (j + 1) n) (j + 1) (fcells (outs.take (j + 1))) := by
                    rw [hoj.out, fcells_snoc, hcs.out]; exact own4
                  have bel4 : Below w2.heap.size w2 w4 := Below.grown ((bel.alloc (by omega) _).alloc (by simp; omega) _) grow4 (by simp; omega) (by simp)
                  clear own own4 grow4 bel
                  go_roundw
                  case rel => exact ⟨j + 1, by omega, fun _ => rfl, by go_num, own5, bel4⟩
                  case measure => simp [intOf]; omega
                | true =>
                  by_cases hz : s = 0
                  · have hz' : (s != 0) = false := by simp [hz]
                    have hcs : Hid ((layF st.ps f ix).cells = [.string f.name, .int .u8 f.t.kind, .int .u8 f.t.elem, .int .u8 f.t.ref, .int .u8 f.t.nest, .int .u8 0, .int .u16 0, .int .u8 0, .bool false, .int .u64 f.dflt, .bool true]) := by
                      show _ = _
                      simp [layF, Fld.cells, HPL.out, hu, ← HSW.out, Plc.zero, hz]
                    go_wp2_with (first | (go_at_call 32; refine (HWD.out _).mono ?_; rintro e w' ⟨rfl, hww⟩; rw [hww]; clear hww) | (at_builtin; refine wpList_app1 rfl (.tmp 96) (.tmp 98) 23 rfl w2.heap.size 34 i34 11 Faeg.underlying23 hi hz1 w2.heap.size j n (fcells (outs.take j)) [.string f.name, .int .u8 f.t.kind, .int .u8 f.t.elem, .int .u8 f.t.ref, .int .u8 f.t.nest, .int .u8 0, .int .u16 0, .int .u8 0, .bool false, .int .u64 f.dflt, .bool true] _ rfl rfl (by exact own.alloc _) (by simp) rfl rfl (by omega) ?_; intro w4 own4 grow4))
                    have own5 : w4.ownsRow w2.heap.size 34 11 (.slice (some ⟨w2.heap.size, 0, none⟩) (j + 1) n) (j + 1) (fcells (outs.take (j + 1))) := by
                      rw [hoj.out, fcells_snoc, hcs.out]; exact own4
                    have bel4 : Below w2.heap.size w2 w4 := Below.grown ((bel.alloc (by omega) _).alloc (by simp; omega) _) grow4 (by simp; omega) (by simp)
                    clear own own4 grow4 bel
                    go_roundw
                    case rel => exact ⟨j + 1, by omega, fun _ => rfl, by go_num, own5, bel4⟩
                    case measure => simp [intOf]; omega
                  · have hz' : (s != 0) = true := by simp [hz]
                    have hcs : Hid ((layF st.ps f ix).cells = [.string f.name, .int .u8 f.t.kind, .int .u8 f.t.elem, .int .u8 f.t.ref, .int .u8 f.t.nest, .int .u8 s, .int .u16 (0), .int .u8 0, .bool false, .int .u64 f.dflt, .bool true]) := by
                      show _ = _
                      simp [layF, Fld.cells, HPL.out, hu, ← HSW.out, Plc.zero, hz, wrap_u16_zero]
                    have hsp : 0 < s := by omega
                    go_wp2_with (go_at_call 32; refine (HWD.out _).mono ?_; rintro e w' ⟨rfl, hww⟩; rw [hww]; clear hww)
                    go_region
                    go_wp2_with (at_builtin; refine wpList_app1d rfl (.tmp 96) (.tmp 98) 23 rfl w2.heap.size 34 i34 11 Faeg.underlying23 hi hz1 w2.heap.size j n (fcells (outs.take j)) [.string f.name, .int .u8 f.t.kind, .int .u8 f.t.elem, .int .u8 f.t.ref, .int .u8 f.t.nest, .int .u8 s, .int .u16 (0), .int .u8 0, .bool false, .int .u64 f.dflt, .bool true] _ rfl rfl (by exact own.alloc _) (by simp) rfl rfl (by omega) ?_; intro w4 own4 grow4)
                    have own5 : w4.ownsRow w2.heap.size 34 11 (.slice (some ⟨w2.heap.size, 0, none⟩) (j + 1) n) (j + 1) (fcells (outs.take (j + 1))) := by
                      rw [hoj.out, fcells_snoc, hcs.out]; exact own4
                    have bel4 : Below w2.heap.size w2 w4 := Below.grown ((bel.alloc (by omega) _).alloc (by simp; omega) _) grow4 (by simp; omega) (by simp)
                    clear own own4 grow4 bel
                    go_roundw
                    case rel => exact ⟨j + 1, by omega, fun _ => rfl, by go_num, own5, bel4⟩
                    case measure => simp [intOf]; omega
              · obtain ⟨m, rfl⟩ := Int.eq_ofNat_of_zero_le (show 0 ≤ ix by omega)
                have hm : m < E.ts.length := by omega
                have hmp : m < st.ps.length := by rw [okS.ps_len]; exact hm
                have hp3 : ∃ b off, ap = some ⟨b, off, none⟩ ∧ b < w2.heap.size ∧ AtB w2 b off (pcells st.ps) := by
                  rcases hasp with h | h
                  · exfalso
                    have := congrArg List.length h
                    rw [pcells, flat_length Plc.cells 4 (fun _ => rfl), List.length_nil] at this
                    omega
                  · exact h
                obtain ⟨bp, op, rfl, hbp, hcp⟩ := hp3
                have hbp' : bp < wr.heap.size := by omega
                have hp4 := (plc_at hcp hmp).below bel hbp
                have HPL0 : placeOf st.ps (m : Int) = st.ps[m] := by
                  unfold placeOf; rw [if_pos (by omega)]; simp [hmp]
                obtain ⟨p, hpe⟩ : ∃ p, p = st.ps[m] := ⟨_, rfl⟩
                rw [← hpe] at hp4 HPL0
                have HPL : Hid _ := HPL0
                obtain ⟨p0, p1, p2, p3⟩ := plc4 hp4
                clear hp4 hpe HPL0 hcp hasp hmp
                cases hu : f.union with
                | false =>
                  have hcs : Hid ((layF st.ps f (m : Int)).cells = [.string f.name, .int .u8 f.t.kind, .int .u8 f.t.elem, .int .u8 f.t.ref, .int .u8 f.t.nest, .int .u8 p.bits, .int .u16 p.off, .int .u8 p.slot, .bool p.isPtr, .int .u64 f.dflt, .bool false]) := by
                    show _ = _
                    simp [layF, Fld.cells, HPL.out, hu, ← HSW.out]
                  go_wp2_with (first | (go_at_call 32; refine (HWD.out _).mono ?_; rintro e w' ⟨rfl, hww⟩; rw [hww]; clear hww) | (at_builtin; refine wpList_app1 rfl (.tmp 96) (.tmp 98) 23 rfl w2.heap.size 34 i34 11 Faeg.underlying23 hi hz1 w2.heap.size j n (fcells (outs.take j)) [.string f.name, .int .u8 f.t.kind, .int .u8 f.t.elem, .int .u8 f.t.ref, .int .u8 f.t.nest, .int .u8 p.bits, .int .u16 p.off, .int .u8 p.slot, .bool p.isPtr, .int .u64 f.dflt, .bool false] _ rfl rfl (by exact own.alloc _) (by simp) rfl rfl (by omega) ?_; intro w4 own4 grow4))
                  have own5 : w4.ownsRow w2.heap.size 34 11 (.slice (some ⟨w2.heap.size, 0, none⟩) (j + 1) n) (j + 1) (fcells (outs.take (j + 1))) := by
                    rw [hoj.out, fcells_snoc, hcs.out]; exact own4
                  have bel4 : Below w2.heap.size w2 w4 := Below.grown ((bel.alloc (by omega) _).alloc (by simp; omega) _) grow4 (by simp; omega) (by simp)
                  clear own own4 grow4 bel
                  go_roundw
                  case rel => exact ⟨j + 1, by omega, fun _ => rfl, by go_num, own5, bel4⟩
                  case measure => simp [intOf]; omega
                | true =>
                  by_cases hz : s = 0
                  · have hz' : (s != 0) = false := by simp [hz]
                    have hcs : Hid ((layF st.ps f (m : Int)).cells = [.string f.name, .int .u8 f.t.kind, .int .u8 f.t.elem, .int .u8 f.t.ref, .int .u8 f.t.nest, .int .u8 p.bits, .int .u16 p.off, .int .u8 p.slot, .bool p.isPtr, .int .u64 f.dflt, .bool true]) := by
                      show _ = _
                      simp [layF, Fld.cells, HPL.out, hu, ← HSW.out, hz]
                    go_wp2_with (first | (go_at_call 32; refine (HWD.out _).mono ?_; rintro e w' ⟨rfl, hww⟩; rw [hww]; clear hww) | (at_builtin; refine wpList_app1 rfl (.tmp 96) (.tmp 98) 23 rfl w2.heap.size 34 i34 11 Faeg.underlying23 hi hz1 w2.heap.size j n (fcells (outs.take j)) [.string f.name, .int .u8 f.t.kind, .int .u8 f.t.elem, .int .u8 f.t.ref, .int .u8 f.t.nest, .int .u8 p.bits, .int .u16 p.off, .int .u8 p.slot, .bool p.isPtr, .int .u64 f.dflt, .bool true] _ rfl rfl (by exact own.alloc _) (by simp) rfl rfl (by omega) ?_; intro w4 own4 grow4))
                    have own5 : w4.ownsRow w2.heap.size 34 11 (.slice (some ⟨w2.heap.size, 0, none⟩) (j + 1) n) (j + 1) (fcells (outs.take (j + 1))) := by
                      rw [hoj.out, fcells_snoc, hcs.out]; exact own4
                    have bel4 : Below w2.heap.size w2 w4 := Below.grown ((bel.alloc (by omega) _).alloc (by simp; omega) _) grow4 (by simp; omega) (by simp)
                    clear own own4 grow4 bel
                    go_roundw
                    case rel => exact ⟨j + 1, by omega, fun _ => rfl, by go_num, own5, bel4⟩
                    case measure => simp [intOf]; omega
                  · have hz' : (s != 0) = true := by simp [hz]
                    have hcs : Hid ((layF st.ps f (m : Int)).cells = [.string f.name, .int .u8 f.t.kind, .int .u8 f.t.elem, .int .u8 f.t.ref, .int .u8 f.t.nest, .int .u8 s, .int .u16 (IntKind.u16.wrap (p.off * IntKind.u16.wrap (64 / s))), .int .u8 0, .bool false, .int .u64 f.dflt, .bool true]) := by
                      show _ = _
                      simp [layF, Fld.cells, HPL.out, hu, ← HSW.out, hz]
                    have hsp : 0 < s := by omega
                    go_wp2_with (go_at_call 32; refine (HWD.out _).mono ?_; rintro e w' ⟨rfl, hww⟩; rw [hww]; clear hww)
                    go_region
                    go_wp2_with (at_builtin; refine wpList_app1d rfl (.tmp 96) (.tmp 98) 23 rfl w2.heap.size 34 i34 11 Faeg.underlying23 hi hz1 w2.heap.size j n (fcells (outs.take j)) [.string f.name, .int .u8 f.t.kind, .int .u8 f.t.elem, .int .u8 f.t.ref, .int .u8 f.t.nest, .int .u8 s, .int .u16 (IntKind.u16.wrap (p.off * IntKind.u16.wrap (64 / s))), .int .u8 0, .bool false, .int .u64 f.dflt, .bool true] _ rfl rfl (by exact own.alloc _) (by simp) rfl rfl (by omega) ?_; intro w4 own4 grow4)
                    have own5 : w4.ownsRow w2.heap.size 34 11 (.slice (some ⟨w2.heap.size, 0, none⟩) (j + 1) n) (j + 1) (fcells (outs.take (j + 1))) := by
                      rw [hoj.out, fcells_snoc, hcs.out]; exact own4
                    have bel4 : Below w2.heap.size w2 w4 := Below.grown ((bel.alloc (by omega) _).alloc (by simp; omega) _) grow4 (by simp; omega) (by simp)
                    clear own own4 grow4 bel
                    go_roundw
                    case rel => exact ⟨j + 1, by omega, fun _ => rfl, by go_num, own5, bel4⟩
                    case measure => simp [intOf]; omega
            · clear hv
              have htag3 := htag2.below bel (by omega)
              have hu3 := hu2.below bel (by omega)
              obtain ⟨⟨r0, r1, r2⟩, _⟩ := rooms0 hu3
              obtain ⟨⟨t0, t1, t2, t3⟩, q0, q1, q2, q3⟩ := plc_own htag3
              have bel4 : Below w.heap.size w wr := bel3.trans (bel.mono (by omega))
              have hws : w.heap.size < wr.heap.size := by omega
              have hjn' : j = n := by omega
              subst hjn'
              rw [List.take_of_length_le (by omega)] at own
              clear t0 t1 t2 t3
              obtain ⟨⟨t0, t1, t2, t3⟩, _⟩ := plc_own htag3
              go_upto_if 103 with fail
              go_cut [] (fun wc => Own wc w.heap.size 27 (placeOf st.ps E.tag).cells ∧ wc.ownsRow w2.heap.size 34 11 u2 j (fcells outs) ∧ Below w.heap.size w wc)
              case first =>
                by_cases hneg : E.tag < 0
                · have hd : decide (0 ≤ E.tag) = false := by simp; omega
                  have hpl : placeOf st.ps E.tag = Plc.zero := by unfold placeOf; rw [if_neg (by omega)]
                  have HPL : Hid _ := hpl
                  clear hpl
                  go_wp2_with fail
                  go_meet
                  rw [HPL.out]
                  exact ⟨htag3, own, bel4⟩
                · obtain ⟨m, hm0⟩ := Int.eq_ofNat_of_zero_le (show 0 ≤ E.tag by omega)
                  have hm : m < E.ts.length := by have := okE.tag_le; omega
                  have hmp : m < st.ps.length := by rw [okS.ps_len]; exact hm
                  have hp3 : ∃ b off, ap = some ⟨b, off, none⟩ ∧ b < w2.heap.size ∧ AtB w2 b off (pcells st.ps) := by
                    rcases hasp with h | h
                    · exfalso
                      have := congrArg List.length h
                      rw [pcells, flat_length Plc.cells 4 (fun _ => rfl), List.length_nil] at this
                      omega
                    · exact h
                  obtain ⟨bp, op, rfl, hbp, hcp⟩ := hp3
                  have hp4 := (plc_at hcp hmp).below bel hbp
                  have HPL0 : placeOf st.ps E.tag = st.ps[m] := by
                    unfold placeOf; rw [if_pos (by omega)]; simp [hmp, hm0]
                  obtain ⟨p, hpe⟩ : ∃ p, p = st.ps[m] := ⟨_, rfl⟩
                  rw [← hpe] at hp4 HPL0
                  have HPL : Hid _ := HPL0
                  obtain ⟨p0, p1, p2, p3⟩ := plc4 hp4
                  rw [hm0]
                  rw [hm0] at r0
                  clear hp4 hpe HPL0 hcp hasp hmp hu3 hu2 hm0 hneg
                  have hd : decide (0 ≤ (m : Int)) = true := by simp
                  go_wp2_with fail
                  go_meet
                  refine ⟨?_, ?_, ?_⟩
                  · rw [HPL.out]; exact own_put4 htag3
                  · exact ownsRow_setCell_below (ownsRow_setCell_below (ownsRow_setCell_below (ownsRow_setCell_below own (by simp; omega) _) (by simp; omega) _) (by simp; omega) _) (by simp; omega) _
                  · exact below_put4 bel4 (Nat.le_refl _)
              case rest =>
                obtain ⟨T, own', bel5⟩ := hcut
                clear htag3 own bel4 q0 q1 q2 q3 t0 t1 t2 t3 r0 r1 r2
                obtain ⟨tg, htg⟩ : ∃ tg, tg = placeOf st.ps E.tag := ⟨_, rfl⟩
                rw [← htg] at T hst
                clear htg
                obtain ⟨⟨t0, t1, t2, t3⟩, q0, q1, q2, q3⟩ := plc_own T
                have T' := own_put4 (u0 := .int .u8 tg.bits) (u1 := .int .u16 tg.off) (u2 := .int .u8 tg.slot) (u3 := .bool tg.isPtr) T
                have B' := below_put4 (b := w.heap.size) (u0 := .int .u8 tg.bits) (u1 := .int .u16 tg.off) (u2 := .int .u8 tg.slot) (u3 := .bool tg.isPtr) bel5 (Nat.le_refl _)
                have O' := ownsRow_setCell_below (ownsRow_setCell_below (ownsRow_setCell_below (ownsRow_setCell_below own' (a := ⟨w.heap.size, 0, none⟩) (by simp; omega) (.int .u8 tg.bits)) (a := ⟨w.heap.size, 1, none⟩) (by simp; omega) (.int .u16 tg.off)) (a := ⟨w.heap.size, 2, none⟩) (by simp; omega) (.int .u8 tg.slot)) (a := ⟨w.heap.size, 3, none⟩) (by simp; omega) (.bool tg.isPtr)
                go_wp2_with fail
                go_region
                all_goals
                  go_wp2_with fail
                  revert T' B' O'
                  generalize (((wc.setCell ⟨w.heap.size, 0, none⟩ (.int .u8 tg.bits)).setCell ⟨w.heap.size, 1, none⟩ (.int .u16 tg.off)).setCell ⟨w.heap.size, 2, none⟩ (.int .u8 tg.slot)).setCell ⟨w.heap.size, 3, none⟩ (.bool tg.isPtr) = X
                  intro T' B' O'
                  obtain ⟨⟨p0, p1, p2, p3⟩, _⟩ := plc_own (p := tg) T'
                  refine bodyPost_ret (v := .tuple #[u2, .agg #[.int .u8 tg.bits, .int .u16 tg.off, .int .u8 tg.slot, .bool tg.isPtr], .int .u8 st.data, .int .u8 st.ptrs, .bool true]) (by simp [results, Faeg.results12, go_sem, p0, p1, p2, p3]) rfl ?_
                  refine RPost.yes hst.out B'.drew ?_
                  simp only
                  rw [← houts, hn]
                  exact ownsRow_base O' (by omega)
end Go.Proofs.Ygcfae
