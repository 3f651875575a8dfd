import Derived.Test.YgcfaeLay
namespace Go.Proofs.Ygcfae
open Go.RowKit
theorem info27 : (Faeg.prog.info? 27).map (fun i => (i.zero, i.size, i.bytes)) = some (some (.agg #[.int .u8 0, .int .u16 0, .int .u8 0, .bool false]), 4, 6) := by kernel_rfl

theorem slice_used (a : Addr) (d : Nat) (hd : d ≤ 8) (w : World) :
    (Instr.sliceAt 133 (.pointer (some a)) none (some (.int .u8 d)) (some (.int .u8 d))).run Faeg.prog w = .ok (.slice (some a) d d) w := by
  have hu : Faeg.prog.underlying 133 = some (.array 8 32) := by kernel_rfl
  have hs : ∀ w, (sizeOf 32).run Faeg.prog w = .ok 1 w := fun w => by kernel_rfl
  simp [Instr.sliceAt, Instr.sureAddr, run_underlying hu, Instr.sliceBounds, run_sliceBound, hs, show (d : Int) ≤ 8 by omega, Addr.add]

/-- what the loop of schema.Layout holds to -/
structure SRel (ts : List Typ) (n : Nat) (w : World) (u : Nat) (k : Nat) (st : LS) (wr : World) : Prop where
  k_le : k ≤ n
  ok : OkS st k
  own : wr.ownsRow w.heap.size 27 4 (.slice (some ⟨w.heap.size, 0, none⟩) k n) k (pcells st.ps)
  used : Own wr u 133 (st.used.map (.int .u64))
  below : Below w.heap.size w wr
  run : Hid (sRun (ts.map (·.kind)) LS.start = sRun ((ts.drop k).map (·.kind)) st)

def SPost (ts : List Typ) (w : World) (e : Ending) (w' : World) : Prop :=
  Below w.heap.size w w' ∧
  match sLay (ts.map (·.kind)) with
  | none => e = .returned (.tuple #[.slice none 0 0, .int .u8 0, .int .u8 0, .bool false])
  | some st => ∃ v, e = .returned (.tuple #[v, .int .u8 st.data, .int .u8 st.ptrs, .bool true]) ∧ w'.ownsRow w.heap.size 27 4 v ts.length (pcells st.ps)

theorem SPost.no {ts : List Typ} {w w' : World} (h : sLay (ts.map (·.kind)) = none) (hb : Below w.heap.size w w') :
    SPost ts w (.returned (.tuple #[.slice none 0 0, .int .u8 0, .int .u8 0, .bool false])) w' := by
  unfold SPost; rw [h]; exact ⟨hb, rfl⟩

theorem SPost.yes {ts : List Typ} {w w' : World} {st : LS} {v : Value} (h : sLay (ts.map (·.kind)) = some st) (hb : Below w.heap.size w w')
    (ho : w'.ownsRow w.heap.size 27 4 v ts.length (pcells st.ps)) :
    SPost ts w (.returned (.tuple #[v, .int .u8 st.data, .int .u8 st.ptrs, .bool true])) w' := by
  unfold SPost; rw [h]; exact ⟨hb, v, rfl, ho⟩

theorem sLay_short {ts : List Typ} (h : ts.length ≤ 16) : sLay (ts.map (·.kind)) = sRun (ts.map (·.kind)) LS.start := by
  unfold sLay; rw [if_neg (by simpa using h)]

theorem sRun_at {ts : List Typ} {k : Nat} {st : LS} (h : k < ts.length) :
    sRun ((ts.drop k).map (·.kind)) st = match sStep st ts[k].kind with | none => none | some st' => sRun ((ts.drop (k + 1)).map (·.kind)) st' := by
  rw [List.drop_eq_getElem_cons h]; rfl

theorem SRel.next {ts : List Typ} {n : Nat} {w : World} {u k : Nat} {st st' : LS} {wr w2 : World} (R : SRel ts n w u k st wr) (hn : ts.length = n) (hk : k < n)
    (hs : sStep st (ts[k]'(by omega)).kind = some st')
    (own : w2.ownsRow w.heap.size 27 4 (.slice (some ⟨w.heap.size, 0, none⟩) (k + 1) n) (k + 1) (pcells st'.ps))
    (used : Own w2 u 133 (st'.used.map (.int .u64))) (below : Below w.heap.size w w2) : SRel ts n w u (k + 1) st' w2 :=
  ⟨hk, sStep_ok R.ok hs, own, used, below, by
    show _ = _
    rw [R.run.out, sRun_at (by omega), hs]⟩

theorem SRel.fail {ts : List Typ} {n : Nat} {w : World} {u k : Nat} {st : LS} {wr w2 : World} (R : SRel ts n w u k st wr) (hn : ts.length = n) (hl : n ≤ 16) (hk : k < n)
    (hs : sStep st (ts[k]'(by omega)).kind = none) (below : Below w.heap.size w w2) :
    SPost ts w (.returned (.tuple #[.slice none 0 0, .int .u8 0, .int .u8 0, .bool false])) w2 := by
  refine SPost.no ?_ below
  rw [sLay_short (by omega), R.run.out, sRun_at (by omega), hs]

theorem set_used {us : List Int} {j : Nat} {x : Int} : (us.map (Value.int .u64)).set j (.int .u64 x) = (us.set j x).map (.int .u64) := by
  rw [List.map_set]

theorem pcells_snoc (ps : List Plc) (p : Plc) : pcells (ps ++ [p]) = pcells ps ++ p.cells := by simp [pcells]

/-- what a scalar's store and append leave -/
theorem SRel.scalar {ts : List Typ} {n : Nat} {w : World} {u k : Nat} {st st1 : LS} {wr w2 : World} (R : SRel ts n w u k st wr) (hn : ts.length = n) (hk : k < n) (hu : w.heap.size < u)
    {a : Nat} {kd s : Int} (hkd : wd kd = s) (h1 : st1.ps = st.ps) (h2 : st1.used = st.used) (hs : sStep st (ts[k]'(by omega)).kind = some (st1.put kd a)) {o1 o2 : Obj}
    (own : w2.ownsRow w.heap.size 27 4 (.slice (some ⟨w.heap.size, 0, none⟩) (k + 1) n) (k + 1) (pcells st.ps ++ [.int .u8 s, .int .u16 ((a : Int) / s), .int .u8 0, .bool false]))
    (hg : (((wr.setCell ⟨u, a / 64, none⟩ (.int .u64 (orAt (st.used.getD (a / 64) 0) s a))).alloc o1).alloc o2).grownBy w2 (some w.heap.size)) :
    SRel ts n w u (k + 1) (st1.put kd a) w2 := by
  subst hkd
  have hul := R.used.lt
  have hwb := R.below.size
  refine R.next hn hk hs ?_ ?_ ?_
  · simp only [LS.put, h1]
    rw [pcells_snoc]; exact own
  · simp only [LS.put, h2]
    have := (((R.used.set (a / 64) (.int .u64 (orAt (st.used.getD (a / 64) 0) (wd kd) a))).alloc o1).alloc o2).grown hg (by simp; omega)
    rwa [set_used] at this
  · refine Below.grown (((R.below.setCell (p := ⟨u, a / 64, none⟩) (by simp; omega) _).alloc ?_ _).alloc ?_ _) hg ?_ (by simp)
    all_goals try simp
    all_goals omega

theorem SRel.ptr {ts : List Typ} {n : Nat} {w : World} {u k : Nat} {st : LS} {wr w2 : World} (R : SRel ts n w u k st wr) (hn : ts.length = n) (hk : k < n) (hu : w.heap.size < u)
    (hs : sStep st (ts[k]'(by omega)).kind = some { st with ps := st.ps ++ [⟨0, 0, st.ptrs, true⟩], ptrs := st.ptrs + 1 }) {o1 o2 : Obj}
    (own : w2.ownsRow w.heap.size 27 4 (.slice (some ⟨w.heap.size, 0, none⟩) (k + 1) n) (k + 1) (pcells st.ps ++ [.int .u8 0, .int .u16 0, .int .u8 (st.ptrs : Int), .bool true]))
    (hg : ((wr.alloc o1).alloc o2).grownBy w2 (some w.heap.size)) :
    SRel ts n w u (k + 1) { st with ps := st.ps ++ [⟨0, 0, st.ptrs, true⟩], ptrs := st.ptrs + 1 } w2 := by
  have hul := R.used.lt
  have hwb := R.below.size
  refine R.next hn hk hs ?_ ?_ ?_
  · simp only
    rw [pcells_snoc]; exact own
  · exact ((R.used.alloc o1).alloc o2).grown hg (by simp; omega)
  · refine Below.grown ((R.below.alloc ?_ _).alloc ?_ _) hg ?_ (by simp)
    all_goals try simp
    all_goals omega

theorem used_cell {wr : World} {u : Nat} {us : List Int} (h : Own wr u 133 (us.map (.int .u64))) {j : Nat} (hj : j < us.length) :
    wr.cell? ⟨u, j, none⟩ = some (.int .u64 (us.getD j 0)) := h.cell (by simp [List.getElem?_eq_getElem hj])

theorem used_take {wr : World} {u : Nat} {us : List Int} (h : Own wr u 133 (us.map (.int .u64))) (d : Nat) (o : Obj) :
    AtB (wr.alloc o) u 0 ((us.take d).map (.int .u64)) := by
  refine fun j x hj => (h.alloc o).at j x ?_
  rw [List.map_take, List.getElem?_take] at hj
  split at hj
  · exact hj
  · cases hj

set_option maxRecDepth 100000
set_option maxHeartbeats 1000000 in
theorem sLayout_some (ts : List Typ) (b off n cap : Nat) (w : World) (hn : ts.length = n) (hl : n ≤ 16) (h0 : 0 < n) (hb : b < w.heap.size) (hc : AtB w b off (tcells ts))
    (hk0 : ∀ t ∈ ts, 0 ≤ t.kind) :
    Calls Faeg.prog 31 #[.slice (some ⟨b, off, none⟩) n cap] w (SPost ts w) := by
  obtain ⟨i27, hi, hz0, hz1, hz2⟩ := info_parts info27
  have hd16 : decide (16 < (n : Int)) = false := by simp; omega
  go_enter Faeg.func31, Faeg.ntmps31
  go_wp2_with (first | (at_make; refine wpList_make_own _ rfl _ _ 102 rfl w.heap.size 27 i27 _ 4 Faeg.underlying102 hi hz0 hz1 .i64 .i64 _ n rfl rfl rfl (by rw [hz2]; omega) (by unfold maxLen; omega) (Nat.le_refl _) ?_; intro w1 hown hgrow))
  have hw1 : w.heap.size < w1.heap.size := (hown.lt _ rfl).2
  go_loopw [2, 3, 4, 23] (fun v d p i wr => ∃ (k : Nat) (st : LS), v = .slice (some ⟨w.heap.size, 0, none⟩) k n ∧ d = .int .u8 st.data ∧ p = .int .u8 st.ptrs ∧ i = .int .i64 k ∧ SRel ts n w w1.heap.size k st wr) (fun _ _ _ i _ => n - (intOf i).toNat)
  case atStart =>
    refine ⟨0, LS.start, rfl, rfl, rfl, rfl, ⟨Nat.zero_le _, okS_start, ?_, Own.new _ _ _, ?_, rfl⟩⟩
    · exact hown.alloc _
    · exact ((Below.refl _ w).grown hgrow (Nat.le_refl _) (by simp)).alloc (Nat.le_of_lt hw1) _
  case round =>
    obtain ⟨k, st, rfl, rfl, rfl, rfl, R⟩ := hrel
    clear hown hgrow
    by_cases hlt : k < n
    · have hf := (typ_at hc (k := k) (by omega)).below R.below hb
      have c0 := hf 0 _ rfl
      have c1 := hf 1 _ rfl
      have c2 := hf 2 _ rfl
      have c3 := hf 3 _ rfl
      simp only [Nat.add_zero] at c0
      clear hf
      have h0k : 0 ≤ ts[k].kind := hk0 _ (List.getElem_mem _)
      obtain ⟨t, hte⟩ : ∃ t, t = ts[k] := ⟨_, rfl⟩
      rw [← hte] at c0 c1 c2 c3 h0k
      have HT : Hid (t = ts[k]) := hte
      clear hte
      have d1 := R.ok.data_le
      have d2 := R.ok.ptrs_le
      have hwb := R.below.size
      have hu : w.heap.size < w1.heap.size := hw1
      obtain ⟨s, hs⟩ : ∃ s, s = wd t.kind := ⟨_, rfl⟩
      have s0 : 0 ≤ s ∧ s ≤ 64 := by rw [hs]; exact wd_nonneg _
      have hwd : ∀ w, Calls Faeg.prog 46 #[.int .u8 t.kind] w fun e w' => e = .returned (.int .u8 s) ∧ w' = w := fun w => by
        rw [hs]; exact widthOf_any t.kind w h0k
      have HS : Hid (s = wd t.kind) := hs
      have HWD : Hid _ := hwd
      clear hs hwd
      by_cases h13 : 13 < t.kind
      · have hst : Hid (sStep st ts[k].kind = none) := by
          show _ = _
          rw [← HT.out]; simp [sStep, h13]
        go_wp2_with fail
        refine bodyPost_ret (v := .tuple #[.slice none 0 0, .int .u8 0, .int .u8 0, .bool false]) (by simp [results, Faeg.results31, go_sem]) rfl ?_
        exact R.fail hn hl hlt hst.out (R.below.alloc (by omega) _)
      by_cases hz : s = 0
      · have hz' : (s == 0) = true := by simp [hz]
        by_cases hp8 : st.ptrs = 8
        · have hst : Hid (sStep st ts[k].kind = none) := by
            show _ = _
            rw [← HT.out]; simp [sStep, h13, ← HS.out, hz, hp8]
          have hp8' : ((st.ptrs : Int) == 8) = true := by simp [hp8]
          clear hp8 hz
          go_wp2_with (first | (go_at_call 46; refine (HWD.out _).mono ?_; rintro e w' ⟨rfl, rfl⟩))
          refine bodyPost_ret (v := .tuple #[.slice none 0 0, .int .u8 0, .int .u8 0, .bool false]) (by simp [results, Faeg.results31, go_sem]) rfl ?_
          exact R.fail hn hl hlt hst.out (R.below.alloc (by omega) _)
        · have hst : Hid (sStep st ts[k].kind = some { st with ps := st.ps ++ [⟨0, 0, st.ptrs, true⟩], ptrs := st.ptrs + 1 }) := by
            show _ = _
            rw [← HT.out]; simp [sStep, h13, ← HS.out, hz, hp8]
          have hp8' : ((st.ptrs : Int) == 8) = false := by simp; omega
          have hp9 : st.ptrs < 8 := by omega
          clear hp8 hz
          go_wp2_with (first | (go_at_call 46; refine (HWD.out _).mono ?_; rintro e w' ⟨rfl, rfl⟩) | (at_builtin; refine wpList_app1 rfl (.tmp 37) (.tmp 40) 102 rfl w.heap.size 27 i27 4 Faeg.underlying102 hi hz1 w.heap.size k n (pcells st.ps) [.int .u8 0, .int .u16 0, .int .u8 (st.ptrs : Int), .bool true] _ rfl rfl (R.own.alloc _) (by simp) rfl rfl (by omega) ?_; intro w2 own2 grow2))
          have R2 := R.ptr hn hlt hu hst.out own2 grow2
          clear R own2 grow2
          go_roundw
          case rel => exact ⟨k + 1, { st with ps := st.ps ++ [⟨0, 0, st.ptrs, true⟩], ptrs := st.ptrs + 1 }, rfl, rfl, (by go_num : Value.int IntKind.u8 ((st.ptrs : Int) + 1) = .int .u8 ((st.ptrs + 1 : Nat) : Int)), by go_num, R2⟩
          case measure => simp [intOf]; omega
      · have hz' : (s == 0) = false := by simp [hz]
        have hsp : 0 < s := by omega
        have hul := R.used.lt
        have hsl := slice_used ⟨w1.heap.size, 0, none⟩ st.data d1
        have hlen : (st.used.take st.data).length = st.data := by rw [List.length_take, R.ok.used_len]; omega
        have HL : Hid _ := hlen
        clear hlen
        cases hr : fitGo s (st.used.take st.data) 0 with
        | none =>
          by_cases hd8 : st.data = 8
          · have hst : Hid (sStep st ts[k].kind = none) := by
              show _ = _
              rw [← HT.out]; simp only [sStep, h13, ← HS.out, hz, hr]; simp [hd8]
            have hd8' : ((st.data : Int) == 8) = true := by simp [hd8]
            have HR : Hid _ := hr
            clear hr hz hd8
            go_wp2_with (first | (go_at_call 46; refine (HWD.out _).mono ?_; rintro e w' ⟨rfl, rfl⟩) | (go_at_call 47; refine (fit_none HR.out HL.out (by omega) hsp s0.2 (used_take R.used _ _)).mono ?_; rintro e w' ⟨rfl, rfl⟩))
            refine bodyPost_ret (v := .tuple #[.slice none 0 0, .int .u8 0, .int .u8 0, .bool false]) (by simp [results, Faeg.results31, go_sem]) rfl ?_
            exact R.fail hn hl hlt hst.out (R.below.alloc (by omega) _)
          · have hst : Hid (sStep st ts[k].kind = some ({ st with data := st.data + 1 }.put t.kind (st.data * 64))) := by
              show _ = _
              rw [← HT.out]; simp only [sStep, h13, ← HS.out, hz, hr]; simp [hd8]
            have hd8' : ((st.data : Int) == 8) = false := by simp; omega
            have hd9 : st.data < 8 := by omega
            have HR : Hid _ := hr
            clear hr hz hd8
            have hj : st.data * 64 / 64 < st.used.length := by rw [R.ok.used_len]; omega
            have hcu := used_cell R.used hj
            have hcf : wr.frozen? ⟨w1.heap.size, st.data * 64 / 64, none⟩ = false := R.used.free _
            have hq := div_bd (a := st.data * 64) hsp (by omega)
            obtain ⟨a, ha⟩ : ∃ a, a = st.data * 64 := ⟨_, rfl⟩
            have haI : (st.data : Int) * 64 = (a : Int) := by omega
            have hal : a < 512 := by omega
            rw [← ha] at hcu hcf hq hst
            clear hj ha
            go_wp2_with (first | (go_at_call 46; refine (HWD.out _).mono ?_; rintro e w' ⟨rfl, rfl⟩) | (go_at_call 47; refine (fit_none HR.out HL.out (by omega) hsp s0.2 (used_take R.used _ _)).mono ?_; rintro e w' ⟨rfl, rfl⟩) | (at_builtin; refine wpList_app1 rfl (.tmp 73) (.tmp 80) 102 rfl w.heap.size 27 i27 4 Faeg.underlying102 hi hz1 w.heap.size k n (pcells st.ps) [.int .u8 s, .int .u16 ((a : Int) / s), .int .u8 0, .bool false] _ rfl rfl ((ownsRow_setCell_other R.own (by simp [Value.ownBlock]; omega) _).alloc _) (by simp) rfl rfl (by omega) ?_; intro w2 own2 grow2))
            have R2 := R.scalar hn hlt hu HS.out.symm (st1 := { st with data := st.data + 1 }) rfl rfl hst.out own2 (by simpa [orAt] using grow2)
            clear R own2 grow2 hcu hcf
            go_roundw
            case rel => exact ⟨k + 1, { st with data := st.data + 1 }.put t.kind a, rfl, (by go_num : Value.int IntKind.u8 ((st.data : Int) + 1) = .int .u8 ((st.data + 1 : Nat) : Int)), rfl, by go_num, R2⟩
            case measure => simp [intOf]; omega
        | some a =>
          have hst : Hid (sStep st ts[k].kind = some (st.put t.kind a)) := by
            show _ = _
            rw [← HT.out]; simp [sStep, h13, ← HS.out, hz, hr]
          have hal : a < 512 := by
            have := (fitGo_lt hr).2
            simp only [List.length_take] at this
            omega
          have HR : Hid _ := hr
          clear hr hz
          have hj : a / 64 < st.used.length := by rw [R.ok.used_len]; omega
          have hcu := used_cell R.used hj
          have hcf : wr.frozen? ⟨w1.heap.size, a / 64, none⟩ = false := R.used.free _
          have hq := div_bd hsp hal
          clear hj
          go_wp2_with (first | (go_at_call 46; refine (HWD.out _).mono ?_; rintro e w' ⟨rfl, rfl⟩) | (go_at_call 47; refine (fit_some HR.out HL.out (by omega) hsp s0.2 (used_take R.used _ _)).mono ?_; rintro e w' ⟨rfl, rfl⟩) | (at_builtin; refine wpList_app1 rfl (.tmp 73) (.tmp 80) 102 rfl w.heap.size 27 i27 4 Faeg.underlying102 hi hz1 w.heap.size k n (pcells st.ps) [.int .u8 s, .int .u16 ((a : Int) / s), .int .u8 0, .bool false] _ rfl rfl ((ownsRow_setCell_other R.own (by simp [Value.ownBlock]; omega) _).alloc _) (by simp) rfl rfl (by omega) ?_; intro w2 own2 grow2))
          have R2 := R.scalar hn hlt hu HS.out.symm rfl rfl hst.out own2 (by simpa [orAt] using grow2)
          clear R own2 grow2 hcu hcf
          go_roundw
          case rel => exact ⟨k + 1, st.put t.kind a, rfl, rfl, rfl, by go_num, R2⟩
          case measure => simp [intOf]; omega
    · have hfin : Hid (sLay (ts.map (·.kind)) = some st) := by
        show _ = _
        rw [sLay_short (by omega), R.run.out, List.drop_eq_nil_of_le (by omega)]; rfl
      have hkn : k = n := by have := R.k_le; omega
      subst hkn
      go_wp2
      refine bodyPost_ret (v := .tuple #[.slice (some ⟨w.heap.size, 0, none⟩) k k, .int .u8 st.data, .int .u8 st.ptrs, .bool true]) (by simp [results, Faeg.results31, go_sem]) rfl ?_
      exact SPost.yes hfin.out R.below (by rw [hn]; exact R.own)
end Go.Proofs.Ygcfae
