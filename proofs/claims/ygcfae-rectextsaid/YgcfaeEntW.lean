import Derived.Test.YgcfaeEnt
namespace Go.Proofs.Ygcfae
open Go.RowKit
theorem info31 : (Faeg.prog.info? 31).map (fun i => (i.zero, i.size, i.bytes)) = some (some (.agg #[.int .u8 0, .int .u8 0, .int .u8 0, .int .u8 0]), 4, 4) := by kernel_rfl
theorem info3 : (Faeg.prog.info? 3).map (fun i => (i.zero, i.size, i.bytes)) = some (some (.int .i64 0), 1, 8) := by kernel_rfl

theorem make96 (n : Nat) (hn : n ≤ 100) (w : World) : (Instr.makeSlice 96 (.int .i64 0) (.int .i64 ((n : Int) + 3))).run Faeg.prog w =
    .ok (.slice (some ⟨w.heap.size, 0, none⟩) 0 (n + 3)) (w.alloc (.cells (madeCells #[.int .u8 0, .int .u8 0, .int .u8 0, .int .u8 0] ((n + 3) * 4)) 31)) := by
  obtain ⟨i, hi, hz0, hz1, hz2⟩ := info_parts info31
  have := run_make (P := Faeg.prog) w 96 31 i _ Faeg.underlying96 hi hz0 .i64 .i64 0 ((n : Int) + 3) (by omega) (by omega) (by rw [hz2]; omega) (by omega)
  rw [hz1] at this
  exact this

theorem make97 (n : Nat) (hn : n ≤ 100) (w : World) : (Instr.makeSlice 97 (.int .i64 0) (.int .i64 (n : Int))).run Faeg.prog w =
    .ok (.slice (some ⟨w.heap.size, 0, none⟩) 0 n) (w.alloc (.cells (madeCells #[.int .i64 0] n) 3)) := by
  obtain ⟨i, hi, hz0, hz1, hz2⟩ := info_parts info3
  have := run_make (P := Faeg.prog) w 97 3 i _ Faeg.underlying97 hi hz0 .i64 .i64 0 (n : Int) (by omega) (by omega) (by rw [hz2]; omega) (by omega)
  rw [hz1] at this
  simpa [Value.cells] using this

structure ERel (fs : List Fld) (w : World) (g2 g3 n k : Nat) (st : ES) (wr : World) : Prop where
  k_le : k ≤ n
  ok : OkE st k
  mem : EMem w g2 g3 n st k wr
  run : Hid (eRun fs ES.start = eRun (fs.drop k) st)

def EPost (fs : List Fld) (w : World) (e : Ending) (w' : World) : Prop :=
  ∃ v2 v3, e = .returned (.tuple #[v2, v3, .agg #[.int .i64 (eRun fs ES.start).tag, .int .i64 (eRun fs ES.start).word, .int .i64 (eRun fs ES.start).slot]]) ∧
    w'.ownsRow (w.heap.size + 1) 31 4 v2 (eRun fs ES.start).ts.length (tcells ((eRun fs ES.start).ts.map tk)) ∧
    w'.ownsRow (w.heap.size + 1) 3 1 v3 fs.length ((eRun fs ES.start).ix.map (.int .i64)) ∧ Below w.heap.size w w'

theorem made0 {X : World} {base : Nat} {e : TypeId} {size : Nat} {cur : Array Value} {cap g : Nat} (hg : g = X.heap.size) (hb : base ≤ g) (hm : cap ≤ maxLen) (hs : cur.size = cap * size) :
    (X.alloc (.cells cur e)).ownsRow base e size (.slice (some ⟨g, 0, none⟩) 0 cap) 0 [] := by
  subst hg; exact World.ownsRow_made X cur cap hb hm hs

theorem emem_start1 (w : World) (n : Nat) (hn : n ≤ 16) (T I : Array Value) (hT : T.size = (n + 3) * 4) (hI : I.size = n) :
    EMem w (w.heap.size + 1) (w.heap.size + 1 + 1) n ES.start 0 (((w.alloc (.cells #[.int .i64 (-1), .int .i64 (-1), .int .i64 (-1)] 99)).alloc (.cells T 31)).alloc (.cells I 3)).drew := by
  refine ⟨by omega, by omega, by omega, ?_, ?_, ?_, ?_⟩
  · exact ((Own.new w _ 99).alloc _).alloc _
  · exact (made0 (by simp) (by omega) (by unfold maxLen; omega) hT).alloc _
  · exact made0 (by simp) (by omega) (by unfold maxLen; omega) (by simp [hI])
  · exact ((((Below.refl _ w).alloc (Nat.le_refl _) _).alloc (by simp) _).alloc (by simp; omega) _).drew

theorem emem_start2 (w : World) (n : Nat) (hn : n ≤ 16) (T I : Array Value) (hT : T.size = (n + 3) * 4) (hI : I.size = n) :
    EMem w (w.heap.size + 1 + 1) (w.heap.size + 1) n ES.start 0 (((w.alloc (.cells #[.int .i64 (-1), .int .i64 (-1), .int .i64 (-1)] 99)).alloc (.cells I 3)).alloc (.cells T 31)).drew := by
  refine ⟨by omega, by omega, by omega, ?_, ?_, ?_, ?_⟩
  · exact ((Own.new w _ 99).alloc _).alloc _
  · exact made0 (by simp) (by omega) (by unfold maxLen; omega) hT
  · exact (made0 (by simp) (by omega) (by unfold maxLen; omega) (by simp [hI])).alloc _
  · exact ((((Below.refl _ w).alloc (Nat.le_refl _) _).alloc (by simp) _).alloc (by simp; omega) _).drew

theorem rooms0 {wr : World} {b : Nat} {x y z : Value} (h : Own wr b 99 [x, y, z]) :
    (wr.cell? ⟨b, 0, none⟩ = some x ∧ wr.cell? ⟨b, 1, none⟩ = some y ∧ wr.cell? ⟨b, 2, none⟩ = some z) ∧ wr.frozen? ⟨b, 0, none⟩ = false ∧ wr.frozen? ⟨b, 1, none⟩ = false ∧ wr.frozen? ⟨b, 2, none⟩ = false :=
  ⟨⟨h.cell rfl, h.cell rfl, h.cell rfl⟩, h.free _, h.free _, h.free _⟩

theorem ERel.next {fs : List Fld} {w : World} {g2 g3 n k : Nat} {st : ES} {wr w2 : World} (R : ERel fs w g2 g3 n k st wr) (hn : fs.length = n) (hk : k < n) {f : Fld} (hf : f = fs[k]'(by omega))
    {st1 : ES} (h1 : st1 = st.tagged f.union) (M : EMem w g2 g3 n (st1.place f.t.kind f.union) (k + 1) w2) :
    ERel fs w g2 g3 n (k + 1) (st1.place f.t.kind f.union) w2 := by
  subst h1
  refine ⟨hk, (R.ok.tagged _).place _ _, M, ?_⟩
  show _ = _
  rw [R.run.out, List.drop_eq_getElem_cons (by omega), ← hf]; rfl

set_option maxRecDepth 100000
set_option maxHeartbeats 1000000 in
theorem entries_any (fs : List Fld) (ao : Option Addr) (n cap : Nat) (w : World) (hn : fs.length = n) (hl : n ≤ 16) (hc : Has w ao (fcells fs)) :
    Calls Faeg.prog 30 #[.slice ao n cap] w (EPost fs w) := by
  obtain ⟨i31, hi, hz0, hz1, hz2⟩ := info_parts info31
  obtain ⟨i3, hj, hy0, hy1, hy2⟩ := info_parts info3
  have hm1 := make96 n (by omega)
  have hm2 := make97 n (by omega)
  go_enter Faeg.func30, Faeg.ntmps30
  go_upto_region 2 with fail
  go_cut [2, 3] (fun v2 v3 wc => ∃ g2 g3, v2 = .slice (some ⟨g2, 0, none⟩) 0 (n + 3) ∧ v3 = .slice (some ⟨g3, 0, none⟩) 0 n ∧ EMem w g2 g3 n ES.start 0 wc)
  case first =>
    go_region
    all_goals (go_wp2_with fail; go_meet)
    · exact ⟨_, _, rfl, rfl, emem_start1 w n hl _ _ (size_madeCells _ _) (size_madeCells _ _)⟩
    · exact ⟨_, _, rfl, rfl, emem_start2 w n hl _ _ (size_madeCells _ _) (size_madeCells _ _)⟩
  case rest =>
    obtain ⟨g2, g3, rfl, rfl, M⟩ := hcut
    clear hm1 hm2
    go_wp2_with fail
    go_loopw [2, 3, 17] (fun v2 v3 i wr => ∃ (k : Nat) (st : ES), v2 = .slice (some ⟨g2, 0, none⟩) st.ts.length (n + 3) ∧ v3 = .slice (some ⟨g3, 0, none⟩) k n ∧ i = .int .i64 k ∧ ERel fs w g2 g3 n k st wr) (fun _ _ i _ => n - (intOf i).toNat)
    case atStart => exact ⟨0, ES.start, rfl, rfl, rfl, ⟨Nat.zero_le _, okE_start, M, rfl⟩⟩
    case round =>
      clear M
      obtain ⟨k, st, rfl, rfl, rfl, R⟩ := hrel
      by_cases hlt : k < n
      · rcases hc with hc | ⟨b, off, rfl, hb, hc⟩
        · exfalso
          have := congrArg List.length hc
          rw [fcells, flat_length Fld.cells 11 (fun _ => rfl)] at this
          simp at this
          omega
        have hf := (fld_at hc (k := k) (by omega)).below R.mem.below hb
        obtain ⟨f, hfe⟩ : ∃ f, f = fs[k] := ⟨_, rfl⟩
        rw [← hfe] at hf
        have c0 := hf 0 _ rfl
        have c1 := hf 1 _ rfl
        have c2 := hf 2 _ rfl
        have c3 := hf 3 _ rfl
        have c4 := hf 4 _ rfl
        have c5 := hf 5 _ rfl
        have c6 := hf 6 _ rfl
        have c7 := hf 7 _ rfl
        have c8 := hf 8 _ rfl
        have c9 := hf 9 _ rfl
        have c10 := hf 10 _ rfl
        simp only [Nat.add_zero] at c0
        have HF : Hid (f = fs[k]) := hfe
        clear hf hfe
        obtain ⟨⟨r0, r1, r2⟩, q0, q1, q2⟩ := rooms0 R.mem.rooms
        have hbs := R.mem.size
        have hg2 : g2 < wr.heap.size := (R.mem.ts.lt _ rfl).2
        have hg3 : g3 < wr.heap.size := (R.mem.ix.lt _ rfl).2
        have o1 := R.ok.ts_len
        have o2 := one_le st.tag
        have o3 := one_le st.word
        have o4 := one_le st.slot
        go_upto_region 6 with fail
        go_cut [27] (fun v27 wc => v27 = .bool (f.union && decide (st.tag < 0)) ∧ wc = wr.alloc (.cells f.cells.toArray 34))
        case first =>
          cases hu : f.union
          all_goals
            go_wp2_with fail
            go_meet
            simp [Fld.cells, hu]
        case rest =>
          obtain ⟨rfl, rfl⟩ := hcut
          clear c0 c1 c2 c3 c4 c5 c6 c7 c8 c9 c10
          have hX : Own (wr.alloc (.cells f.cells.toArray 34)) wr.heap.size 34 f.cells := Own.new _ _ _
          have M := R.mem.alloc (.cells f.cells.toArray 34)
          have hls : (wr.alloc (.cells f.cells.toArray 34)).heap.size = wr.heap.size + 1 := by simp
          obtain ⟨wx, hwx⟩ : ∃ wx, wx = wr.alloc (.cells f.cells.toArray 34) := ⟨_, rfl⟩
          rw [← hwx] at hX M hls ⊢
          obtain ⟨⟨r0, r1, r2⟩, q0, q1, q2⟩ := rooms0 M.rooms
          have hws : wr.heap.size < wx.heap.size := by omega
          clear hwx hls
          go_upto_if 27 with fail
          go_cut [2] (fun v2 wc => v2 = .slice (some ⟨g2, 0, none⟩) (st.tagged f.union).ts.length (n + 3) ∧ EMem w g2 g3 n (st.tagged f.union) k wc ∧ Own wc wr.heap.size 34 f.cells)
          case first =>
            cases hcnd : (f.union && decide (st.tag < 0)) with
            | false =>
              go_wp2_with fail
              go_meet
              have e : st.tagged f.union = st := by simp [ES.tagged, hcnd]
              rw [e]
              exact ⟨rfl, M, hX⟩
            | true =>
              go_wp2_with (at_builtin; refine wpList_app1 rfl (.tmp 31) (.tmp 33) 96 rfl (w.heap.size + 1) 31 i31 4 Faeg.underlying96 hi hz1 g2 st.ts.length (n + 3) (tcells (st.ts.map tk)) [.int .u8 6, .int .u8 0, .int .u8 0, .int .u8 0] _ rfl rfl (by exact (M.setTag _).ts) (by simp) rfl rfl (by omega) ?_; intro w2 own2 grow2)
              go_meet
              have e : st.tagged f.union = ({ st with tag := (st.ts.length : Int) } : ES).pushT 6 := by simp [ES.tagged, hcnd, ES.pushT]
              rw [e]
              refine ⟨by simp [ES.pushT], EMem.pushT ((M.setTag _).alloc _) 6 own2 grow2, ?_⟩
              exact ((hX.other (a := ⟨w.heap.size, 0, none⟩) (by simp; omega) _).alloc _).grown grow2 (by simp; omega)
          case rest =>
            obtain ⟨rfl, M1, hX1⟩ := hcut
            have OK1 := R.ok.tagged f.union
            obtain ⟨st1, h1⟩ : ∃ st1, st1 = st.tagged f.union := ⟨_, rfl⟩
            rw [← h1] at M1 OK1
            rw [← h1]
            have H1 : Hid (st1 = st.tagged f.union) := h1
            clear h1 M hX r0 r1 r2 q0 q1 q2
            obtain ⟨⟨r0, r1, r2⟩, q0, q1, q2⟩ := rooms0 M1.rooms
            have k1 := hX1.cell (j := 1) (u := .int .u8 f.t.kind) rfl
            have k10 := hX1.cell (j := 10) (u := .bool f.union) rfl
            have hws1 := hX1.lt
            have hbs1 := M1.size
            have o1 := OK1.ts_len
            have o2 := one_le st1.tag
            have o3 := one_le st1.word
            have o4 := one_le st1.slot
            have hptr : ∀ w, Calls Faeg.prog 45 #[.int .u8 f.t.kind] w fun e w' => e = .returned (.bool (ptrK f.t.kind)) ∧ w' = w := isPtr_any f.t.kind
            have HP : Hid _ := hptr
            have hne3 : some wr.heap.size ≠ some g3 := by simp; omega
            have hne2 : some wr.heap.size ≠ some g2 := by simp; omega
            clear hptr
            cases h14 : (f.t.kind == 14) with
            | true =>
              have e : Hid (st1.place f.t.kind f.union = st1.pushI (-1)) := by
                show _ = _
                simp only [ES.place, h14, if_true]
              go_wp2_with (at_builtin; refine wpList_app1 rfl (.tmp 55) (.tmp 56) 97 rfl (w.heap.size + 1) 3 i3 1 Faeg.underlying97 hj hy1 g3 k n (st1.ix.map (.int .i64)) [.int .i64 (-1)] _ rfl rfl (by exact M1.ix) (by simp) rfl rfl (by omega) ?_; intro w2 own2 grow2)
              have R2 := R.next hn hlt HF.out H1.out (by rw [e.out]; exact EMem.pushI (M1.alloc _) (-1) own2 grow2)
              rw [e.out] at R2
              clear R M1 own2 grow2
              go_roundw
              case rel => exact ⟨k + 1, st1.pushI (-1), rfl, rfl, by go_num, R2⟩
              case measure => simp [intOf]; omega
            | false =>
              cases hu : f.union with
              | false =>
                have e : Hid (st1.place f.t.kind f.union = (st1.pushI st1.ts.length).pushT f.t.kind) := by
                  show _ = _
                  simp [ES.place, h14, hu]
                go_wp2_with (first | (at_builtin; refine wpList_app1 rfl (.tmp 62) (.tmp 65) 97 rfl (w.heap.size + 1) 3 i3 1 Faeg.underlying97 hj hy1 g3 k n (st1.ix.map (.int .i64)) [.int .i64 (st1.ts.length : Int)] _ rfl rfl (by exact M1.ix) (by simp) rfl rfl (by omega) ?_; intro w2 own2 grow2; have M2 := EMem.pushI (M1.alloc _) _ own2 grow2; have k2 := ((hX1.alloc _).grown grow2 hne3).cell (j := 1) (u := .int .u8 f.t.kind) rfl) | (at_builtin; refine wpList_app1 rfl (.tmp 67) (.tmp 72) 96 rfl (w.heap.size + 1) 31 i31 4 Faeg.underlying96 hi hz1 g2 st1.ts.length (n + 3) (tcells (st1.ts.map tk)) [.int .u8 f.t.kind, .int .u8 0, .int .u8 0, .int .u8 0] _ rfl rfl (by exact M2.ts) (by simp) rfl rfl (by omega) ?_; intro w3 own3 grow3))
                have R2 := R.next hn hlt HF.out H1.out (by rw [e.out]; exact EMem.pushT (M2.alloc _) f.t.kind own3 grow3)
                rw [e.out] at R2
                clear R M1 M2 own2 grow2 own3 grow3
                go_roundw
                case rel => exact ⟨k + 1, (st1.pushI st1.ts.length).pushT f.t.kind, by simp [ES.pushT, ES.pushI], rfl, by go_num, R2⟩
                case measure => simp [intOf]; omega
              | true =>
                cases hpk : ptrK f.t.kind with
                | true =>
                  by_cases hsl : st1.slot < 0
                  · have es : st1.slotted = ({ st1 with slot := (st1.ts.length : Int) } : ES).pushT 11 := by simp [ES.slotted, hsl, ES.pushT]
                    have e : Hid (st1.place f.t.kind f.union = (({ st1 with slot := (st1.ts.length : Int) } : ES).pushT 11).pushI st1.ts.length) := by
                      show _ = _
                      simp only [ES.place, h14, hu, hpk, es]; rfl
                    clear es
                    go_wp2_with (first | (go_at_call 45; refine (HP.out _).mono ?_; rintro e w' ⟨rfl, rfl⟩) | (at_builtin; (refine wpList_app1 rfl (.tmp 85) (.tmp 87) 96 rfl (w.heap.size + 1) 31 i31 4 Faeg.underlying96 hi hz1 g2 st1.ts.length (n + 3) (tcells (st1.ts.map tk)) [.int .u8 11, .int .u8 0, .int .u8 0, .int .u8 0] _ rfl rfl (by exact (M1.setSlot _).ts) (by simp) rfl rfl (by omega) ?_; intro w2 own2 grow2); have M2 := EMem.pushT ((M1.setSlot (st1.ts.length : Int)).alloc _) 11 own2 grow2; have k2 := M2.rooms.cell (j := 2) (u := .int .i64 (st1.ts.length : Int)) rfl) | (at_builtin; refine wpList_app1 rfl (.tmp 89) (.tmp 92) 97 rfl (w.heap.size + 1) 3 i3 1 Faeg.underlying97 hj hy1 g3 k n (st1.ix.map (.int .i64)) [.int .i64 (st1.ts.length : Int)] _ rfl rfl (by exact M2.ix) (by simp) rfl rfl (by omega) ?_; intro w3 own3 grow3))
                    have R2 := R.next hn hlt HF.out H1.out (by rw [e.out]; exact EMem.pushI (M2.alloc _) _ own3 grow3)
                    rw [e.out] at R2
                    clear R M1 M2 own2 grow2 own3 grow3
                    go_roundw
                    case rel => exact ⟨k + 1, _, by simp [ES.pushT, ES.pushI], rfl, by go_num, R2⟩
                    case measure => simp [intOf]; omega
                  · have e : Hid (st1.place f.t.kind f.union = st1.pushI st1.slot) := by
                      show _ = _
                      simp only [ES.place, h14, hu, hpk, ES.slotted, hsl]; rfl
                    go_wp2_with (first | (go_at_call 45; refine (HP.out _).mono ?_; rintro e w' ⟨rfl, rfl⟩) | (at_builtin; refine wpList_app1 rfl (.tmp 89) (.tmp 92) 97 rfl (w.heap.size + 1) 3 i3 1 Faeg.underlying97 hj hy1 g3 k n (st1.ix.map (.int .i64)) [.int .i64 st1.slot] _ rfl rfl (by exact M1.ix) (by simp) rfl rfl (by omega) ?_; intro w3 own3 grow3))
                    have R2 := R.next hn hlt HF.out H1.out (by rw [e.out]; exact EMem.pushI (M1.alloc _) _ own3 grow3)
                    rw [e.out] at R2
                    clear R M1 own3 grow3
                    go_roundw
                    case rel => exact ⟨k + 1, _, by simp [ES.pushI], rfl, by go_num, R2⟩
                    case measure => simp [intOf]; omega
                | false =>
                  by_cases hsl : st1.word < 0
                  · have es : st1.worded = ({ st1 with word := (st1.ts.length : Int) } : ES).pushT 8 := by simp [ES.worded, hsl, ES.pushT]
                    have e : Hid (st1.place f.t.kind f.union = (({ st1 with word := (st1.ts.length : Int) } : ES).pushT 8).pushI st1.ts.length) := by
                      show _ = _
                      simp only [ES.place, h14, hu, hpk, es]; rfl
                    clear es
                    go_wp2_with (first | (go_at_call 45; refine (HP.out _).mono ?_; rintro e w' ⟨rfl, rfl⟩) | (at_builtin; refine wpList_app1 rfl (.tmp 41) (.tmp 43) 96 rfl (w.heap.size + 1) 31 i31 4 Faeg.underlying96 hi hz1 g2 st1.ts.length (n + 3) (tcells (st1.ts.map tk)) [.int .u8 8, .int .u8 0, .int .u8 0, .int .u8 0] _ rfl rfl (by exact (M1.setWord _).ts) (by simp) rfl rfl (by omega) ?_; intro w2 own2 grow2; have M2 := EMem.pushT ((M1.setWord (st1.ts.length : Int)).alloc _) 8 own2 grow2; have k2 := M2.rooms.cell (j := 1) (u := .int .i64 (st1.ts.length : Int)) rfl) | (at_builtin; refine wpList_app1 rfl (.tmp 45) (.tmp 48) 97 rfl (w.heap.size + 1) 3 i3 1 Faeg.underlying97 hj hy1 g3 k n (st1.ix.map (.int .i64)) [.int .i64 (st1.ts.length : Int)] _ rfl rfl (by exact M2.ix) (by simp) rfl rfl (by omega) ?_; intro w3 own3 grow3))
                    have R2 := R.next hn hlt HF.out H1.out (by rw [e.out]; exact EMem.pushI (M2.alloc _) _ own3 grow3)
                    rw [e.out] at R2
                    clear R M1 M2 own2 grow2 own3 grow3
                    go_roundw
                    case rel => exact ⟨k + 1, _, by simp [ES.pushT, ES.pushI], rfl, by go_num, R2⟩
                    case measure => simp [intOf]; omega
                  · have e : Hid (st1.place f.t.kind f.union = st1.pushI st1.word) := by
                      show _ = _
                      simp only [ES.place, h14, hu, hpk, ES.worded, hsl]; rfl
                    go_wp2_with (first | (go_at_call 45; refine (HP.out _).mono ?_; rintro e w' ⟨rfl, rfl⟩) | (at_builtin; refine wpList_app1 rfl (.tmp 45) (.tmp 48) 97 rfl (w.heap.size + 1) 3 i3 1 Faeg.underlying97 hj hy1 g3 k n (st1.ix.map (.int .i64)) [.int .i64 st1.word] _ rfl rfl (by exact M1.ix) (by simp) rfl rfl (by omega) ?_; intro w3 own3 grow3))
                    have R2 := R.next hn hlt HF.out H1.out (by rw [e.out]; exact EMem.pushI (M1.alloc _) _ own3 grow3)
                    rw [e.out] at R2
                    clear R M1 own3 grow3
                    go_roundw
                    case rel => exact ⟨k + 1, _, by simp [ES.pushI], rfl, by go_num, R2⟩
                    case measure => simp [intOf]; omega
      · have hrun := R.run.out
        rw [List.drop_eq_nil_of_le (by omega)] at hrun
        have hkn : k = n := by have := R.k_le; omega
        subst hkn
        have HR : Hid (eRun fs ES.start = st) := hrun
        have M := R.mem
        clear hrun R
        obtain ⟨⟨r0, r1, r2⟩, q0, q1, q2⟩ := rooms0 M.rooms
        have M' := ((M.setTag st.tag).setWord st.word).setSlot st.slot
        go_wp2_with fail
        go_region
        all_goals
          go_wp2_with fail
          revert M'
          generalize ((wr.setCell ⟨w.heap.size, 0, none⟩ (.int .i64 st.tag)).setCell ⟨w.heap.size, 1, none⟩ (.int .i64 st.word)).setCell ⟨w.heap.size, 2, none⟩ (.int .i64 st.slot) = X
          intro M'
          obtain ⟨⟨p0, p1, p2⟩, _⟩ := rooms0 M'.rooms
          refine bodyPost_ret (v := .tuple #[.slice (some ⟨g2, 0, none⟩) st.ts.length (k + 3), .slice (some ⟨g3, 0, none⟩) k k, .agg #[.int .i64 st.tag, .int .i64 st.word, .int .i64 st.slot]]) (by simp [results, Faeg.results30, go_sem, p0, p1, p2]) rfl ?_
          unfold EPost
          rw [HR.out, hn]
          exact ⟨_, _, rfl, M'.ts, M'.ix, M'.below.drew⟩
end Go.Proofs.Ygcfae
