import Derived.Test.YgcfaePrF
import Derived.Laws.IdiomStrings
import Derived.Lib.BufferRead
namespace Go.Proofs.Ygcfae
open Go.RowKit

/-- a call of printField by its contract, as one step of a region that draws -/
theorem step_call33 {ops : Array Oper} {o : Oper} {a : Act} {W : World} {K : Act → World → Prop} {Q : Exit → Act → World → Prop} {E : Prop} {R : Ending → World → Prop}
    (hg : o.guard = none) (x0 x1 x2 x3 : Operand) (ts : Array TypeId) (hop : o.op = Op.call { callee := Callee.value (Operand.func 33), args := #[x0, x1, x2, x3], argTypes := ts })
    (v0 v1 v2 v3 : Value) (h0 : a.eval x0 = v0) (h1 : a.eval x1 = v1) (h2 : a.eval x2 = v2) (h3 : a.eval x3 = v3) (hc : Calls Faeg.prog 33 #[v0, v1, v2, v3] W R) (hK : ∀ r w', R r w' → ∃ v, r = .returned v ∧ K (a.put o.dst v) w') :
    if Region.wanted o (yielded ops a.tmps) = true then Oper.wp Faeg.prog o a W K Q else E := by
  have hw : Region.wanted o (yielded ops a.tmps) = true := by simp [Region.wanted, hg]
  rw [if_pos hw]
  unfold Oper.wp execOp
  have hv : (#[x0, x1, x2, x3] : Array Operand).map a.eval = #[v0, v1, v2, v3] := by simp [h0, h1, h2, h3]
  simp only [hop, resolve, invoke, Sem.run_bind, Sem.run_pure, Result.andThen_ok, hv, go_sem]
  have e : Sem.run Faeg.prog (callFunc 33 (#[] ++ #[v0, v1, v2, v3] ++ #[])) W = .ok (.enter 33 #[v0, v1, v2, v3]) W := by
    have h1 : (Faeg.f33.name == "runtime.NumGoroutine") = false := by kernel_rfl
    have h2 : Faeg.f33.body.isNone = false := by kernel_rfl
    have h1' : ¬ Faeg.f33.name = "runtime.NumGoroutine" := by simpa using h1
    have h2' : ¬ Faeg.f33.body = none := by intro h; rw [h] at h2; cases h2
    simp [callFunc, Faeg.func33, go_sem]
    rw [if_neg h1', if_neg h2']
  rw [e, Oper.upon_enter]
  refine hc.mono ?_
  intro r w' hr
  obtain ⟨v, rfl, h⟩ := hK r w' hr
  exact h

/-- the first j fields printed -/
def prJ (ss : List Str) (ind : Bs) (u : Bool) (fs : List Fld) (j : Nat) : Bs := (List.range j).flatMap fun i => if (fAt fs i).union == u then ind ++ printF ss (fAt fs i) i else []
theorem prJ_succ (ss : List Str) (ind : Bs) (u : Bool) (fs : List Fld) (j : Nat) : prJ ss ind u fs (j + 1) = prJ ss ind u fs j ++ (if (fAt fs j).union == u then ind ++ printF ss (fAt fs j) j else []) := by
  unfold prJ; rw [List.range_succ, List.flatMap_append]; simp
theorem filter_flat {α : Type} (p : α → Bool) (g : α → Bs) : ∀ l : List α, (l.filter p).flatMap g = l.flatMap fun x => if p x then g x else []
  | [] => rfl
  | x :: l => by
    rw [List.filter_cons, List.flatMap_cons, ← filter_flat p g l]
    split <;> simp
theorem prJ_all (ss : List Str) (ind : Bs) (u : Bool) (fs : List Fld) : prJ ss ind u fs fs.length = printFs ss ind u fs 0 := by
  rw [printFs_ix]
  unfold prJ printIx ixs
  rw [filter_flat]

theorem printI_len {i : Nat} : (printI i).length ≤ 2 := by unfold printI; split <;> simp
theorem printK_len {ss : List Str} (hss : NamesOK ss) {f : Fld} (hf : FOK ss f) : (printK ss f.t).length ≤ 8 := by
  unfold printK
  split
  · next h13 =>
    have hsc := sound_cases hf.ok.t hf.sound
    have hnmd : f.t.named = true := by
      unfold Typ.deep at h13
      simp only [Typ.named, Bool.or_eq_true, Bool.and_eq_true, beq_iff_eq]
      split at h13 <;> omega
    have hrf := named_ref hf hnmd
    have hnm := (nameAt_ok hss hrf.2).1
    show (nameAt ss f.t.ref.toNat).length ≤ 8
    cases ht : nameAt ss f.t.ref.toNat with
    | nil => simp
    | cons c cs => rw [ht] at hnm; simp [isNameB] at hnm; simp; omega
  · unfold kindNameB
    split
    · decide
    · have : ∀ n, (kNames.getD n []).length ≤ 8 := by
        intro n
        by_cases hn : n < 12
        · have : ∀ n : Fin 12, (kNames.getD n.1 []).length ≤ 8 := by decide
          exact this ⟨n, hn⟩
        · rw [List.getD_eq_getElem?_getD, List.getElem?_eq_none (by simp [kNames]; omega)]; simp
      exact this _
theorem name_len {s : Bs} {cap : Bool} (h : isNameB s cap = true) : s.length ≤ 8 := by
  cases s with
  | nil => simp
  | cons c cs => simp [isNameB] at h; simp; omega
theorem printF_len {ss : List Str} (hss : NamesOK ss) {f : Fld} (hf : FOK ss f) (i : Nat) : (printF ss f i).length ≤ 60 := by
  have h1 := name_len hf.name
  have h2 := printI_len (i := i)
  have h3 := printK_len hss hf
  have hsc := sound_cases hf.ok.t hf.sound
  have h4 : (rep f.t.nest.toNat sListP).length ≤ 10 := by rw [rep_len]; simp [sListP]; omega
  have h5 : (rep f.t.nest.toNat [41]).length ≤ 2 := by rw [rep_len]; simp; omega
  have h6 : (printD f.dflt).length ≤ 21 := by
    unfold printD
    split
    · simp
    · have := hexFrom_len f.dflt.toNat 16
      simp
      omega
  unfold printF
  simp only [List.length_append, List.length_cons, List.length_nil]
  omega

/-- what is printed of the structs -/
structure PrN (W0 : World) (v : Value) (bs : Bs) (w : World) : Prop where
  row : BRow w W0.heap.size v bs
  low : Below W0.heap.size W0 w
theorem PrN.grown {W0 : World} {v v' : Value} {bs bs' : Bs} {w w' : World} (h : PrN W0 v bs w) (hr : BRow w' W0.heap.size v' bs') (hg : w.grownBy w' v.ownBlock) : PrN W0 v' bs' w' :=
  ⟨hr, h.low.grown hg h.low.size (fun k hk => (World.ownsRow.lt h.row k hk).1)⟩
theorem PrN.alloc {W0 : World} {v : Value} {bs : Bs} {w : World} (h : PrN W0 v bs w) (o : Obj) : PrN W0 v bs (w.alloc o) := ⟨World.ownsRow.alloc h.row o, h.low.alloc h.low.size o⟩

theorem PrN.own {W0 : World} {v : Value} {bs : Bs} {w w' : World} {g : Nat} {e : TypeId} {cs : List Value} (h : PrN W0 v bs w) (ho : Own w g e cs) (he : (5 : TypeId) ≠ e) (hg : w.grownBy w' v.ownBlock) : Own w' g e cs :=
  ho.grown hg (Ne.symm (row_ne h.row ho he))

set_option maxRecDepth 100000
/-- the bytes of a row as a string -/
theorem conv_brow {w : World} {base : Nat} {v : Value} {bs : Bs} (h : BRow w base v bs) : (convert 22 9 v).run Faeg.prog w = .ok (.string (bsV bs)) w := by
  have hu5 : Faeg.prog.underlying 5 = some (.int .u8) := by kernel_rfl
  rcases h.2 with ⟨rfl, hz⟩ | ⟨g, cap, cur, rfl, -⟩
  · have hb : bs = [] := List.eq_nil_of_length_eq_zero hz
    subst hb
    exact Go.Lib.run_convert_nil_bytes w 22 9 5 0 under22 hu5 under9
  · refine run_convert_bytes_back w 22 9 5 ⟨g, 0, none⟩ cap bs under22 hu5 under9 ?_
    intro j hj
    exact World.ownsRow.cells h rfl j _ (by simp [bcells, hj])

set_option maxHeartbeats 20000000 in
theorem print_any (ss : List Str) (b o : Nat) (w : World) (h : SchAt w b o ss) (hok : ∀ t ∈ ss, ∀ f ∈ t.fs, FldOK f) :
    Calls Faeg.prog 15 #[.pointer (some ⟨b, o, none⟩)] w fun e w' => e = .returned (.string (bsV (if checkB ss then printS ss else []))) ∧ Below w.heap.size w w' := by
  cases hck : checkB ss with
  | false =>
    go_enter Faeg.func15, Faeg.ntmps15
    go_wp2_with (go_at_call 16; refine (check_any ss b o w h hok).mono ?_; rw [hck]; rintro e w1 ⟨rfl, hb1⟩)
    go_ret
    exact ⟨rfl, hb1⟩
  | true =>
    have hcok := check_cok hck hok
    have hss : NamesOK ss := fun t ht => ⟨(hcok.strs t ht).name, (hcok.strs t ht).free⟩
    have hs4 := hcok.len
    obtain ⟨i5, hi5, hz0, hz1, hz2⟩ := info_parts info5
    go_enter Faeg.func15, Faeg.ntmps15
    go_upto_region 4 with (go_at_call 16; refine (check_any ss b o w h hok).mono ?_; rw [hck]; rintro e W0 ⟨rfl, hbW⟩)
    have hS := h.below hbW
    obtain ⟨sa, cap, c0, hlt, hst⟩ := id hS
    go_wp2_with fail
    clear c0
    go_loopw [18, 3] (fun i v wl => ∃ k : Nat, k ≤ ss.length ∧ i = .int .i64 k ∧ PrN W0 v ((ss.take k).flatMap (printT ss)) wl ∧ ((ss.take k).flatMap (printT ss)).length ≤ 3000 * k) (fun i _ _ => ss.length - (intOf i).toNat)
    case atStart => exact ⟨0, Nat.zero_le _, rfl, ⟨BRow.nil _ _, Below.refl _ _⟩, by simp⟩
    case round =>
      obtain ⟨k, hk, rfl, hP, hbl⟩ := hrel
      by_cases hkl : k < ss.length
      · obtain ⟨gb, go, hsa, hSt⟩ : ∃ gb go, sa = some ⟨gb, go, none⟩ ∧ ∀ i (hi : i < ss.length), StrAt W0 gb (go + i * 8) ss[i] := by
          rcases hst with h | h
          · rw [h] at hkl; simp at hkl
          · exact h
        subst hsa
        obtain ⟨a1, q1, hltg0, hx0, hfh0⟩ := hSt k hkl
        have hsok := hcok.strs ss[k] (List.getElem_mem _)
        have htake : (ss.take (k + 1)).flatMap (printT ss) = (ss.take k).flatMap (printT ss) ++ printT ss ss[k] := by
          rw [List.take_succ_eq_append_getElem hkl, List.flatMap_append]; simp
        obtain ⟨t, ht⟩ : ∃ t, t = ss[k] := ⟨_, rfl⟩
        rw [← ht] at hx0 hfh0 hsok htake
        have HTA : Hid _ := htake
        clear ht htake
        have hx1 := hx0.below hP.low hltg0
        obtain ⟨e0, e1, e2, e3, e4, e5, e6, e7⟩ := str8 hx1
        have hltg : gb < wr.heap.size := Nat.lt_of_lt_of_le hltg0 hP.low.size
        have ht16 := hsok.short
        have hnsz : t.name.size ≤ 8 := by rw [← tl_len]; exact name_len hsok.name
        generalize (ss.take k).flatMap (printT ss) = bs0 at *
        have hhd : (ByteArray.mk #[115, 116, 114, 117, 99, 116, 32] ++ t.name ++ ByteArray.mk #[32, 123, 10]).toList = sStruct ++ [32] ++ t.name.toList ++ [32, 123, 10] := by
          rw [app_toList, app_toList, show (ByteArray.mk #[115, 116, 114, 117, 99, 116, 32]).toList = [115, 116, 114, 117, 99, 116, 32] from ByteArray.toList_mk _, show (ByteArray.mk #[32, 123, 10]).toList = [32, 123, 10] from ByteArray.toList_mk _]; rfl
        have hhs : (ByteArray.mk #[115, 116, 114, 117, 99, 116, 32] ++ t.name ++ ByteArray.mk #[32, 123, 10]).size ≤ 18 := by
          have := name_len hsok.name
          rw [← tl_len, hhd]; simp [sStruct]; omega
        have hTb : Own (wr.alloc (.cells (t.cells (.slice a1 t.fs.length q1)).toArray 70)) wr.heap.size 70 (t.cells (.slice a1 t.fs.length q1)) := Own.new _ _ _
        have hP1 := hP.alloc (.cells (t.cells (.slice a1 t.fs.length q1)).toArray 70)
        have HLOW := hP1.low.size
        go_upto_region 7 with fail
        obtain ⟨tb, htb⟩ : ∃ tb, tb = wr.heap.size := ⟨_, rfl⟩
        show Code.wp _ _ _ _ (wr.alloc (.cells (t.cells (.slice a1 t.fs.length q1)).toArray 70))
        generalize wr.alloc (.cells (t.cells (.slice a1 t.fs.length q1)).toArray 70) = W1 at *
        rw [← htb] at hTb ⊢
        clear e0 e1 e2 e3 e4 e5 e6 e7 htb hP
        obtain ⟨f0, f1, f2, -⟩ := str8 (o := 0) hTb.at
        simp only [Nat.zero_add] at f1 f2
        have hltt := hTb.lt
        go_cut [3] (fun v1 wc => PrN W0 v1 (bs0 ++ (sStruct ++ [32] ++ t.name.toList ++ [32, 123, 10])) wc ∧ Own wc tb 70 (t.cells (.slice a1 t.fs.length q1)))
        case first =>
          go_wp2_with (at_builtin; refine Go.Lib.wpList_append_own_string _ rfl (.tmp 22) (.tmp 26) 22 9 rfl W0.heap.size 5 i5 under22 under9 hi5 hz0 hz1 hz2 _ bs0.length (bcells bs0) rfl hP1.row (ByteArray.mk #[115, 116, 114, 117, 99, 116, 32] ++ t.name ++ ByteArray.mk #[32, 123, 10]) rfl (by unfold maxLen; omega) (by omega) HLOW ?_; intro v' w' hr' hg' _)
          go_meet
          rw [← hhd]
          exact ⟨hP1.grown (BRow.str hr') hg', hP1.own hTb (by decide) hg'⟩
        case rest =>
          obtain ⟨hP2, hT2⟩ := hcut
          have hb1 : (bs0 ++ (sStruct ++ [32] ++ t.name.toList ++ [32, 123, 10])).length ≤ 3000 * k + 18 := by
            rw [List.length_append, ← hhd, tl_len]; omega
          have HT0 : Hid (bs0 ++ printT ss t = (bs0 ++ (sStruct ++ [32] ++ t.name.toList ++ [32, 123, 10])) ++ (printFs ss [32, 32] false t.fs 0 ++ ((if t.tag.bits = 0 then [] else sUnionP ++ printFs ss [32, 32, 32, 32] true t.fs 0 ++ [32, 32, 125, 10]) ++ [125, 10]))) := by
            rw [Hid]; simp [printT]
          generalize bs0 ++ (sStruct ++ [32] ++ t.name.toList ++ [32, 123, 10]) = bs1 at *
          clear hhd hhs f0 f1 f2 hltt hP1 hTb HLOW
          obtain ⟨w2, rfl⟩ : ∃ w2, w2 = wc := ⟨_, rfl⟩
          obtain ⟨-, f1, f2, -⟩ := str8 (o := 0) hT2.at
          simp only [Nat.zero_add] at f1 f2
          have hltt := hT2.lt
          go_wp2_with fail
          clear f1 f2 hltt
          go_loopw [31, 3] (fun i v wl => ∃ j : Nat, j ≤ t.fs.length ∧ i = .int .i64 j ∧ PrN W0 v (bs1 ++ prJ ss [32, 32] false t.fs j) wl ∧ Own wl tb 70 (t.cells (.slice a1 t.fs.length q1)) ∧ (bs1 ++ prJ ss [32, 32] false t.fs j).length ≤ bs1.length + 64 * j) (fun i _ _ => t.fs.length - (intOf i).toNat)
          case atStart => exact ⟨0, Nat.zero_le _, rfl, by simpa [prJ] using hP2, hT2, by simp [prJ]⟩
          case round =>
            clear hP2 hT2
            obtain ⟨j, hj, rfl, hP2, hT2, hbj⟩ := hrel
            by_cases hjl : j < t.fs.length
            · obtain ⟨bx, ox, hax, hbx, hcx⟩ : ∃ b off, a1 = some ⟨b, off, none⟩ ∧ b < wr.heap.size ∧ AtB wr b off (fcells t.fs) := by
                rcases hfh0.below hP2.low with h | h
                · exfalso
                  have := congrArg List.length h
                  rw [fcells, flat_length Fld.cells 11 (fun _ => rfl), List.length_nil] at this
                  omega
                · exact h
              subst hax
              obtain ⟨d0, d1, d2, d3, d4, d5, d6, d7, d8, d9, d10⟩ := fld11 (fld_at hcx hjl)
              have hfok := hsok.fok t.fs[j] (List.getElem_mem _)
              have hpj := prJ_succ ss [32, 32] false t.fs j
              rw [fAt_eq hjl] at hpj
              obtain ⟨f, hf⟩ : ∃ f, f = t.fs[j] := ⟨_, rfl⟩
              rw [← hf] at d0 d1 d2 d3 d4 d5 d6 d7 d8 d9 d10 hfok hpj
              have HPJ : Hid _ := hpj
              clear hf hcx hpj
              have hfl := printF_len hss hfok j
              cases hu : (f.union == false) with
              | false =>
                have hu' : f.union = true := by cases hfu : f.union <;> rw [hfu] at hu <;> first | rfl | cases hu
                go_wp2_with fail
                go_roundw
                case rel => exact ⟨j + 1, by omega, by go_num, by rw [HPJ.out, hu, if_neg (by simp), List.append_nil]; exact hP2.alloc _, hT2.alloc _, by rw [HPJ.out, hu, if_neg (by simp), List.append_nil]; omega⟩
                case measure => simp [intOf]; omega
              | true =>
                have hu' : f.union = false := by simpa using hu
                have hfc : f.cells = [.string f.name, .int .u8 f.t.kind, .int .u8 f.t.elem, .int .u8 f.t.ref, .int .u8 f.t.nest, .int .u8 f.p.bits, .int .u16 f.p.off, .int .u8 f.p.slot, .bool f.p.isPtr, .int .u64 f.dflt, .bool false] := by unfold Fld.cells; rw [hu']
                have HFC : Hid _ := hfc
                clear hfc
                go_upto_region 12 with fail
                have hFb : Own (wr.alloc (.cells #[.string f.name, .int .u8 f.t.kind, .int .u8 f.t.elem, .int .u8 f.t.ref, .int .u8 f.t.nest, .int .u8 f.p.bits, .int .u16 f.p.off, .int .u8 f.p.slot, .bool f.p.isPtr, .int .u64 f.dflt, .bool false] 34)) wr.heap.size 34 [.string f.name, .int .u8 f.t.kind, .int .u8 f.t.elem, .int .u8 f.t.ref, .int .u8 f.t.nest, .int .u8 f.p.bits, .int .u16 f.p.off, .int .u8 f.p.slot, .bool f.p.isPtr, .int .u64 f.dflt, .bool false] := Own.new _ _ _
                have hP3 := hP2.alloc (.cells #[.string f.name, .int .u8 f.t.kind, .int .u8 f.t.elem, .int .u8 f.t.ref, .int .u8 f.t.nest, .int .u8 f.p.bits, .int .u16 f.p.off, .int .u8 f.p.slot, .bool f.p.isPtr, .int .u64 f.dflt, .bool false] 34)
                have hT3 := hT2.alloc (.cells #[.string f.name, .int .u8 f.t.kind, .int .u8 f.t.elem, .int .u8 f.t.ref, .int .u8 f.t.nest, .int .u8 f.p.bits, .int .u16 f.p.off, .int .u8 f.p.slot, .bool f.p.isPtr, .int .u64 f.dflt, .bool false] 34)
                obtain ⟨fb, hfb⟩ : ∃ fb, fb = wr.heap.size := ⟨_, rfl⟩
                generalize wr.alloc (.cells #[.string f.name, .int .u8 f.t.kind, .int .u8 f.t.elem, .int .u8 f.t.ref, .int .u8 f.t.nest, .int .u8 f.p.bits, .int .u16 f.p.off, .int .u8 f.p.slot, .bool f.p.isPtr, .int .u64 f.dflt, .bool false] 34) = W3 at *
                rw [← hfb] at hFb ⊢
                clear hfb d0 d1 d2 d3 d4 d5 d6 d7 d8 d9 d10
                have y0 := hFb.cell (j := 0) rfl
                have y1 := hFb.cell (j := 1) rfl
                have y2 := hFb.cell (j := 2) rfl
                have y3 := hFb.cell (j := 3) rfl
                have y4 := hFb.cell (j := 4) rfl
                have y5 := hFb.cell (j := 5) rfl
                have y6 := hFb.cell (j := 6) rfl
                have y7 := hFb.cell (j := 7) rfl
                have y8 := hFb.cell (j := 8) rfl
                have y9 := hFb.cell (j := 9) rfl
                have y10 := hFb.cell (j := 10) rfl
                have hltF := hFb.lt
                have HLOW := hP3.low.size
                have hbj2 : (bs1 ++ prJ ss [32, 32] false t.fs j).length ≤ 20000 := by omega
                have hnx : Hid (bs1 ++ prJ ss [32, 32] false t.fs (j + 1) = (bs1 ++ prJ ss [32, 32] false t.fs j) ++ ([32, 32] ++ printF ss f j)) := by rw [Hid, HPJ.out, hu, if_pos rfl]; simp
                have hnl : Hid ((bs1 ++ prJ ss [32, 32] false t.fs (j + 1)).length ≤ bs1.length + 64 * (j + 1)) := by rw [Hid, hnx.out]; simp only [List.length_append, List.length_cons, List.length_nil] at hbj hfl ⊢; omega
                generalize bs1 ++ prJ ss [32, 32] false t.fs j = bsj at *
                have hcp : ∀ (w' : World) (v' : Value), PrN W0 v' (bsj ++ [32, 32]) w' → Calls Faeg.prog 33 #[.pointer (some ⟨b, o, none⟩), v', .agg #[.string f.name, .int .u8 f.t.kind, .int .u8 f.t.elem, .int .u8 f.t.ref, .int .u8 f.t.nest, .int .u8 f.p.bits, .int .u16 f.p.off, .int .u8 f.p.slot, .bool f.p.isPtr, .int .u64 f.dflt, .bool false], .int .i64 j] w' fun r w9 => ∃ v9, r = .returned v9 ∧ BRow w9 W0.heap.size v9 (bsj ++ [32, 32] ++ printF ss f j) ∧ Below W0.heap.size W0 w9 ∧ ∀ g e cs, Own w' g e cs → (5 : TypeId) ≠ e → Own w9 g e cs := by
                  intro w' v' hPp
                  have hcc := printField_any ss b o f j (bsj ++ [32, 32]) v' W0 w' hS hPp.low hPp.row hss hfok (by omega) (by rw [List.length_append]; simp; omega) hs4
                  rw [HFC.out] at hcc
                  exact hcc
                have HCP : Hid _ := hcp
                clear hcp
                go_region_law (first | (refine step_app_str rfl (.tmp 40) (.const (.string ⟨#[32, 32]⟩)) 22 9 rfl W0.heap.size 5 i5 under22 under9 hi5 hz0 hz1 hz2 _ bsj.length (bcells bsj) rfl (World.ownsRow.drew hP3.row) ⟨#[32, 32]⟩ rfl (by unfold maxLen; rw [show (ByteArray.mk #[32, 32]).size = 2 from rfl]; omega) (by rw [show (ByteArray.mk #[32, 32]).size = 2 from rfl]; omega) HLOW ?_; intro v' w' hr' hg'; have hg6 : W3.grownBy w' _ := ⟨hg'.os, hg'.tape, hg'.output, hg'.size, hg'.block⟩; have hb4 := BRow.str hr'; rw [show (ByteArray.mk #[32, 32]).toList = [32, 32] from ByteArray.toList_mk _] at hb4; have hP4 := hP3.grown hb4 hg6; have hFb4 := hP3.own hFb (by decide) hg6; have hT4 := hP3.own hT3 (by decide) hg6; have z0 := hFb4.cell (j := 0) rfl; have z1 := hFb4.cell (j := 1) rfl; have z2 := hFb4.cell (j := 2) rfl; have z3 := hFb4.cell (j := 3) rfl; have z4 := hFb4.cell (j := 4) rfl; have z5 := hFb4.cell (j := 5) rfl; have z6 := hFb4.cell (j := 6) rfl; have z7 := hFb4.cell (j := 7) rfl; have z8 := hFb4.cell (j := 8) rfl; have z9 := hFb4.cell (j := 9) rfl; have z10 := hFb4.cell (j := 10) rfl; have hltF4 := hFb4.lt) | (refine step_call33 rfl (.tmp 39) (.tmp 41) (.tmp 42) (.tmp 43) #[48, 22, 34, 3] rfl (.pointer (some ⟨b, o, none⟩)) v' (.agg #[.string f.name, .int .u8 f.t.kind, .int .u8 f.t.elem, .int .u8 f.t.ref, .int .u8 f.t.nest, .int .u8 f.p.bits, .int .u16 f.p.off, .int .u8 f.p.slot, .bool f.p.isPtr, .int .u64 f.dflt, .bool false]) (.int .i64 j) rfl rfl rfl rfl (HCP.out w' v' hP4) ?_; rintro r w9 ⟨v9, rfl, hb9, hl9, hk9⟩; refine ⟨_, rfl, ?_⟩))
                all_goals as_aux_lemma =>
                  go_wp2_with fail
                  go_roundw
                  case rel => exact ⟨j + 1, by omega, by go_num, by rw [hnx.out, ← List.append_assoc]; exact ⟨hb9, hl9⟩, hk9 _ _ _ hT4 (by decide), hnl.out⟩
                  case measure => simp [intOf]; omega
            · have hje : j = t.fs.length := by omega
              subst hje
              rw [prJ_all] at hP2 hbj
              have hb2 : (bs1 ++ printFs ss [32, 32] false t.fs 0).length ≤ 3000 * k + 1050 := by omega
              have HT1 : Hid (bs0 ++ printT ss t = (bs1 ++ printFs ss [32, 32] false t.fs 0) ++ ((if t.tag.bits = 0 then [] else sUnionP ++ printFs ss [32, 32, 32, 32] true t.fs 0 ++ [32, 32, 125, 10]) ++ [125, 10])) := by rw [Hid, HT0.out]; simp
              generalize bs1 ++ printFs ss [32, 32] false t.fs 0 = bs2 at *
              obtain ⟨w3, rfl⟩ : ∃ w3, w3 = wr := ⟨_, rfl⟩
              obtain ⟨-, f1, f2, -⟩ := str8 (o := 0) hT2.at
              simp only [Nat.zero_add] at f1 f2
              have hltt := hT2.lt
              have HLOW := hP2.low.size
              go_upto_if 49 with fail
              go_cut [3, 8, 9] (fun v _ _ wc => PrN W0 v (bs2 ++ (if t.tag.bits = 0 then [] else sUnionP ++ printFs ss [32, 32, 32, 32] true t.fs 0 ++ [32, 32, 125, 10])) wc ∧ (bs2 ++ (if t.tag.bits = 0 then [] else sUnionP ++ printFs ss [32, 32, 32, 32] true t.fs 0 ++ [32, 32, 125, 10])).length ≤ 3000 * k + 2200)
              case first =>
                by_cases hz : t.tag.bits = 0
                · have hzb : (t.tag.bits != 0) = false := by simp [hz]
                  go_wp2_with fail
                  go_meet
                  rw [if_pos hz, List.append_nil]
                  exact ⟨hP2, by omega⟩
                · have hzb : (t.tag.bits != 0) = true := by simp [hz]
                  go_upto_region 16 with (at_builtin; refine Go.Lib.wpList_append_own_string _ rfl (.tmp 50) (.const (.string ⟨#[32, 32, 117, 110, 105, 111, 110, 32, 123, 10]⟩)) 22 9 rfl W0.heap.size 5 i5 under22 under9 hi5 hz0 hz1 hz2 _ bs2.length (bcells bs2) rfl hP2.row ⟨#[32, 32, 117, 110, 105, 111, 110, 32, 123, 10]⟩ rfl (by unfold maxLen; rw [show (ByteArray.mk #[32, 32, 117, 110, 105, 111, 110, 32, 123, 10]).size = 10 from rfl]; omega) (by rw [show (ByteArray.mk #[32, 32, 117, 110, 105, 111, 110, 32, 123, 10]).size = 10 from rfl]; omega) HLOW ?_; intro v' w' hr' hg' _)
                  have hbu := BRow.str hr'
                  rw [show (ByteArray.mk #[32, 32, 117, 110, 105, 111, 110, 32, 123, 10]).toList = sUnionP from ByteArray.toList_mk _] at hbu
                  have hT2' := hP2.own hT2 (by decide) hg'
                  have hP2' := hP2.grown hbu hg'
                  clear hP2 hT2 f1 f2 hltt HLOW
                  have hP2 := hP2'
                  have hT2 := hT2'
                  clear hP2' hT2'
                  have hb3 : (bs2 ++ sUnionP).length ≤ 3000 * k + 1060 := by rw [List.length_append]; simp [sUnionP]; omega
                  have HR : Hid (bs2 ++ (sUnionP ++ printFs ss [32, 32, 32, 32] true t.fs 0 ++ [32, 32, 125, 10]) = ((bs2 ++ sUnionP) ++ printFs ss [32, 32, 32, 32] true t.fs 0) ++ [32, 32, 125, 10]) := by rw [Hid]; simp
                  generalize bs2 ++ sUnionP = bs3 at *
                  obtain ⟨-, f1, f2, -⟩ := str8 (o := 0) hT2.at
                  simp only [Nat.zero_add] at f1 f2
                  have hltt := hT2.lt
                  go_wp2_with fail
                  clear f1 f2 hltt
                  go_loopw [55, 3] (fun i v wl => ∃ j : Nat, j ≤ t.fs.length ∧ i = .int .i64 j ∧ PrN W0 v (bs3 ++ prJ ss [32, 32, 32, 32] true t.fs j) wl ∧ Own wl tb 70 (t.cells (.slice a1 t.fs.length q1)) ∧ (bs3 ++ prJ ss [32, 32, 32, 32] true t.fs j).length ≤ bs3.length + 64 * j) (fun i _ _ => t.fs.length - (intOf i).toNat)
                  case atStart => exact ⟨0, Nat.zero_le _, rfl, by simpa [prJ] using hP2, hT2, by simp [prJ]⟩
                  case round =>
                    clear hP2 hT2
                    obtain ⟨j, hj, rfl, hP2, hT2, hbj⟩ := hrel
                    by_cases hjl : j < t.fs.length
                    · obtain ⟨bx, ox, hax, hbx, hcx⟩ : ∃ b off, a1 = some ⟨b, off, none⟩ ∧ b < wr.heap.size ∧ AtB wr b off (fcells t.fs) := by
                        rcases hfh0.below hP2.low with h | h
                        · exfalso
                          have := congrArg List.length h
                          rw [fcells, flat_length Fld.cells 11 (fun _ => rfl), List.length_nil] at this
                          omega
                        · exact h
                      subst hax
                      obtain ⟨d0, d1, d2, d3, d4, d5, d6, d7, d8, d9, d10⟩ := fld11 (fld_at hcx hjl)
                      have hfok := hsok.fok t.fs[j] (List.getElem_mem _)
                      have hpj := prJ_succ ss [32, 32, 32, 32] true t.fs j
                      rw [fAt_eq hjl] at hpj
                      obtain ⟨f, hf⟩ : ∃ f, f = t.fs[j] := ⟨_, rfl⟩
                      rw [← hf] at d0 d1 d2 d3 d4 d5 d6 d7 d8 d9 d10 hfok hpj
                      have HPJ : Hid _ := hpj
                      clear hf hcx hpj
                      have hfl := printF_len hss hfok j
                      cases hu : (f.union == true) with
                      | false =>
                        have hu' : f.union = false := by cases hfu : f.union <;> rw [hfu] at hu <;> first | rfl | cases hu
                        go_wp2_with fail
                        go_roundw
                        case rel => exact ⟨j + 1, by omega, by go_num, by rw [HPJ.out, hu, if_neg (by simp), List.append_nil]; exact hP2.alloc _, hT2.alloc _, by rw [HPJ.out, hu, if_neg (by simp), List.append_nil]; omega⟩
                        case measure => simp [intOf]; omega
                      | true =>
                        have hu' : f.union = true := by simpa using hu
                        have hfc : f.cells = [.string f.name, .int .u8 f.t.kind, .int .u8 f.t.elem, .int .u8 f.t.ref, .int .u8 f.t.nest, .int .u8 f.p.bits, .int .u16 f.p.off, .int .u8 f.p.slot, .bool f.p.isPtr, .int .u64 f.dflt, .bool true] := by unfold Fld.cells; rw [hu']
                        have HFC : Hid _ := hfc
                        clear hfc
                        go_upto_region 20 with fail
                        have hFb : Own (wr.alloc (.cells #[.string f.name, .int .u8 f.t.kind, .int .u8 f.t.elem, .int .u8 f.t.ref, .int .u8 f.t.nest, .int .u8 f.p.bits, .int .u16 f.p.off, .int .u8 f.p.slot, .bool f.p.isPtr, .int .u64 f.dflt, .bool true] 34)) wr.heap.size 34 [.string f.name, .int .u8 f.t.kind, .int .u8 f.t.elem, .int .u8 f.t.ref, .int .u8 f.t.nest, .int .u8 f.p.bits, .int .u16 f.p.off, .int .u8 f.p.slot, .bool f.p.isPtr, .int .u64 f.dflt, .bool true] := Own.new _ _ _
                        have hP3 := hP2.alloc (.cells #[.string f.name, .int .u8 f.t.kind, .int .u8 f.t.elem, .int .u8 f.t.ref, .int .u8 f.t.nest, .int .u8 f.p.bits, .int .u16 f.p.off, .int .u8 f.p.slot, .bool f.p.isPtr, .int .u64 f.dflt, .bool true] 34)
                        have hT3 := hT2.alloc (.cells #[.string f.name, .int .u8 f.t.kind, .int .u8 f.t.elem, .int .u8 f.t.ref, .int .u8 f.t.nest, .int .u8 f.p.bits, .int .u16 f.p.off, .int .u8 f.p.slot, .bool f.p.isPtr, .int .u64 f.dflt, .bool true] 34)
                        obtain ⟨fb, hfb⟩ : ∃ fb, fb = wr.heap.size := ⟨_, rfl⟩
                        generalize wr.alloc (.cells #[.string f.name, .int .u8 f.t.kind, .int .u8 f.t.elem, .int .u8 f.t.ref, .int .u8 f.t.nest, .int .u8 f.p.bits, .int .u16 f.p.off, .int .u8 f.p.slot, .bool f.p.isPtr, .int .u64 f.dflt, .bool true] 34) = W3 at *
                        rw [← hfb] at hFb ⊢
                        clear hfb d0 d1 d2 d3 d4 d5 d6 d7 d8 d9 d10
                        have y0 := hFb.cell (j := 0) rfl
                        have y1 := hFb.cell (j := 1) rfl
                        have y2 := hFb.cell (j := 2) rfl
                        have y3 := hFb.cell (j := 3) rfl
                        have y4 := hFb.cell (j := 4) rfl
                        have y5 := hFb.cell (j := 5) rfl
                        have y6 := hFb.cell (j := 6) rfl
                        have y7 := hFb.cell (j := 7) rfl
                        have y8 := hFb.cell (j := 8) rfl
                        have y9 := hFb.cell (j := 9) rfl
                        have y10 := hFb.cell (j := 10) rfl
                        have hltF := hFb.lt
                        have HLOW := hP3.low.size
                        have hbj2 : (bs3 ++ prJ ss [32, 32, 32, 32] true t.fs j).length ≤ 20000 := by omega
                        have hnx : Hid (bs3 ++ prJ ss [32, 32, 32, 32] true t.fs (j + 1) = (bs3 ++ prJ ss [32, 32, 32, 32] true t.fs j) ++ ([32, 32, 32, 32] ++ printF ss f j)) := by rw [Hid, HPJ.out, hu, if_pos rfl]; simp
                        have hnl : Hid ((bs3 ++ prJ ss [32, 32, 32, 32] true t.fs (j + 1)).length ≤ bs3.length + 64 * (j + 1)) := by rw [Hid, hnx.out]; simp only [List.length_append, List.length_cons, List.length_nil] at hbj hfl ⊢; omega
                        generalize bs3 ++ prJ ss [32, 32, 32, 32] true t.fs j = bsj at *
                        have hcp : ∀ (w' : World) (v' : Value), PrN W0 v' (bsj ++ [32, 32, 32, 32]) w' → Calls Faeg.prog 33 #[.pointer (some ⟨b, o, none⟩), v', .agg #[.string f.name, .int .u8 f.t.kind, .int .u8 f.t.elem, .int .u8 f.t.ref, .int .u8 f.t.nest, .int .u8 f.p.bits, .int .u16 f.p.off, .int .u8 f.p.slot, .bool f.p.isPtr, .int .u64 f.dflt, .bool true], .int .i64 j] w' fun r w9 => ∃ v9, r = .returned v9 ∧ BRow w9 W0.heap.size v9 (bsj ++ [32, 32, 32, 32] ++ printF ss f j) ∧ Below W0.heap.size W0 w9 ∧ ∀ g e cs, Own w' g e cs → (5 : TypeId) ≠ e → Own w9 g e cs := by
                          intro w' v' hPp
                          have hcc := printField_any ss b o f j (bsj ++ [32, 32, 32, 32]) v' W0 w' hS hPp.low hPp.row hss hfok (by omega) (by rw [List.length_append]; simp; omega) hs4
                          rw [HFC.out] at hcc
                          exact hcc
                        have HCP : Hid _ := hcp
                        clear hcp
                        go_region_law (first | (refine step_app_str rfl (.tmp 63) (.const (.string ⟨#[32, 32, 32, 32]⟩)) 22 9 rfl W0.heap.size 5 i5 under22 under9 hi5 hz0 hz1 hz2 _ bsj.length (bcells bsj) rfl (World.ownsRow.drew hP3.row) ⟨#[32, 32, 32, 32]⟩ rfl (by unfold maxLen; rw [show (ByteArray.mk #[32, 32, 32, 32]).size = 4 from rfl]; omega) (by rw [show (ByteArray.mk #[32, 32, 32, 32]).size = 4 from rfl]; omega) HLOW ?_; intro v' w' hr' hg'; have hg6 : W3.grownBy w' _ := ⟨hg'.os, hg'.tape, hg'.output, hg'.size, hg'.block⟩; have hb4 := BRow.str hr'; rw [show (ByteArray.mk #[32, 32, 32, 32]).toList = [32, 32, 32, 32] from ByteArray.toList_mk _] at hb4; have hP4 := hP3.grown hb4 hg6; have hFb4 := hP3.own hFb (by decide) hg6; have hT4 := hP3.own hT3 (by decide) hg6; have z0 := hFb4.cell (j := 0) rfl; have z1 := hFb4.cell (j := 1) rfl; have z2 := hFb4.cell (j := 2) rfl; have z3 := hFb4.cell (j := 3) rfl; have z4 := hFb4.cell (j := 4) rfl; have z5 := hFb4.cell (j := 5) rfl; have z6 := hFb4.cell (j := 6) rfl; have z7 := hFb4.cell (j := 7) rfl; have z8 := hFb4.cell (j := 8) rfl; have z9 := hFb4.cell (j := 9) rfl; have z10 := hFb4.cell (j := 10) rfl; have hltF4 := hFb4.lt) | (refine step_call33 rfl (.tmp 62) (.tmp 64) (.tmp 65) (.tmp 66) #[48, 22, 34, 3] rfl (.pointer (some ⟨b, o, none⟩)) v' (.agg #[.string f.name, .int .u8 f.t.kind, .int .u8 f.t.elem, .int .u8 f.t.ref, .int .u8 f.t.nest, .int .u8 f.p.bits, .int .u16 f.p.off, .int .u8 f.p.slot, .bool f.p.isPtr, .int .u64 f.dflt, .bool true]) (.int .i64 j) rfl rfl rfl rfl (HCP.out w' v' hP4) ?_; rintro r w9 ⟨v9, rfl, hb9, hl9, hk9⟩; refine ⟨_, rfl, ?_⟩))
                        all_goals as_aux_lemma =>
                          go_wp2_with fail
                          go_roundw
                          case rel => exact ⟨j + 1, by omega, by go_num, by rw [hnx.out, ← List.append_assoc]; exact ⟨hb9, hl9⟩, hk9 _ _ _ hT4 (by decide), hnl.out⟩
                          case measure => simp [intOf]; omega
                    · have hje : j = t.fs.length := by omega
                      subst hje
                      rw [prJ_all] at hP2 hbj
                      have hb4 : (bs3 ++ printFs ss [32, 32, 32, 32] true t.fs 0).length ≤ 3000 * k + 2100 := by omega
                      generalize bs3 ++ printFs ss [32, 32, 32, 32] true t.fs 0 = bs4 at *
                      have HLOW := hP2.low.size
                      go_wp2_with (at_builtin; refine Go.Lib.wpList_append_own_string _ rfl (.tmp 69) (.const (.string ⟨#[32, 32, 125, 10]⟩)) 22 9 rfl W0.heap.size 5 i5 under22 under9 hi5 hz0 hz1 hz2 _ bs4.length (bcells bs4) rfl hP2.row ⟨#[32, 32, 125, 10]⟩ rfl (by unfold maxLen; rw [show (ByteArray.mk #[32, 32, 125, 10]).size = 4 from rfl]; omega) (by rw [show (ByteArray.mk #[32, 32, 125, 10]).size = 4 from rfl]; omega) HLOW ?_; intro v' w' hr' hg' _)
                      go_meet
                      have hbv := BRow.str hr'
                      rw [show (ByteArray.mk #[32, 32, 125, 10]).toList = [32, 32, 125, 10] from ByteArray.toList_mk _] at hbv
                      rw [if_neg hz, HR.out]
                      exact ⟨hP2.grown hbv hg', by rw [List.length_append]; simp; omega⟩
              case rest =>
                obtain ⟨hP5, hb5⟩ := hcut
                have HT2 : Hid (bs0 ++ printT ss t = (bs2 ++ (if t.tag.bits = 0 then [] else sUnionP ++ printFs ss [32, 32, 32, 32] true t.fs 0 ++ [32, 32, 125, 10])) ++ [125, 10]) := by rw [Hid, HT1.out]; simp only [List.append_assoc]
                generalize bs2 ++ (if t.tag.bits = 0 then [] else sUnionP ++ printFs ss [32, 32, 32, 32] true t.fs 0 ++ [32, 32, 125, 10]) = bs5 at *
                clear HLOW
                have HLOW := hP5.low.size
                go_wp2_with (at_builtin; refine Go.Lib.wpList_append_own_string _ rfl (.tmp 71) (.const (.string ⟨#[125, 10]⟩)) 22 9 rfl W0.heap.size 5 i5 under22 under9 hi5 hz0 hz1 hz2 _ bs5.length (bcells bs5) rfl hP5.row ⟨#[125, 10]⟩ rfl (by unfold maxLen; rw [show (ByteArray.mk #[125, 10]).size = 2 from rfl]; omega) (by rw [show (ByteArray.mk #[125, 10]).size = 2 from rfl]; omega) HLOW ?_; intro v' w' hr' hg' _)
                have hbv := BRow.str hr'
                rw [show (ByteArray.mk #[125, 10]).toList = [125, 10] from ByteArray.toList_mk _, ← HT2.out, ← HTA.out] at hbv
                have hln : ((ss.take (k + 1)).flatMap (printT ss)).length ≤ 3000 * (k + 1) := by rw [HTA.out, HT2.out, List.length_append]; simp; omega
                go_roundw
                case rel => exact ⟨k + 1, by omega, by go_num, hP5.grown hbv hg', hln⟩
                case measure => simp [intOf]; omega
      · have hke : k = ss.length := by omega
        subst hke
        rw [List.take_of_length_le (Nat.le_refl _)] at hP hbl
        have hps : printS ss = ss.flatMap (printT ss) := rfl
        have HPS : Hid _ := hps
        clear hps
        obtain ⟨bz, hbz⟩ : ∃ bz, bz = ss.flatMap (printT ss) := ⟨_, rfl⟩
        rw [← hbz] at hP hbl HPS
        clear hbz
        have hcv := conv_brow hP.row
        obtain ⟨va, vc, rfl, -⟩ := Has.own hP.row
        go_wp2_with fail
        go_ret
        refine ⟨?_, hbW.trans (hP.low.mono hbW.size)⟩
        rw [HPS.out]
        rfl
end Go.Proofs.Ygcfae
