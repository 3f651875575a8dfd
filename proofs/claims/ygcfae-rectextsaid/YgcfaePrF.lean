import Derived.Test.YgcfaeSame
import Derived.Lib.AppendStr
namespace Go.Proofs.Ygcfae
open Go.RowKit

/-- the cells of a row of bytes -/
def bcells (bs : Bs) : List Value := bs.map fun c => .int .u8 c.toNat
theorem strCells_eq (s : ByteArray) : Go.Lib.strCells s = bcells s.toList := by unfold Go.Lib.strCells bcells; rw [ByteArray.toList_eq]

/-- a row of bytes of the call's own -/
def BRow (w : World) (base : Nat) (v : Value) (bs : Bs) : Prop := w.ownsRow base 5 1 v bs.length (bcells bs)

theorem BRow.str {w : World} {base : Nat} {v : Value} {bs : Bs} {s : ByteArray} (h : w.ownsRow base 5 1 v (bs.length + s.size) (bcells bs ++ Go.Lib.strCells s)) : BRow w base v (bs ++ s.toList) := by
  unfold BRow
  rw [List.length_append, tl_len, show bcells (bs ++ s.toList) = bcells bs ++ bcells s.toList by simp [bcells], ← strCells_eq]
  exact h
theorem BRow.one {w : World} {base : Nat} {v : Value} {bs : Bs} {c : UInt8} (h : w.ownsRow base 5 1 v (bs.length + 1) (bcells bs ++ [.int .u8 c.toNat])) : BRow w base v (bs ++ [c]) := by
  unfold BRow
  rw [List.length_append, show bcells (bs ++ [c]) = bcells bs ++ [.int .u8 c.toNat] by simp [bcells]]
  exact h
theorem BRow.nil (w : World) (base : Nat) : BRow w base (.slice none 0 0) [] := World.ownsRow_nil _ _ _ _

theorem under9 : Faeg.prog.underlying 9 = some .string := by kernel_rfl

/-- what has been printed so far: the schema is as it was; of what lay in w0 all but rows of bytes is kept -/
structure PrM (W0 w0 : World) (fb : Nat) (f : Fld) (v : Value) (bs : Bs) (w : World) : Prop where
  row : BRow w W0.heap.size v bs
  fld : Own w fb 34 f.cells
  low : Below W0.heap.size W0 w
  keep : ∀ g e cs, Own w0 g e cs → (5 : TypeId) ≠ e → Own w g e cs

theorem PrM.grown {W0 w0 : World} {fb : Nat} {f : Fld} {v v' : Value} {bs bs' : Bs} {w w' : World} (h : PrM W0 w0 fb f v bs w) (hr : BRow w' W0.heap.size v' bs') (hg : w.grownBy w' v.ownBlock) : PrM W0 w0 fb f v' bs' w' :=
  ⟨hr, h.fld.grown hg (Ne.symm (row_ne h.row h.fld (by decide))), h.low.grown hg h.low.size (fun k hk => (World.ownsRow.lt h.row k hk).1),
    fun g e cs ho he => (h.keep g e cs ho he).grown hg (Ne.symm (row_ne h.row (h.keep g e cs ho he) he))⟩
theorem PrM.alloc {W0 w0 : World} {fb : Nat} {f : Fld} {v : Value} {bs : Bs} {w : World} (h : PrM W0 w0 fb f v bs w) (o : Obj) : PrM W0 w0 fb f v bs (w.alloc o) :=
  ⟨World.ownsRow.alloc h.row o, h.fld.alloc o, h.low.alloc h.low.size o, fun g e cs ho he => (h.keep g e cs ho he).alloc o⟩

theorem rep_len (n : Nat) (l : Bs) : (rep n l).length = n * l.length := by simp [rep]
theorem rep_snoc (n : Nat) (l : Bs) : rep (n + 1) l = rep n l ++ l := by
  unfold rep
  rw [List.replicate_succ', List.flatten_append]
  simp

theorem app_toList (a b : ByteArray) : (a ++ b).toList = a.toList ++ b.toList := by
  rw [ByteArray.toList_eq, ByteArray.toList_eq, ByteArray.toList_eq, ByteArray.data_append, Array.toList_append]

/-- append of m elements that have just been laid in a block of their own; the row may grow -/
theorem wpList_appNg {P : Program} {X : World} {ops : Array Oper} {rest : List Oper} {o : Oper} {a : Act} {Q : Exit → Act → World → Prop}
    (hg : o.guard = none) (s x : Operand) (t : TypeId) (hop : o.op = Op.call { callee := Callee.builtin Builtin.append, args := #[s, x], argTypes := #[t, t] })
    (base : Nat) (e : TypeId) (i : TypeInfo) (z : Value) (size bytes : Nat) (h1 : P.underlying t = some (.slice e)) (h2 : P.info? e = some i) (hz : i.zero = some z) (h4 : i.size = size) (h5 : i.bytes = bytes)
    (hzs : z.cells.size = size) (hsz : 0 < size)
    (v : Value) (k m : Nat) (xs : List Value) (cs : List Value) (nb : Nat) (hs : a.eval s = v) (hx : a.eval x = .slice (some ⟨nb, 0, none⟩) m m)
    (hown : X.ownsRow base e size v k xs) (hnb : nb = X.heap.size) (hn : cs.length = m * size)
    (h1c : cs.all Value.oneCell' = true) (b1 : (k + m) * bytes ≤ 140737488355328) (b2 : k + m ≤ maxLen) (hb : base ≤ X.heap.size)
    (hK : ∀ v' w', w'.ownsRow base e size v' (k + m) (xs ++ cs) → (X.alloc (.cells cs.toArray e)).grownBy w' v.ownBlock → wpList P ops Q rest (a.put o.dst v') w') :
    wpList P ops Q (o :: rest) a (X.alloc (.cells cs.toArray e)) :=
  wpList_append_own _ hg s x t hop base e i z size bytes h1 h2 hz h4 h5 hzs hsz v k xs hs (hown.alloc _) ⟨nb, 0, none⟩ m m cs hx hn (new_cells X cs e nb hnb) (List.all_eq_true.1 h1c) b2 b1
    (by simp; omega) (fun v' w' h2 h3 _ => hK v' w' h2 h3)

/-- append of a string, as one step of a region that draws -/
theorem step_app_str {P : Program} {ops : Array Oper} {o : Oper} {a : Act} {W : World} {K : Act → World → Prop} {Q : Exit → Act → World → Prop} {E : Prop}
    (hg : o.guard = none) (sl x : Operand) (t u : TypeId) (hop : o.op = Op.call { callee := Callee.builtin Builtin.append, args := #[sl, x], argTypes := #[t, u] })
    (base : Nat) (e : TypeId) (i : TypeInfo) (ht : P.underlying t = some (.slice e)) (hu : P.underlying u = some .string) (hi : P.info? e = some i) (hz : i.zero = some (.int .u8 0)) (hsize : i.size = 1) (hby : i.bytes = 1)
    (v : Value) (n : Nat) (xs : List Value) (hs : a.eval sl = v) (hown : W.ownsRow base e 1 v n xs) (s : ByteArray) (hx : a.eval x = .string s)
    (h63 : n + s.size ≤ maxLen) (hbytes : n + s.size ≤ 140737488355328) (hbase : base ≤ W.heap.size)
    (hK : ∀ v' w', w'.ownsRow base e 1 v' (n + s.size) (xs ++ Go.Lib.strCells s) → W.grownBy w' v.ownBlock → K (a.put o.dst v') w') :
    if Region.wanted o (yielded ops a.tmps) = true then Oper.wp P o a W K Q else E := by
  have hw : Region.wanted o (yielded ops a.tmps) = true := by simp [Region.wanted, hg]
  rw [if_pos hw]
  obtain ⟨v', w', hr, h2, h3, h4⟩ := Go.Lib.run_append_own_string (P := P) W base t u o.type e i ht hu hi hz hsize hby v n xs hown s h63 hbytes hbase
  unfold Oper.wp execOp
  simp only [hop, resolve, invoke, builtin, Sem.run_bind, Sem.run_pure, Result.andThen_ok, List.map_toArray, List.map_cons, List.map_nil, hs, hx, hr]
  exact hK v' w' h2 h3

theorem index_hex (d : Nat) (h : d < 16) (w : World) : (Instr.index 9 (.string ⟨#[48, 49, 50, 51, 52, 53, 54, 55, 56, 57, 65, 66, 67, 68, 69, 70]⟩) (.int .u64 (d : Int))).run Faeg.prog w = .ok (.int .u8 ((hexD d).toNat : Int)) w := by
  rcases (show d = 0 ∨ d = 1 ∨ d = 2 ∨ d = 3 ∨ d = 4 ∨ d = 5 ∨ d = 6 ∨ d = 7 ∨ d = 8 ∨ d = 9 ∨ d = 10 ∨ d = 11 ∨ d = 12 ∨ d = 13 ∨ d = 14 ∨ d = 15 by omega) with rfl | rfl | rfl | rfl | rfl | rfl | rfl | rfl | rfl | rfl | rfl | rfl | rfl | rfl | rfl | rfl
  all_goals kernel_rfl

theorem hex_lit (d : Nat) (h : d < (ByteArray.mk #[48, 49, 50, 51, 52, 53, 54, 55, 56, 57, 65, 66, 67, 68, 69, 70]).size) : (ByteArray.mk #[48, 49, 50, 51, 52, 53, 54, 55, 56, 57, 65, 66, 67, 68, 69, 70])[d]'h = hexD d := by
  have : ∀ d : Fin 16, (ByteArray.mk #[48, 49, 50, 51, 52, 53, 54, 55, 56, 57, 65, 66, 67, 68, 69, 70])[d.1]'d.2 = hexD d.1 := by decide
  exact this ⟨d, h⟩

theorem hexFrom_len (v : Nat) : ∀ n, (hexFrom n v).length ≤ n
  | 0 => by simp [hexFrom]
  | n + 1 => by
    have := hexFrom_len v n
    unfold hexFrom
    split
    · simp; omega
    · simp; omega

theorem and15 {q : Nat} (h : q ≤ 18446744073709551615) : bits BinOp.and IntKind.u64 (q : Int) 15 = ((q % 16 : Nat) : Int) := by
  have := bits_and_u64_nat q 15 (by omega) (by omega)
  rw [show ((15 : Nat) : Int) = 15 from rfl] at this
  rw [this, Nat.and_two_pow_sub_one_eq_mod q 4]

set_option maxRecDepth 100000
set_option maxHeartbeats 20000000 in
theorem printField_any (ss : List Str) (sb so : Nat) (f : Fld) (i : Nat) (bs : Bs) (v : Value) (W0 w : World) (hS : SchAt W0 sb so ss) (hW : Below W0.heap.size W0 w) (hr : BRow w W0.heap.size v bs)
    (hss : NamesOK ss) (hf : FOK ss f) (hi : i < 16) (hbl : bs.length ≤ 100000) (_ : ss.length ≤ 4) :
    Calls Faeg.prog 33 #[.pointer (some ⟨sb, so, none⟩), v, .agg f.cells.toArray, .int .i64 i] w fun r w' => ∃ v', r = .returned v' ∧ BRow w' W0.heap.size v' (bs ++ printF ss f i) ∧ Below W0.heap.size W0 w' ∧ ∀ g e cs, Own w g e cs → (5 : TypeId) ≠ e → Own w' g e cs := by
  obtain ⟨i5, hi5, hz0, hz1, hz2⟩ := info_parts info5
  have hsz := hW.size
  have hM0 : PrM W0 w w.heap.size f v bs (w.alloc (.cells f.cells.toArray 34)) := ⟨World.ownsRow.alloc hr _, Own.new _ _ _, hW.alloc hsz _, fun g e cs ho _ => ho.alloc _⟩
  have hnl : f.name.size ≤ 8 := by
    have := hf.name
    rw [← tl_len]
    cases ht : f.name.toList with
    | nil => simp
    | cons c cs => rw [ht] at this; simp [isNameB] at this; simp; omega
  have c0 := hM0.fld.cell (j := 0) (u := .string f.name) rfl
  have hlt0 := hM0.fld.lt
  obtain ⟨nn, hnn⟩ := Int.eq_ofNat_of_zero_le hf.ok.t.n0
  have hsc := sound_cases hf.ok.t hf.sound
  have hn2 : nn ≤ 2 := by omega
  have hk0 := hf.ok.t.k0
  have he0 := hf.ok.t.e0
  have hpF : Hid (printF ss f i = f.name.toList ++ [32, 64] ++ printI i ++ [32, 58] ++ rep nn sListP ++ printK ss f.t ++ rep nn [41] ++ printD f.dflt ++ [59, 10]) := by
    rw [Hid]; unfold printF; rw [hnn]; rfl
  go_enter Faeg.func33, Faeg.ntmps33
  go_upto_region 1 with fail
  have hwa : w.alloc (.cells #[.string f.name, .int .u8 f.t.kind, .int .u8 f.t.elem, .int .u8 f.t.ref, .int .u8 f.t.nest, .int .u8 f.p.bits, .int .u16 f.p.off, .int .u8 f.p.slot, .bool f.p.isPtr, .int .u64 f.dflt, .bool f.union] 34) = w.alloc (.cells f.cells.toArray 34) := rfl
  obtain ⟨fb, hfb⟩ : ∃ fb, fb = w.heap.size := ⟨_, rfl⟩
  rw [← hfb] at hM0 c0 hlt0 ⊢
  have HFB : Hid _ := hfb
  clear hfb hwa
  generalize w.alloc (.cells f.cells.toArray 34) = W1 at *
  have hs1 : (f.name ++ ⟨#[32, 64]⟩).toList = f.name.toList ++ [32, 64] := by rw [app_toList, show (ByteArray.mk #[32, 64]).toList = [32, 64] from ByteArray.toList_mk _]
  have hs1' : (f.name ++ ⟨#[32, 64]⟩).size ≤ 10 := by rw [← tl_len, hs1, List.length_append, tl_len]; simp; omega
  have HLOW := hM0.low.size
  go_cut [1] (fun v1 wc => PrM W0 w fb f v1 (bs ++ (f.name.toList ++ [32, 64])) wc)
  case first =>
    go_wp2_with (at_builtin; refine Go.Lib.wpList_append_own_string _ rfl (.tmp 11) (.tmp 14) 22 9 rfl W0.heap.size 5 i5 under22 under9 hi5 hz0 hz1 hz2 _ bs.length (bcells bs) rfl hM0.row (f.name ++ ⟨#[32, 64]⟩) rfl (by unfold maxLen; omega) (by omega) HLOW ?_; intro v' w' hr' hg' _)
    go_meet
    rw [← hs1]
    exact hM0.grown (BRow.str hr') hg'
  case rest =>
    have hb1 : (bs ++ (f.name.toList ++ [32, 64])).length ≤ 100010 := by simp [tl_len]; omega
    have hbs1 : Hid (bs ++ printF ss f i = (bs ++ (f.name.toList ++ [32, 64])) ++ (printI i ++ ([32, 58] ++ (rep nn sListP ++ (printK ss f.t ++ (rep nn [41] ++ (printD f.dflt ++ [59, 10]))))))) := by rw [Hid, hpF.out]; simp
    generalize bs ++ (f.name.toList ++ [32, 64]) = bs1 at *
    clear hM0 c0 hlt0 HLOW
    obtain ⟨w1, rfl⟩ : ∃ w1, w1 = wc := ⟨_, rfl⟩
    have HLOW := hcut.low.size
    go_upto_if 17 with fail
    go_cut [1] (fun v2 wc => PrM W0 w fb f v2 (bs1 ++ (if 9 < i then [49] else [])) wc)
    case first =>
      by_cases h9 : 9 < i
      · have h9' : decide ((9 : Int) < (i : Int)) = true := by simp; omega
        go_wp2_with (at_builtin; refine wpList_app1g rfl (.tmp 18) (.tmp 19) 22 rfl W0.heap.size 5 i5 _ 1 1 under22 hi5 hz0 hz1 hz2 rfl (by decide) _ bs1.length (bcells bs1) [.int .u8 49] _ rfl rfl hcut.row rfl rfl rfl (by omega) (by unfold maxLen; omega) HLOW ?_; intro v' w' hr' hg')
        go_meet
        rw [if_pos h9]
        exact (hcut.alloc _).grown (BRow.one (c := 49) hr') hg'
      · have h9' : decide ((9 : Int) < (i : Int)) = false := by simp; omega
        go_wp2_with fail
        go_meet
        rw [if_neg h9, List.append_nil]
        exact hcut
    case rest =>
      have hb2 : (bs1 ++ (if 9 < i then [49] else [])).length ≤ 100011 := by rw [List.length_append]; split <;> simp <;> omega
      have hbs2 : Hid (bs ++ printF ss f i = (bs1 ++ (if 9 < i then [49] else [])) ++ ([UInt8.ofNat (48 + i % 10), 32, 58] ++ (rep nn sListP ++ (printK ss f.t ++ (rep nn [41] ++ (printD f.dflt ++ [59, 10])))))) := by rw [Hid, hbs1.out]; simp [printI]
      generalize bs1 ++ (if 9 < i then [49] else []) = bs2 at *
      clear HLOW
      obtain ⟨w2, rfl⟩ : ∃ w2, w2 = wc := ⟨_, rfl⟩
      have HLOW := hcut.low.size
      have hc48 : (((UInt8.ofNat (48 + i % 10)).toNat : Nat) : Int) = 48 + (i : Int) % 10 := by
        rw [UInt8.toNat_ofNat_of_lt' (by show _ < 256; omega)]; omega
      go_upto_region 4 with fail
      go_cut [1] (fun v3 wc => PrM W0 w fb f v3 (bs2 ++ [UInt8.ofNat (48 + i % 10), 32, 58]) wc)
      case first =>
        go_wp2_with (at_builtin; refine wpList_appNg rfl (.tmp 21) (.tmp 26) 22 rfl W0.heap.size 5 i5 _ 1 1 under22 hi5 hz0 hz1 hz2 rfl (by decide) _ bs2.length 3 (bcells bs2) _ _ rfl rfl hcut.row rfl rfl rfl (by omega) (by unfold maxLen; omega) HLOW ?_; intro v' w' hr' hg')
        go_meet
        refine (hcut.alloc _).grown ?_ hg'
        unfold BRow
        rw [List.length_append, show bcells (bs2 ++ [UInt8.ofNat (48 + i % 10), 32, 58]) = bcells bs2 ++ [.int .u8 (48 + (i : Int) % 10), .int .u8 32, .int .u8 58] by rw [bcells, List.map_append]; simp only [List.map_cons, List.map_nil, hc48]; rfl]
        exact hr'
      case rest =>
        have hb3 : (bs2 ++ [UInt8.ofNat (48 + i % 10), 32, 58]).length ≤ 100014 := by rw [List.length_append]; simp; omega
        have hbs3 : Hid (bs ++ printF ss f i = (bs2 ++ [UInt8.ofNat (48 + i % 10), 32, 58]) ++ (rep nn sListP ++ (printK ss f.t ++ (rep nn [41] ++ (printD f.dflt ++ [59, 10]))))) := by rw [Hid, hbs2.out]; simp
        generalize bs2 ++ [UInt8.ofNat (48 + i % 10), 32, 58] = bs3 at *
        clear HLOW hc48
        obtain ⟨w3, rfl⟩ : ∃ w3, w3 = wc := ⟨_, rfl⟩
        have hcell : ∀ w' v' b', PrM W0 w fb f v' b' w' → w'.cell? ⟨fb, 1, none⟩ = some (.int .u8 f.t.kind) ∧ w'.cell? ⟨fb, 2, none⟩ = some (.int .u8 f.t.elem) ∧ w'.cell? ⟨fb, 3, none⟩ = some (.int .u8 f.t.ref) ∧ w'.cell? ⟨fb, 4, none⟩ = some (.int .u8 nn) ∧ w'.cell? ⟨fb, 9, none⟩ = some (.int .u64 f.dflt) ∧ fb < w'.heap.size := by
          intro w' v' b' h
          refine ⟨h.fld.cell rfl, h.fld.cell rfl, h.fld.cell rfl, ?_, h.fld.cell rfl, h.fld.lt⟩
          have := h.fld.cell (j := 4) (u := .int .u8 f.t.nest) rfl
          rwa [hnn] at this
        obtain ⟨d1, d2, d3, d4, d9, hltf⟩ := hcell _ _ _ hcut
        have hk255 := hf.ok.t.k1
        have he255 := hf.ok.t.e1
        go_wp2_with fail
        go_loopw [34, 9, 1] (fun jv kv bv wl => ∃ j : Nat, j ≤ nn ∧ jv = .int .u8 j ∧ kv = .int .u8 (if j = 0 then f.t.kind else f.t.elem) ∧ PrM W0 w fb f bv (bs3 ++ rep j sListP) wl) (fun jv _ _ _ => nn - (intOf jv).toNat)
        case atStart => exact ⟨0, Nat.zero_le _, rfl, by rw [if_pos rfl], by rw [rep_zero, List.append_nil]; exact hcut⟩
        case round =>
          clear d1 d2 d3 d4 d9 hltf
          obtain ⟨j, hj, rfl, rfl, hP⟩ := hrel
          have HLOW := hP.low.size
          obtain ⟨d1, d2, d3, d4, d9, hltf⟩ := hcell _ _ _ hP
          have hlr : (bs3 ++ rep j sListP).length ≤ 100030 := by rw [List.length_append, rep_len]; simp [sListP]; omega
          by_cases hjn : j < nn
          · go_wp2_with (at_builtin; refine Go.Lib.wpList_append_own_string _ rfl (.tmp 39) (.const (.string ⟨#[76, 105, 115, 116, 40]⟩)) 22 9 rfl W0.heap.size 5 i5 under22 under9 hi5 hz0 hz1 hz2 _ (bs3 ++ rep j sListP).length (bcells (bs3 ++ rep j sListP)) rfl hP.row ⟨#[76, 105, 115, 116, 40]⟩ rfl (by unfold maxLen; rw [show (ByteArray.mk #[76, 105, 115, 116, 40]).size = 5 from rfl]; omega) (by rw [show (ByteArray.mk #[76, 105, 115, 116, 40]).size = 5 from rfl]; omega) HLOW ?_; intro v' w' hr' hg' _)
            have hb4 := BRow.str hr'
            rw [show (ByteArray.mk #[76, 105, 115, 116, 40]).toList = sListP from ByteArray.toList_mk _, List.append_assoc, ← rep_snoc] at hb4
            go_roundw
            case rel => exact ⟨j + 1, by omega, by go_num, by rw [if_neg (by omega)], hP.grown hb4 hg'⟩
            case measure => simp [intOf]; omega
          · have hjn2 : j = nn := by omega
            subst hjn2
            obtain ⟨kd, hkd⟩ : ∃ kd : Nat, (if j = 0 then f.t.kind else f.t.elem) = (kd : Int) := ⟨(if j = 0 then f.t.kind else f.t.elem).toNat, by split <;> omega⟩
            have hdeep : f.t.deep = (kd : Int) := by
              unfold Typ.deep
              rw [← hkd, hnn]
              by_cases h0 : j = 0
              · rw [if_neg (by omega), if_pos h0]
              · rw [if_pos (by omega), if_neg h0]
            rw [hkd]
            have hkd255 : (kd : Int) ≤ 255 := by rw [← hkd]; split <;> omega
            clear hkd
            have hbs4 : Hid (bs ++ printF ss f i = (bs3 ++ rep j sListP) ++ (printK ss f.t ++ (rep j [41] ++ (printD f.dflt ++ [59, 10])))) := by rw [Hid, hbs3.out]; simp
            generalize bs3 ++ rep j sListP = bs4 at *
            obtain ⟨w4, rfl⟩ : ∃ w4, w4 = wr := ⟨_, rfl⟩
            have hpk : (printK ss f.t).length ≤ 8 := by
              unfold printK
              split
              · next h13 =>
                have hnmd : f.t.named = true := by
                  unfold Typ.deep at h13
                  simp only [Typ.named, Bool.or_eq_true, Bool.and_eq_true, beq_iff_eq]
                  split at h13 <;> omega
                have hrf := named_ref hf hnmd
                have hnm := (nameAt_ok hss hrf.2).1
                show (nameAt ss f.t.ref.toNat).length ≤ 8
                cases ht : nameAt ss f.t.ref.toNat with
                | nil => simp
                | cons c cs => rw [ht] at hnm; simp [isNameB] at hnm; simp; omega
              · unfold kindNameB
                split
                · decide
                · have : ∀ n, (kNames.getD n []).length ≤ 8 := by
                    intro n
                    by_cases hn : n < 12
                    · have : ∀ n : Fin 12, (kNames.getD n.1 []).length ≤ 8 := by decide
                      exact this ⟨n, hn⟩
                    · rw [List.getD_eq_getElem?_getD, List.getElem?_eq_none (by simp [kNames]; omega)]; simp
                  exact this _
            go_upto_if 43 with fail
            go_cut [1] (fun v5 wc => PrM W0 w fb f v5 (bs4 ++ printK ss f.t) wc)
            case first =>
              by_cases h13 : kd = 13
              · subst h13
                have hnmd : f.t.named = true := by
                  unfold Typ.deep at hdeep
                  simp only [Typ.named, Bool.or_eq_true, Bool.and_eq_true, beq_iff_eq]
                  split at hdeep <;> omega
                obtain ⟨hr0, hr1⟩ := named_ref hf hnmd
                obtain ⟨n, hn⟩ := Int.eq_ofNat_of_zero_le hr0
                have hnl2 : n < ss.length := by omega
                have hpk2 : printK ss f.t = ss[n].name.toList := by
                  unfold printK; rw [if_pos (show f.t.deep = 13 from hdeep), hn]; simp [hnl2]
                rw [hn] at d3
                obtain ⟨sa, scap, c0, hltS, hst⟩ := hS.below hP.low
                obtain ⟨gb, go, rfl, hSt⟩ : ∃ gb go, sa = some ⟨gb, go, none⟩ ∧ ∀ i (hi : i < ss.length), StrAt w4 gb (go + i * 8) ss[i] := by
                  rcases hst with h | h
                  · rw [h] at hnl2; simp at hnl2
                  · exact h
                obtain ⟨a1, q1, hltg, hx1, -⟩ := hSt n hnl2
                have e0 := (str8 hx1).1
                have hnsz : ss[n].name.size ≤ 8 := by rw [← tl_len, ← hpk2]; exact hpk
                obtain ⟨nm, hnm⟩ : ∃ nm, nm = ss[n].name := ⟨_, rfl⟩
                rw [← hnm] at e0 hpk2 hnsz
                have HPK : Hid _ := hpk2
                clear hnm hpk2 hx1
                go_upto_region 12 with fail
                go_region_law (refine step_app_str rfl (.tmp 44) (.tmp 54) 22 9 rfl W0.heap.size 5 i5 under22 under9 hi5 hz0 hz1 hz2 _ bs4.length (bcells bs4) rfl (World.ownsRow.drew hP.row) nm rfl (by unfold maxLen; omega) (by omega) HLOW ?_; intro v' w' hr' hg')
                all_goals as_aux_lemma =>
                  go_wp2_with fail
                  go_meet
                  rw [HPK.out]
                  exact hP.grown (BRow.str hr') ⟨hg'.os, hg'.tape, hg'.output, hg'.size, hg'.block⟩
              · have e13 : ((kd : Int) == 13) = false := by simp; omega
                have hpk2 : printK ss f.t = kindNameB kd := by
                  unfold printK; rw [if_neg (by omega), hdeep]; rfl
                have hksz : (bsV (kindNameB kd)).size ≤ 8 := by rw [← tl_len, bsV_toList, ← hpk2]; exact hpk
                have HPK : Hid _ := hpk2
                clear hpk2
                go_wp2_with (first | (go_at_call 48; refine (kindName_any _ _).mono ?_; rintro e w' ⟨rfl, hw⟩; rw [hw]; clear hw) | (at_builtin; refine Go.Lib.wpList_append_own_string _ rfl (.tmp 56) (.tmp 58) 22 9 rfl W0.heap.size 5 i5 under22 under9 hi5 hz0 hz1 hz2 _ bs4.length (bcells bs4) rfl hP.row (bsV (kindNameB kd)) rfl (by unfold maxLen; omega) (by omega) HLOW ?_; intro v' w' hr' hg' _))
                go_meet
                have := BRow.str hr'
                rw [bsV_toList] at this
                rw [HPK.out]
                exact hP.grown this hg'
            case rest =>
              have hb5 : (bs4 ++ printK ss f.t).length ≤ 100050 := by rw [List.length_append]; omega
              have hbs5 : Hid (bs ++ printF ss f i = (bs4 ++ printK ss f.t) ++ (rep j [41] ++ (printD f.dflt ++ [59, 10]))) := by rw [Hid, hbs4.out]; simp
              generalize bs4 ++ printK ss f.t = bs5 at *
              clear d1 d2 d3 d4 d9 hltf HLOW hP
              obtain ⟨w5, rfl⟩ : ∃ w5, w5 = wc := ⟨_, rfl⟩
              obtain ⟨d1, d2, d3, d4, d9, hltf⟩ := hcell _ _ _ hcut
              go_wp2_with fail
              go_loopw [63, 1] (fun mv bv wl => ∃ m : Nat, m ≤ j ∧ mv = .int .u8 m ∧ PrM W0 w fb f bv (bs5 ++ rep m [41]) wl) (fun mv _ _ => j - (intOf mv).toNat)
              case atStart => exact ⟨0, Nat.zero_le _, rfl, by rw [rep_zero, List.append_nil]; exact hcut⟩
              case round =>
                clear d1 d2 d3 d4 d9 hltf
                obtain ⟨m, hm, rfl, hP⟩ := hrel
                have HLOW := hP.low.size
                obtain ⟨d1, d2, d3, d4, d9, hltf⟩ := hcell _ _ _ hP
                have hlr : (bs5 ++ rep m [41]).length ≤ 100060 := by rw [List.length_append, rep_len]; simp; omega
                by_cases hmj : m < j
                · go_wp2_with (at_builtin; refine wpList_app1g rfl (.tmp 65) (.tmp 66) 22 rfl W0.heap.size 5 i5 _ 1 1 under22 hi5 hz0 hz1 hz2 rfl (by decide) _ (bs5 ++ rep m [41]).length (bcells (bs5 ++ rep m [41])) [.int .u8 41] _ rfl rfl hP.row rfl rfl rfl (by omega) (by unfold maxLen; omega) HLOW ?_; intro v' w' hr' hg')
                  have hb6 := BRow.one (c := 41) hr'
                  rw [List.append_assoc, ← rep_snoc] at hb6
                  go_roundw
                  case rel => exact ⟨m + 1, by omega, by go_num, (hP.alloc _).grown hb6 hg'⟩
                  case measure => simp [intOf]; omega
                · have hmj2 : m = j := by omega
                  subst hmj2
                  have hbs6 : Hid (bs ++ printF ss f i = (bs5 ++ rep m [41]) ++ (printD f.dflt ++ [59, 10])) := by rw [Hid, hbs5.out]; simp
                  generalize bs5 ++ rep m [41] = bs6 at *
                  obtain ⟨w6, rfl⟩ : ∃ w6, w6 = wr := ⟨_, rfl⟩
                  obtain ⟨dv, hdv⟩ := Int.eq_ofNat_of_zero_le hf.ok.d0
                  have hd1 := hf.ok.d1
                  rw [hdv] at d9
                  go_upto_if 71 with fail
                  go_cut [1, 10] (fun v7 _ wc => PrM W0 w fb f v7 (bs6 ++ printD f.dflt) wc)
                  case first =>
                    by_cases hd0 : dv = 0
                    · have hne : ((dv : Int) != 0) = false := by simp [hd0]
                      go_wp2_with fail
                      go_meet
                      have : printD f.dflt = [] := by unfold printD; rw [if_pos (by omega)]
                      rw [this, List.append_nil]
                      exact hP
                    · have hne : ((dv : Int) != 0) = true := by simp [hd0]
                      have hpD : Hid (printD f.dflt = [32, 61, 32, 48, 120] ++ hexFrom 16 dv) := by rw [Hid]; unfold printD; rw [if_neg (by omega), hdv]; rfl
                      go_wp2_with (at_builtin; refine Go.Lib.wpList_append_own_string _ rfl (.tmp 72) (.const (.string ⟨#[32, 61, 32, 48, 120]⟩)) 22 9 rfl W0.heap.size 5 i5 under22 under9 hi5 hz0 hz1 hz2 _ bs6.length (bcells bs6) rfl hP.row ⟨#[32, 61, 32, 48, 120]⟩ rfl (by unfold maxLen; rw [show (ByteArray.mk #[32, 61, 32, 48, 120]).size = 5 from rfl]; omega) (by rw [show (ByteArray.mk #[32, 61, 32, 48, 120]).size = 5 from rfl]; omega) HLOW ?_; intro v' w' hr' hg' _)
                      have hb7 := BRow.str hr'
                      rw [show (ByteArray.mk #[32, 61, 32, 48, 120]).toList = [32, 61, 32, 48, 120] from ByteArray.toList_mk _] at hb7
                      have hP7 := hP.grown hb7 hg'
                      go_loopw [10, 1] (fun nv bv wl => ∃ (k : Nat) (pre : Bs), k ≤ 16 ∧ nv = .int .i64 (4 * (k : Int) - 4) ∧ PrM W0 w fb f bv (bs6 ++ [32, 61, 32, 48, 120] ++ pre) wl ∧ pre.length + k ≤ 16 ∧ Hid (hexFrom 16 dv = pre ++ hexFrom k dv)) (fun nv _ _ => (intOf nv + 4).toNat)
                      case atStart => exact ⟨16, [], by omega, rfl, by rw [List.append_nil]; exact hP7, by simp, rfl⟩
                      case round =>
                        clear d1 d2 d3 d4 d9 hltf HLOW hP hP7 hb7 hr' hg'
                        obtain ⟨k, pre, hk, rfl, hP, hpl, hH⟩ := hrel
                        have HLOW := hP.low.size
                        obtain ⟨d1, d2, d3, d4, d9, hltf⟩ := hcell _ _ _ hP
                        rw [hdv] at d9
                        cases k with
                        | zero =>
                          have e4 : 4 * ((0 : Nat) : Int) - 4 = -4 := rfl
                          rw [e4]
                          go_wp2_with fail
                          go_meet
                          rw [hpD.out, hH.out]
                          simpa [hexFrom] using hP
                        | succ k =>
                          have e4 : 4 * ((k + 1 : Nat) : Int) - 4 = ((4 * k : Nat) : Int) := by omega
                          rw [e4]
                          have hk16 : k < 16 := by omega
                          obtain ⟨q, hq⟩ : ∃ q, q = dv / 16 ^ k := ⟨_, rfl⟩
                          have hpow : (16 : Nat) ^ k = 2 ^ (4 * k) := by rw [Nat.pow_mul]
                          have hshr : (dv : Int) / 2 ^ (4 * k) = (q : Int) := by
                            rw [hq, hpow]
                            exact (Int.natCast_ediv dv (2 ^ (4 * k))).symm ▸ (by simp)
                          have hqd : q ≤ dv := by rw [hq]; exact Nat.div_le_self _ _
                          have h15 := and15 (q := q) (by omega)
                          have hix := index_hex (q % 16) (by omega)
                          have HQ : Hid _ := hq
                          clear hq hpow
                          by_cases hq0 : q = 0
                          · have hne0 : ((q : Int) != 0) = false := by simp [hq0]
                            have hex : Hid (hexFrom 16 dv = pre ++ hexFrom k dv) := by rw [Hid, hH.out, hexFrom, if_pos (by rw [← HQ.out]; exact hq0)]; rfl
                            clear hq0
                            go_wp2_with fail
                            go_roundw
                            case rel => exact ⟨k, pre, by omega, by go_num, hP, by omega, hex⟩
                            case measure => simp [intOf]; omega
                          · have hne0 : ((q : Int) != 0) = true := by simp [hq0]
                            have hex : Hid (hexFrom 16 dv = (pre ++ [hexD (q % 16)]) ++ hexFrom k dv) := by rw [Hid, hH.out, hexFrom, if_neg (by rw [← HQ.out]; exact hq0), ← HQ.out]; simp
                            clear hq0
                            have hq16 : q % 16 < (ByteArray.mk #[48, 49, 50, 51, 52, 53, 54, 55, 56, 57, 65, 66, 67, 68, 69, 70]).size := by show q % 16 < 16; omega
                            have hplen : (bs6 ++ [32, 61, 32, 48, 120] ++ pre).length ≤ 100090 := by rw [List.length_append, List.length_append]; simp; omega
                            obtain ⟨bsx, hbx⟩ : ∃ bsx, bsx = bs6 ++ [32, 61, 32, 48, 120] ++ pre := ⟨_, rfl⟩
                            rw [← hbx] at hP hplen
                            have HBX : Hid _ := hbx
                            clear hbx
                            go_wp2_with (at_builtin; refine wpList_app1g rfl (.tmp 83) (.tmp 90) 22 rfl W0.heap.size 5 i5 _ 1 1 under22 hi5 hz0 hz1 hz2 rfl (by decide) _ bsx.length (bcells bsx) [.int .u8 (((ByteArray.mk #[48, 49, 50, 51, 52, 53, 54, 55, 56, 57, 65, 66, 67, 68, 69, 70])[q % 16]'hq16).toNat : Int)] _ rfl rfl hP.row rfl rfl rfl (by omega) (by unfold maxLen; omega) HLOW ?_; intro v' w' hr' hg')
                            have hb9 := BRow.one hr'
                            rw [hex_lit (q % 16) hq16] at hb9
                            go_roundw
                            case rel => exact ⟨k, pre ++ [hexD (q % 16)], by omega, by go_num, by rw [← List.append_assoc, ← HBX.out]; exact (hP.alloc _).grown hb9 hg', by simp; omega, hex⟩
                            case measure => simp [intOf]; omega
                  case rest =>
                    have hbs7 : Hid (bs ++ printF ss f i = (bs6 ++ printD f.dflt) ++ [59, 10]) := by rw [Hid, hbs6.out]; simp
                    have hb7 : (bs6 ++ printD f.dflt).length ≤ 100090 := by
                      rw [List.length_append]
                      have : (printD f.dflt).length ≤ 21 := by
                        unfold printD
                        split
                        · simp
                        · have := hexFrom_len f.dflt.toNat 16
                          simp
                          omega
                      omega
                    generalize bs6 ++ printD f.dflt = bs7 at *
                    have HLOW7 := hcut.low.size
                    go_wp2_with (at_builtin; refine Go.Lib.wpList_append_own_string _ rfl (.tmp 92) (.const (.string ⟨#[59, 10]⟩)) 22 9 rfl W0.heap.size 5 i5 under22 under9 hi5 hz0 hz1 hz2 _ bs7.length (bcells bs7) rfl hcut.row ⟨#[59, 10]⟩ rfl (by unfold maxLen; rw [show (ByteArray.mk #[59, 10]).size = 2 from rfl]; omega) (by rw [show (ByteArray.mk #[59, 10]).size = 2 from rfl]; omega) HLOW7 ?_; intro v' w' hr' hg' _)
                    go_ret
                    have hb8 := BRow.str hr'
                    rw [show (ByteArray.mk #[59, 10]).toList = [59, 10] from ByteArray.toList_mk _] at hb8
                    refine ⟨_, rfl, ?_, (hcut.grown hb8 hg').low, (hcut.grown hb8 hg').keep⟩
                    rw [hbs7.out]
                    exact hb8
end Go.Proofs.Ygcfae
