/-
  RecText's argument, opened: a schema (type 46) as the row hands it in gives a list of structs that lie as SchV says, with every field's numbers in their kinds' ranges.
-/
import Derived.Test.YgcfaeRT
import Derived.Deep.Slices
import Derived.OpenShut
namespace Go.Proofs.Ygcfae
open Go.RowKit
set_option maxRecDepth 100000
section
variable {H : Type} {enc : TypeId × Value → H} {w : World} {base : Nat} {sp : Nat → Bool} {held : Bool}

theorem oc9 : Faeg.prog.cellsOf 9 = 1 := by kernel_rfl
theorem oc23 : Faeg.prog.cellsOf 23 = 1 := by kernel_rfl
theorem oc27 : Faeg.prog.cellsOf 27 = 4 := by kernel_rfl
theorem oc5 : Faeg.prog.cellsOf 5 = 1 := by kernel_rfl
theorem oc34 : Faeg.prog.cellsOf 34 = 11 := by kernel_rfl
theorem oc25 : Faeg.prog.cellsOf 25 = 1 := by kernel_rfl
theorem oc4 : Faeg.prog.cellsOf 4 = 1 := by kernel_rfl
theorem oc31 : Faeg.prog.cellsOf 31 = 4 := by kernel_rfl
theorem oc32 : Faeg.prog.cellsOf 32 = 1 := by kernel_rfl
theorem oc70 : Faeg.prog.cellsOf 70 = 8 := by kernel_rfl
theorem oc44 : Faeg.prog.cellsOf 44 = 1 := by kernel_rfl
theorem oc46 : Faeg.prog.cellsOf 46 = 1 := by kernel_rfl

theorem wf8 {z : Int} (h : (Lit.int .u8 z).wf = true) : 0 ≤ z ∧ z ≤ 255 := by
  have := bounds_u8 h
  omega

theorem wf64 {z : Int} (h : (Lit.int .u64 z).wf = true) : 0 ≤ z ∧ z ≤ 18446744073709551615 := by
  have := bounds_u64 h
  omega

theorem some_of_len {α : Type} {xs : List α} {n i : Nat} (h : xs.length = n) (hi : i < n) : ∃ x, xs[i]? = some x := ⟨xs[i], List.getElem?_eq_getElem (by omega)⟩

theorem open_typ {fuel : Nat} {cs : List Value} {x : DataW H × List MemPlace} (h : DataW.trod enc Faeg.prog w base sp held fuel 31 cs = some x) : ∃ t : Typ, TypOK t ∧ cs = t.cells := by
  obtain ⟨xs, n, -, -, hlen, hxl, hf⟩ := DataW.trod_struct Faeg.underlying31 h
  rw [oc31] at hlen
  obtain ⟨x0, e0⟩ := some_of_len hxl (show 0 < 4 by omega)
  obtain ⟨x1, e1⟩ := some_of_len hxl (show 1 < 4 by omega)
  obtain ⟨x2, e2⟩ := some_of_len hxl (show 2 < 4 by omega)
  obtain ⟨x3, e3⟩ := some_of_len hxl (show 3 < 4 by omega)
  match cs, hlen with
  | [v0, v1, v2, v3], _ =>
    have g0 := hf 0 _ rfl
    have g1 := hf 1 _ rfl
    have g2 := hf 2 _ rfl
    have g3 := hf 3 _ rfl
    simp only [oc5, List.getElem_toArray, List.getElem_cons_zero, List.getElem_cons_succ, List.drop_zero, List.drop_succ_cons, List.take_succ_cons, List.take_zero, e0, e1, e2, e3] at g0 g1 g2 g3
    obtain ⟨z0, q0, -, w0⟩ := DataW.trod_int Faeg.underlying5 g0
    obtain ⟨z1, q1, -, w1⟩ := DataW.trod_int Faeg.underlying5 g1
    obtain ⟨z2, q2, -, w2⟩ := DataW.trod_int Faeg.underlying5 g2
    obtain ⟨z3, q3, -, w3⟩ := DataW.trod_int Faeg.underlying5 g3
    refine ⟨⟨z0, z1, z2, z3⟩, ⟨(wf8 w0).1, (wf8 w0).2, (wf8 w1).1, (wf8 w1).2, (wf8 w2).1, (wf8 w2).2, (wf8 w3).1, (wf8 w3).2⟩, ?_⟩
    simp only [List.cons.injEq, and_true] at q0 q1 q2 q3
    rw [q0, q1, q2, q3]; rfl

theorem open_plc {fuel : Nat} {cs : List Value} {x : DataW H × List MemPlace} (h : DataW.trod enc Faeg.prog w base sp held fuel 27 cs = some x) : ∃ t : Plc, cs = t.cells := by
  obtain ⟨xs, n, -, -, hlen, hxl, hf⟩ := DataW.trod_struct Faeg.underlying27 h
  rw [oc27] at hlen
  obtain ⟨x0, e0⟩ := some_of_len hxl (show 0 < 4 by omega)
  obtain ⟨x1, e1⟩ := some_of_len hxl (show 1 < 4 by omega)
  obtain ⟨x2, e2⟩ := some_of_len hxl (show 2 < 4 by omega)
  obtain ⟨x3, e3⟩ := some_of_len hxl (show 3 < 4 by omega)
  match cs, hlen with
  | [v0, v1, v2, v3], _ =>
    have g0 := hf 0 _ rfl
    have g1 := hf 1 _ rfl
    have g2 := hf 2 _ rfl
    have g3 := hf 3 _ rfl
    simp only [oc5, oc25, oc4, List.getElem_toArray, List.getElem_cons_zero, List.getElem_cons_succ, List.drop_zero, List.drop_succ_cons, List.take_succ_cons, List.take_zero, e0, e1, e2, e3] at g0 g1 g2 g3
    obtain ⟨z0, q0, -, w0⟩ := DataW.trod_int Faeg.underlying5 g0
    obtain ⟨z1, q1, -, w1⟩ := DataW.trod_int Faeg.underlying25 g1
    obtain ⟨z2, q2, -, w2⟩ := DataW.trod_int Faeg.underlying5 g2
    obtain ⟨z3, q3, -⟩ := DataW.trod_bool Faeg.underlying4 g3
    refine ⟨⟨z0, z1, z2, z3⟩, ?_⟩
    simp only [List.cons.injEq, and_true] at q0 q1 q2 q3
    rw [q0, q1, q2, q3]; rfl

theorem open_fld {fuel : Nat} {cs : List Value} {x : DataW H × List MemPlace} (h : DataW.trod enc Faeg.prog w base sp held fuel 34 cs = some x) : ∃ f : Fld, FldOK f ∧ cs = f.cells := by
  obtain ⟨xs, n, -, -, hlen, hxl, hf⟩ := DataW.trod_struct Faeg.underlying34 h
  rw [oc34] at hlen
  obtain ⟨x0, e0⟩ := some_of_len hxl (show 0 < 5 by omega)
  obtain ⟨x1, e1⟩ := some_of_len hxl (show 1 < 5 by omega)
  obtain ⟨x2, e2⟩ := some_of_len hxl (show 2 < 5 by omega)
  obtain ⟨x3, e3⟩ := some_of_len hxl (show 3 < 5 by omega)
  obtain ⟨x4, e4⟩ := some_of_len hxl (show 4 < 5 by omega)
  match cs, hlen with
  | [v0, v1, v2, v3, v4, v5, v6, v7, v8, v9, v10], _ =>
    have g0 := hf 0 _ rfl
    have g1 := hf 1 _ rfl
    have g2 := hf 2 _ rfl
    have g3 := hf 3 _ rfl
    have g4 := hf 4 _ rfl
    simp only [oc9, oc31, oc27, oc32, oc4, List.getElem_toArray, List.getElem_cons_zero, List.getElem_cons_succ, List.drop_zero, List.drop_succ_cons, List.take_succ_cons, List.take_zero, e0, e1, e2, e3, e4] at g0 g1 g2 g3 g4
    obtain ⟨z0, q0, -, -⟩ := DataW.trod_string Faeg.underlying9 g0
    obtain ⟨z1, w1, q1⟩ := open_typ g1
    obtain ⟨z2, q2⟩ := open_plc g2
    obtain ⟨z3, q3, -, w3⟩ := DataW.trod_int Faeg.underlying32 g3
    obtain ⟨z4, q4, -⟩ := DataW.trod_bool Faeg.underlying4 g4
    refine ⟨⟨z0, z1, z2, z3, z4⟩, ⟨w1, (wf64 w3).1, (wf64 w3).2⟩, ?_⟩
    simp only [Typ.cells, Plc.cells, List.cons.injEq, and_true] at q0 q1 q2 q3 q4
    obtain ⟨r1, r2, r3, r4⟩ := q1
    obtain ⟨s1, s2, s3, s4⟩ := q2
    rw [q0, r1, r2, r3, r4, s1, s2, s3, s4, q3, q4]; rfl

theorem flat_atB {α : Type} (c : α → List Value) (sz : Nat) (hz : 0 < sz) (hc : ∀ x, (c x).length = sz) {b off : Nat} {fs : List α} (h : ∀ i (hi : i < fs.length), AtB w b (off + i * sz) (c fs[i])) : AtB w b off (fs.flatMap c) := by
  intro j u hj
  have hl : (fs.flatMap c).length = fs.length * sz := by
    clear h hj
    induction fs with
    | nil => simp
    | cons f fs ih => rw [List.flatMap_cons, List.length_append, ih, hc, List.length_cons, Nat.add_mul]; omega
  have hjl : j < fs.length * sz := by rw [← hl]; exact (List.getElem?_eq_some_iff.1 hj).1
  have hk : j / sz < fs.length := by rw [Nat.div_lt_iff_lt_mul hz]; exact hjl
  have hr : j % sz < sz := Nat.mod_lt _ hz
  have e : j / sz * sz + j % sz = j := by rw [Nat.mul_comm]; exact Nat.div_add_mod j sz
  have hg := flat_get c sz hc fs (j / sz) (j % sz) hk hr
  rw [e, hj] at hg
  have := h _ hk _ _ hg.symm
  rw [Nat.add_assoc, e] at this
  exact this

theorem range_get {α : Type} (n : Nat) (F : Nat → α) (i : Nat) (hi : i < ((List.range n).map F).length) : ((List.range n).map F)[i] = F i := by simp

theorem open_flds {fuel : Nat} {cs : List Value} {x : DataW H × List MemPlace} (h : DataW.trod enc Faeg.prog w base sp held fuel 23 cs = some x) :
    ∃ (fs : List Fld) (a : Option Addr) (cap : Nat), (∀ f ∈ fs, FldOK f) ∧ cs = [.slice a fs.length cap] ∧ Has w a (fcells fs) := by
  rcases Deep.open_slice Faeg.underlying23 h with ⟨rfl, -⟩ | ⟨a, len, cap, m, n, D, Pl, rfl, -, hl, -, hmm, -, hx⟩
  · exact ⟨[], none, 0, by simp, rfl, .inl rfl⟩
  · have hlm : len ≤ m := by rw [hmm]; split <;> omega
    rw [oc34] at hx
    haveI : Inhabited Fld := ⟨⟨.empty, ⟨0, 0, 0, 0⟩, ⟨0, 0, 0, false⟩, 0, false⟩⟩
    obtain ⟨F, hF⟩ := Deep.choose_lt (α := Fld) (n := len) (p := fun i f => FldOK f ∧ ∀ k, k < 11 → w.cell? ((a.add (i * 11)).add k) = f.cells[k]?) (fun i hi => by
      obtain ⟨cs', h1, h2⟩ := hx i (by omega)
      obtain ⟨f, hf, rfl⟩ := open_fld h2
      exact ⟨f, hf, (World.cells?_some h1).2.2⟩)
    refine ⟨(List.range len).map F, some a, cap, ?_, by simp, ?_⟩
    · intro f hf
      obtain ⟨i, hi, rfl⟩ := List.mem_map.1 hf
      exact (hF i (List.mem_range.1 hi)).1
    · by_cases h0 : len = 0
      · subst h0; exact .inl rfl
      · have hc0 := (hF 0 (by omega)).2 0 (by omega)
        rw [Nat.zero_mul] at hc0
        have hc1 : w.cell? a = some (.string (F 0).name) := hc0
        obtain ⟨b, off, spot⟩ := a
        obtain rfl : spot = none := World.cell?_spot hc1
        refine .inr ⟨b, off, rfl, World.block_lt_of_cell? w ⟨b, off, none⟩ hc1, flat_atB Fld.cells 11 (by omega) (fun _ => rfl) ?_⟩
        intro i hi
        have hi' : i < len := by simpa using hi
        rw [range_get]
        intro k u hk
        have hkl : k < 11 := (List.getElem?_eq_some_iff.1 hk).1
        have := (hF i hi').2 k hkl
        rw [Go.WideShapes.add_plain, Go.WideShapes.add_plain, hk] at this
        exact this

theorem open_str {fuel : Nat} {cs : List Value} {x : DataW H × List MemPlace} (h : DataW.trod enc Faeg.prog w base sp held fuel 70 cs = some x) :
    ∃ (s : Str) (a : Option Addr) (cap : Nat), (∀ f ∈ s.fs, FldOK f) ∧ cs = s.cells (.slice a s.fs.length cap) ∧ Has w a (fcells s.fs) := by
  obtain ⟨xs, n, -, -, hlen, hxl, hf⟩ := DataW.trod_struct Faeg.underlying70 h
  rw [oc70] at hlen
  obtain ⟨x0, e0⟩ := some_of_len hxl (show 0 < 5 by omega)
  obtain ⟨x1, e1⟩ := some_of_len hxl (show 1 < 5 by omega)
  obtain ⟨x2, e2⟩ := some_of_len hxl (show 2 < 5 by omega)
  obtain ⟨x3, e3⟩ := some_of_len hxl (show 3 < 5 by omega)
  obtain ⟨x4, e4⟩ := some_of_len hxl (show 4 < 5 by omega)
  match cs, hlen with
  | [v0, v1, v2, v3, v4, v5, v6, v7], _ =>
    have g0 := hf 0 _ rfl
    have g1 := hf 1 _ rfl
    have g2 := hf 2 _ rfl
    have g3 := hf 3 _ rfl
    have g4 := hf 4 _ rfl
    simp only [oc9, oc23, oc27, oc5, List.getElem_toArray, List.getElem_cons_zero, List.getElem_cons_succ, List.drop_zero, List.drop_succ_cons, List.take_succ_cons, List.take_zero, e0, e1, e2, e3, e4] at g0 g1 g2 g3 g4
    obtain ⟨z0, q0, -, -⟩ := DataW.trod_string Faeg.underlying9 g0
    obtain ⟨fs, a, cap, w1, q1, hh⟩ := open_flds g1
    obtain ⟨z2, q2⟩ := open_plc g2
    obtain ⟨z3, q3, -, -⟩ := DataW.trod_int Faeg.underlying5 g3
    obtain ⟨z4, q4, -, -⟩ := DataW.trod_int Faeg.underlying5 g4
    refine ⟨⟨z0, fs, z2, z3, z4⟩, a, cap, w1, ?_, hh⟩
    simp only [Plc.cells, List.cons.injEq, and_true] at q0 q1 q2 q3 q4
    obtain ⟨s1, s2, s3, s4⟩ := q2
    rw [q0, q1, s1, s2, s3, s4, q3, q4]; rfl

theorem open_sch {fuel : Nat} {cs : List Value} {x : DataW H × List MemPlace} (h : DataW.trod enc Faeg.prog w base sp held fuel 44 cs = some x) :
    ∃ (ss : List Str) (a : Option Addr) (cap : Nat), (∀ t ∈ ss, ∀ f ∈ t.fs, FldOK f) ∧ cs = [.slice a ss.length cap] ∧ SchV w a ss := by
  rcases Deep.open_slice Faeg.underlying44 h with ⟨rfl, -⟩ | ⟨a, len, cap, m, n, D, Pl, rfl, -, hl, -, hmm, -, hx⟩
  · exact ⟨[], none, 0, by simp, rfl, .inl rfl⟩
  · have hlm : len ≤ m := by rw [hmm]; split <;> omega
    rw [oc70] at hx
    haveI : Inhabited Str := ⟨⟨.empty, [], ⟨0, 0, 0, false⟩, 0, 0⟩⟩
    obtain ⟨F, hF⟩ := Deep.choose_lt (α := Str) (n := len) (p := fun i s => (∀ f ∈ s.fs, FldOK f) ∧ ∃ a' cap', (∀ k, k < 8 → w.cell? ((a.add (i * 8)).add k) = (s.cells (.slice a' s.fs.length cap'))[k]?) ∧ Has w a' (fcells s.fs)) (fun i hi => by
      obtain ⟨cs', h1, h2⟩ := hx i (by omega)
      obtain ⟨s, a', cap', hf, rfl, hh⟩ := open_str h2
      exact ⟨s, hf, a', cap', (World.cells?_some h1).2.2, hh⟩)
    refine ⟨(List.range len).map F, some a, cap, ?_, by simp, ?_⟩
    · intro f hf
      obtain ⟨i, hi, rfl⟩ := List.mem_map.1 hf
      exact (hF i (List.mem_range.1 hi)).1
    · by_cases h0 : len = 0
      · subst h0; exact .inl rfl
      · obtain ⟨-, a0, cap0, hc0, -⟩ := hF 0 (by omega)
        have hc0 := hc0 0 (by omega)
        rw [Nat.zero_mul] at hc0
        have hc1 : w.cell? a = some (.string (F 0).name) := hc0
        obtain ⟨b, off, spot⟩ := a
        obtain rfl : spot = none := World.cell?_spot hc1
        refine .inr ⟨b, off, rfl, ?_⟩
        intro i hi
        have hi' : i < len := by simpa using hi
        rw [range_get]
        obtain ⟨-, a', cap', hc, hh⟩ := hF i hi'
        refine ⟨a', cap', World.block_lt_of_cell? w ⟨b, off, none⟩ hc1, ?_, hh⟩
        intro k u hk
        have hkl : k < 8 := (List.getElem?_eq_some_iff.1 hk).1
        have := hc k hkl
        rw [Go.WideShapes.add_plain, Go.WideShapes.add_plain, hk] at this
        exact this
end
end Go.Proofs.Ygcfae
