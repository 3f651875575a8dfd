import Derived.Test.YgcfaeTyp
import Derived.Test.YgcfaeVal
import Derived.Deep.RegionLaw
namespace Go.Proofs.Ygcfae
open Go.RowKit

/-! The memory of a struct that is being read. -/

theorem own_MT {n0 pb lo : Nat} {es : List TypeId} {w w1 : World} {g : Nat} {e : TypeId} {cs : List Value} (h : Own w g e cs) (hm : MT n0 pb lo es w w1) (hne : g ≠ pb) (hlo : g < lo) (he : e ∉ es) : Own w1 g e cs := by
  refine h.block (hm.block g h.lt ?_)
  rintro (h1 | h1 | ⟨-, cs', e', fz, h1, h2⟩)
  · exact hne h1
  · omega
  · rw [h] at h2; cases h2; exact he h1
theorem row_MT {n0 pb lo : Nat} {es : List TypeId} {w w1 : World} {base : Nat} {e : TypeId} {size n : Nat} {v : Value} {xs : List Value} (h : w.ownsRow base e size v n xs) (hm : MT n0 pb lo es w w1)
    (hne : v.ownBlock ≠ some pb) (hlo : ∀ k, v.ownBlock = some k → k < lo) (he : e ∉ es) : w1.ownsRow base e size v n xs := by
  refine ⟨h.1, ?_⟩
  rcases h.2 with h2 | ⟨g, cap, cur, rfl, hb, hg, hr⟩
  · exact .inl h2
  · refine .inr ⟨g, cap, cur, rfl, hb, ?_, hr⟩
    rw [hm.block g (lt_of_block hg) ?_]; exact hg
    rintro (h1 | h1 | ⟨-, cs', e', fz, h1, h2⟩)
    · exact hne (by rw [h1]; rfl)
    · have := hlo g rfl; omega
    · rw [hg] at h2; cases h2; exact he h1

/-- the cells of the numbers -/
def ncells (ns : List Nat) : List Value := ns.map fun (n : Nat) => .int .i64 n
theorem ncells_snoc (ns : List Nat) (n : Nat) : ncells (ns ++ [n]) = ncells ns ++ [.int .i64 n] := by simp [ncells]

/-- the cells of a struct of which only the name and the fields are known -/
def scs (nm : ByteArray) (fv : Value) : List Value := [.string nm, fv, .int .u8 0, .int .u16 0, .int .u8 0, .bool false, .int .u8 0, .int .u8 0]

/-- the parser's memory while a struct is being read -/
structure FS (n0 lo pb tb : Nat) (T : ByteArray) (sv : Value) (nm : ByteArray) (fs : List Fld) (ns : List Nat) (us : List (Int × ByteArray)) (l : Lx) (uv nv fv : Value) (w : World) : Prop where
  par : Par w pb T l sv uv nv
  st : Own w tb 70 (scs nm fv)
  fs : w.ownsRow lo 34 11 fv fs.length (fcells fs)
  ns : w.ownsRow lo 3 1 nv ns.length (ncells ns)
  us : Uses w n0 uv us

section
variable {n0 lo pb tb : Nat} {T : ByteArray} {sv : Value} {nm : ByteArray} {fs : List Fld} {ns : List Nat} {us : List (Int × ByteArray)} {l : Lx} {uv nv fv : Value} {w w1 : World}
theorem FS.ne (h : FS n0 lo pb tb T sv nm fs ns us l uv nv fv w) : tb ≠ pb := h.par.ne h.st (by decide)
theorem FS.calm (h : FS n0 lo pb tb T sv nm fs ns us l uv nv fv w) (hb : Below w.heap.size w w1) : FS n0 lo pb tb T sv nm fs ns us l uv nv fv w1 :=
  ⟨h.par.calm hb, h.st.below hb h.st.lt, row_calm h.fs hb, row_calm h.ns hb, row_calm h.us hb⟩
theorem FS.alloc (h : FS n0 lo pb tb T sv nm fs ns us l uv nv fv w) (o : Obj) : FS n0 lo pb tb T sv nm fs ns us l uv nv fv (w.alloc o) :=
  ⟨h.par.alloc o, h.st.alloc o, h.fs.alloc o, h.ns.alloc o, h.us.alloc o⟩
theorem FS.step {l' : Lx} (h : FS n0 lo pb tb T sv nm fs ns us l uv nv fv w) (hm : Mod (· = pb) w w1) (hp : Par w1 pb T l' sv uv nv) : FS n0 lo pb tb T sv nm fs ns us l' uv nv fv w1 :=
  ⟨hp, h.st.mod hm h.ne, row_Par h.fs hm h.par (by decide), row_Par h.ns hm h.par (by decide), row_Par h.us hm h.par (by decide)⟩
theorem FS.typ {l' : Lx} {uv' : Value} {us' : List (Int × ByteArray)} (h : FS n0 lo pb tb T sv nm fs ns us l uv nv fv w) (hm : MT n0 pb w.heap.size [168] w w1) (hp : Par w1 pb T l' sv uv' nv) (hu : Uses w1 n0 uv' us') :
    FS n0 lo pb tb T sv nm fs ns us' l' uv' nv fv w1 := by
  obtain ⟨p, e, hl, ho⟩ := h.par
  exact ⟨hp, own_MT h.st hm h.ne h.st.lt (by decide), row_MT h.fs hm (row_ne h.fs ho (by decide)) (fun k hk => (h.fs.lt k hk).2) (by decide), row_MT h.ns hm (row_ne h.ns ho (by decide)) (fun k hk => (h.ns.lt k hk).2) (by decide), hu⟩
theorem FS.other (h : FS n0 lo pb tb T sv nm fs ns us l uv nv fv w) {g : Nat} {e : TypeId} {cs : List Value} (ho : Own w g e cs) (h1 : e ≠ 143) (h2 : e ≠ 70 ∨ g ≠ tb) (h3 : e ≠ 34 ∨ ∀ k, fv.ownBlock = some k → k ≠ g) (h4 : e ≠ 3) (h5 : e ≠ 168) (j : Nat) (u : Value) :
    FS n0 lo pb tb T sv nm fs ns us l uv nv fv (w.setCell ⟨g, j, none⟩ u) := by
  have hp : g ≠ pb := h.par.ne ho h1
  have hst : tb ≠ g := by
    rcases h2 with h2 | h2
    · rintro rfl
      have := h.st
      unfold Own at this ho
      rw [this] at ho; cases ho; exact h2 rfl
    · exact fun e1 => h2 e1.symm
  have hf : fv.ownBlock ≠ some g := by
    rcases h3 with h3 | h3
    · exact row_ne h.fs ho (fun e1 => h3 e1.symm)
    · exact fun e1 => h3 g e1 rfl
  exact ⟨h.par.other (a := ⟨g, j, none⟩) (Ne.symm hp) u, h.st.other (a := ⟨g, j, none⟩) hst u, ownsRow_setCell_other (a := ⟨g, j, none⟩) h.fs hf u, ownsRow_setCell_other (a := ⟨g, j, none⟩) h.ns (row_ne h.ns ho (fun e1 => h4 e1.symm)) u,
    ownsRow_setCell_other (a := ⟨g, j, none⟩) h.us (row_ne h.us ho (fun e1 => h5 e1.symm)) u⟩
end

theorem kept_row {w w' : World} {base base' : Nat} {e e' : TypeId} {size size' n n' : Nat} {v v' : Value} {xs xs' : List Value} (h : w.ownsRow base e size v n xs) (h' : w.ownsRow base' e' size' v' n' xs') (hne : e ≠ e') (hg : w.grownBy w' v'.ownBlock) :
    w'.ownsRow base e size v n xs := by
  refine h.kept hg ?_
  cases hv : v.ownBlock with
  | none => exact .inl rfl
  | some k => exact .inr (fun e1 => row_row h h' hne hv e1.symm)

section
variable {n0 lo pb tb : Nat} {T : ByteArray} {sv : Value} {nm : ByteArray} {fs : List Fld} {ns : List Nat} {us : List (Int × ByteArray)} {l : Lx} {uv nv fv : Value} {w w5 : World}
theorem FS.pushF {F : Fld} {o : Obj} {v5 : Value} (h : FS n0 lo pb tb T sv nm fs ns us l uv nv fv w) (hg : (w.alloc o).grownBy w5 fv.ownBlock) (hr : w5.ownsRow lo 34 11 v5 (fs.length + 1) (fcells fs ++ F.cells)) :
    FS n0 lo pb tb T sv nm (fs ++ [F]) ns us l uv nv v5 (w5.setCell ⟨tb, 1, none⟩ v5) := by
  obtain ⟨p, e, hl, ho⟩ := h.par
  have ho5 := (ho.alloc o).grown hg (Ne.symm (row_ne h.fs ho (by decide)))
  have st5 := (h.st.alloc o).grown hg (Ne.symm (row_ne h.fs h.st (by decide)))
  have hn5 := kept_row (h.ns.alloc o) (h.fs.alloc o) (by decide) hg
  have hu5 := kept_row (World.ownsRow.alloc h.us o) (h.fs.alloc o) (by decide) hg
  refine ⟨⟨p, e, hl, ho5.other (a := ⟨tb, 1, none⟩) (Ne.symm h.ne) v5⟩, st5.set 1 v5, ?_, ownsRow_setCell_other hn5 (row_ne hn5 st5 (by decide)) _, ownsRow_setCell_other hu5 (row_ne hu5 st5 (by decide)) _⟩
  rw [List.length_append, fcells_snoc]
  exact ownsRow_setCell_other hr (row_ne hr st5 (by decide)) _
theorem FS.pushN {n : Nat} {o : Obj} {v5 : Value} (h : FS n0 lo pb tb T sv nm fs ns us l uv nv fv w) (hg : (w.alloc o).grownBy w5 nv.ownBlock) (hr : w5.ownsRow lo 3 1 v5 (ns.length + 1) (ncells ns ++ [.int .i64 n])) :
    FS n0 lo pb tb T sv nm fs (ns ++ [n]) us l uv v5 fv (w5.setCell ⟨pb, 5, none⟩ v5) := by
  obtain ⟨p, e, hl, ho⟩ := h.par
  have ho5 := (ho.alloc o).grown hg (Ne.symm (row_ne h.ns ho (by decide)))
  have st5 := (h.st.alloc o).grown hg (Ne.symm (row_ne h.ns h.st (by decide)))
  have hf5 := kept_row (h.fs.alloc o) (h.ns.alloc o) (by decide) hg
  have hu5 := kept_row (World.ownsRow.alloc h.us o) (h.ns.alloc o) (by decide) hg
  refine ⟨⟨p, e, hl, ho5.set 5 v5⟩, st5.other (a := ⟨pb, 5, none⟩) h.ne v5, ownsRow_setCell_other hf5 (row_ne hf5 ho5 (by decide)) _, ?_, ownsRow_setCell_other hu5 (row_ne hu5 ho5 (by decide)) _⟩
  rw [List.length_append, ncells_snoc]
  exact ownsRow_setCell_other hr (row_ne hr ho5 (by decide)) _
end

theorem under97 : Faeg.prog.underlying 97 = some (.slice 3) := by kernel_rfl

/-- append of one element that lies in a block of its own, as one step of a region that draws -/
theorem step_app1g {P : Program} {ops : Array Oper} {o : Oper} {a : Act} {W : World} {K : Act → World → Prop} {Q : Exit → Act → World → Prop} {E : Prop}
    (hg : o.guard = none) (s x : Operand) (t : TypeId) (hop : o.op = Op.call { callee := Callee.builtin Builtin.append, args := #[s, x], argTypes := #[t, t] })
    (base : Nat) (e : TypeId) (i : TypeInfo) (z : Value) (size bytes : Nat) (h1 : P.underlying t = some (.slice e)) (h2 : P.info? e = some i) (hz : i.zero = some z) (h4 : i.size = size) (h5 : i.bytes = bytes)
    (hzs : z.cells.size = size) (hsz : 0 < size)
    (v : Value) (k : Nat) (xs : List Value) (cs : List Value) (nb : Nat) (hs : a.eval s = v) (hx : a.eval x = .slice (some ⟨nb, 0, none⟩) 1 1)
    (hown : W.ownsRow base e size v k xs) (hnb : Own W nb e cs) (hn : cs.length = size)
    (h1c : cs.all Value.oneCell' = true) (b1 : (k + 1) * bytes ≤ 140737488355328) (b2 : k + 1 ≤ maxLen) (hb : base ≤ W.heap.size)
    (hK : ∀ v' w', w'.ownsRow base e size v' (k + 1) (xs ++ cs) → W.grownBy w' v.ownBlock → K (a.put o.dst v') w') :
    if Region.wanted o (yielded ops a.tmps) = true then Oper.wp P o a W K Q else E := by
  have hw : Region.wanted o (yielded ops a.tmps) = true := by simp [Region.wanted, hg]
  rw [if_pos hw]
  refine wp_append_own W s x t hop base e i z size bytes h1 h2 hz h4 h5 hzs hsz v k xs hs hown ⟨nb, 0, none⟩ 1 1 cs hx (by omega) ?_ (List.all_eq_true.1 h1c) b2 b1 hb (fun v' w' h2 h3 _ => hK v' w' h2 h3)
  intro j u hj
  rw [Addr.add_lit, Nat.zero_add]
  exact hnb.cell hj
end Go.Proofs.Ygcfae
