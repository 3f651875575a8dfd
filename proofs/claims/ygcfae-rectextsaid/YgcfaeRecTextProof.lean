/-
  'Rows.RecTextSaid' ('wordview/law.RecText'): the row, after the frame of its neighbours; the argument opened in YgcfaeOpen; the walk out of YgcfaeRT.
-/
import Derived.Test.YgcfaeRows
import Derived.Test.YgcfaeOpen
import Derived.WalkKit
import Derived.ProofKit
import Derived.OpenShut
import Derived.ShutString
import Derived.ChangeOld
import Derived.Below
namespace Go.Proofs.Ygcfae.recText
open Go.ChangeShapes Go.WideShapes Go.ChangeAt Go.RowKit

theorem own : ownKnob Faeg.prog.godebug = none := by kernel_rfl
theorem laidOut : laidOutB Faeg.prog = true := by kernel_rfl

theorem one_of_size {cs : Array Value} (h : cs.size = 1) : ∃ u, cs = #[u] := by
  obtain ⟨l⟩ := cs
  match l, h with
  | [u], _ => exact ⟨u, rfl⟩

set_option maxRecDepth 100000 in
/-- the argument: a struct of one slice -/
theorem open_arg {H : Type} {enc : TypeId × Value → H} {W : World} {base : Nat} {sp : Nat → Bool} {held : Bool} {v : Value} {cs : Array Value} {d : DataW H} {ps : List MemPlace} (hv : v = .agg cs) (hsz : cs.size = 1) (h0 : DataW.Trod enc Faeg.prog W base sp held 46 v d ps) :
    ∃ (ss : List Str) (sa : Option Addr) (cap : Nat), v = .agg #[.slice sa ss.length cap] ∧ SchV W sa ss ∧ ∀ t ∈ ss, ∀ f ∈ t.fs, FldOK f := by
  subst hv
  obtain ⟨u, rfl⟩ := one_of_size hsz
  obtain ⟨fuel, hf⟩ := h0
  obtain ⟨xs, n, -, -, -, hxl, hfs⟩ := DataW.trod_struct Faeg.underlying46 hf
  obtain ⟨x0, e0⟩ := some_of_len hxl (show 0 < 1 by omega)
  have g0 := hfs 0 _ rfl
  simp only [oc44, Value.cells, List.getElem_toArray, List.getElem_cons_zero, List.drop_zero, List.take_succ_cons, List.take_zero, e0] at g0
  obtain ⟨ss, a, cap, hok, q, hS⟩ := open_sch g0
  simp only [List.cons.injEq, and_true] at q
  exact ⟨ss, a, cap, by rw [q], hS, hok⟩

set_option maxRecDepth 100000 in
theorem lifted (os : Os) (started : os.Started) (H : Type) (enc : TypeId × Value → H) :
    ReturnsInHanded {} Faeg.checked os 5 .any (Rows.recTextSpec.pre6 enc Faeg.prog Faeg.f5 Rows.recTextRow.domain false) (Rows.recTextSpec.post enc Faeg.prog Faeg.f5 false true false false) := by
  refine returnsInHanded_of_change (C := Faeg.checked) own started (by kernel_rfl) Faeg.func5
    (ChangeSpec.witness6 (enc := enc) (C := Faeg.checked) false ⟨#[], #[.agg #[.slice none 0 0]], []⟩ 8 (by kernel_rfl) (by kernel_rfl) (by kernel_rfl) (by kernel_rfl)) ?_
  intro W base args ds gs before hval0 hW hcnd _
  have hval : ∀ (j : Nat) t v, Faeg.f5.params[j]? = some t → args[j]? = some v → Value.okWide Faeg.prog W .any base t v := hval0
  have hW' := hW
  obtain ⟨p, q, hA0, hV, rfl, hfz, hnd⟩ := hW
  have hA : DataW.TrodAll enc Faeg.prog W 0 (fun _ => true) true Faeg.f5.params.toList args.toList ds p := hA0
  rw [Faeg.params5] at hA hval
  obtain ⟨v0, vs0, d0, ds0, p0, q0, hargs, rfl, rfl, h0, r0⟩ := trodAll_cons hA
  obtain ⟨rfl, rfl, rfl⟩ := trodAll_nil r0
  obtain rfl : args = #[v0] := by cases args; simp_all
  obtain ⟨rfl, rfl⟩ := trodVars_none hV
  have k0 := h0
  have lt0 : ∀ x ∈ p0, x.block < W.heap.size := by obtain ⟨m, hm⟩ := k0; exact DataW.trod_lt m _ _ _ hm
  obtain ⟨ss, sa, cap, rfl, hS, hok⟩ : ∃ (ss : List Str) (sa : Option Addr) (cap : Nat), v0 = .agg #[.slice sa ss.length cap] ∧ SchV W sa ss ∧ ∀ t ∈ ss, ∀ f ∈ t.fs, FldOK f := by
    obtain ⟨cs, hcs, hsz⟩ := okWide_struct Faeg.underlying46 (hval 0 46 v0 rfl rfl)
    exact open_arg hcs (hsz.trans oc46) h0
  clear hA0 hval0
  refine (recText_any ss sa cap W hS hok).mono fun e W' ⟨he, bel⟩ => ?_
  subst he
  exact ⟨_, rfl, _, _, _, [], _, [], hW', trodAll_mk1 (shut_bool Faeg.underlying4 _), (trodAll_cons_mk (Below.trod laidOut (by kernel_rfl) (of_decide_eq_true (by kernel_rfl)) k0 bel lt0) trodAll_mk0), rfl, bel.frame _, fun h => by cases h⟩

theorem over : Rows.recTextRow.holds Faeg.pinned (OpenSpec.ofChange Rows.recTextSpec) :=
  OpenClaim.holds_of_wide 5 Faeg.f5 rfl rfl rfl rfl rfl rfl rfl ⟨rfl, rfl, rfl, rfl, rfl⟩ rfl rfl rfl rfl rfl (by kernel_rfl) Faeg.func5 (by kernel_rfl)
    (of_decide_eq_true (by kernel_rfl)) (by unfold Func.isWrapper; first | (rw [if_pos (by decide +kernel)]; kernel_rfl) | (rw [if_neg (by decide +kernel)]; exact ⟨rfl, rfl⟩))
    (fun os started H enc _ => lifted os started H enc)

/-- ████ THE STATEMENT ████ -/
theorem proved : Rows.RecTextSaid := over
end Go.Proofs.Ygcfae.recText
