/-
  'Rows.RecTextTotalSaid' ('wordview/law.RecTextTotal'): the frame as the guide's tool wrote it; the walk out of YgcfaeRTT.
-/
import Derived.Test.YgcfaeRows
import Derived.Test.YgcfaeRTT
import Derived.WalkKit
import Derived.ProofKit
import Derived.OpenShut
import Derived.ShutString
import Derived.ChangeOld
import Derived.Below
namespace Go.Proofs.Ygcfae.recTextTotal
open Go.ChangeShapes Go.WideShapes Go.ChangeAt Go.RowKit
open Go.ChangeMaps (open_string shut_string)

theorem own : ownKnob Faeg.prog.godebug = none := by kernel_rfl
theorem laidOut : laidOutB Faeg.prog = true := by kernel_rfl

set_option maxRecDepth 100000 in
theorem lifted (os : Os) (started : os.Started) (H : Type) (enc : TypeId × Value → H) :
    ReturnsInHanded {} Faeg.checked os 6 .any (Rows.recTextTotalSpec.pre6 enc Faeg.prog Faeg.f6 Rows.recTextTotalRow.domain false) (Rows.recTextTotalSpec.post enc Faeg.prog Faeg.f6 false true false false) := by
  refine returnsInHanded_of_change (C := Faeg.checked) own started (by kernel_rfl) Faeg.func6
    (ChangeSpec.witness6 (enc := enc) (C := Faeg.checked) false ⟨#[], #[.string ByteArray.empty], []⟩ 8 (by kernel_rfl) (by kernel_rfl) (by kernel_rfl) (by kernel_rfl)) ?_
  intro W base args ds gs before hval0 hW hcnd _
  have hval : ∀ (j : Nat) t v, Faeg.f6.params[j]? = some t → args[j]? = some v → Value.okWide Faeg.prog W .any base t v := hval0
  have hW' := hW
  obtain ⟨p, q, hA0, hV, rfl, hfz, hnd⟩ := hW
  have hA : DataW.TrodAll enc Faeg.prog W 0 (fun _ => true) true Faeg.f6.params.toList args.toList ds p := hA0
  rw [Faeg.params6] at hA hval
  obtain ⟨v0, vs0, d0, ds0, p0, q0, hargs, rfl, rfl, h0, r0⟩ := trodAll_cons hA
  obtain ⟨rfl, rfl, rfl⟩ := trodAll_nil r0
  obtain rfl : args = #[v0] := by cases args; simp_all
  obtain ⟨rfl, rfl⟩ := trodVars_none hV
  have k0 := h0
  have lt0 : ∀ x ∈ p0, x.block < W.heap.size := by obtain ⟨m, hm⟩ := k0; exact DataW.trod_lt m _ _ _ hm
  obtain ⟨a0, rfl, rfl, rfl, w0⟩ := open_string Faeg.underlying9 (hval 0 9 v0 rfl rfl) h0
  clear hA0 hval0
  refine (recTextTotal_any a0 W).mono fun e W' ⟨he, bel⟩ => ?_
  subst he
  exact ⟨_, rfl, _, _, _, [], _, [], hW', trodAll_mk1 (shut_bool Faeg.underlying4 _), (trodAll_cons_mk (Below.trod laidOut (by kernel_rfl) (of_decide_eq_true (by kernel_rfl)) k0 bel lt0) trodAll_mk0), rfl, bel.frame _, fun h => by cases h⟩

theorem over : Rows.recTextTotalRow.holds Faeg.pinned (OpenSpec.ofChange Rows.recTextTotalSpec) :=
  OpenClaim.holds_of_wide 6 Faeg.f6 rfl rfl rfl rfl rfl rfl rfl ⟨rfl, rfl, rfl, rfl, rfl⟩ rfl rfl rfl rfl rfl (by kernel_rfl) Faeg.func6 (by kernel_rfl)
    (of_decide_eq_true (by kernel_rfl)) (by unfold Func.isWrapper; first | (rw [if_pos (by decide +kernel)]; kernel_rfl) | (rw [if_neg (by decide +kernel)]; exact ⟨rfl, rfl⟩))
    (fun os started H enc _ => lifted os started H enc)

/-- ████ THE STATEMENT ████ -/
theorem proved : Rows.RecTextTotalSaid := over
end Go.Proofs.Ygcfae.recTextTotal
