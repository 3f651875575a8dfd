/-
  'Rows.RecSoundSaid' ('wordview/law.RecSound'): the frame as the guide's tool wrote it; the walk out of the contracts and the law of layouts (YgcfaeLaw).
-/
import Derived.Test.YgcfaeRows
import Derived.Test.YgcfaeLaw
import Derived.WalkKit
import Derived.ProofKit
import Derived.OpenShut
import Derived.ShutString
import Derived.ChangeOld
import Derived.Below
namespace Go.Proofs.Ygcfae.recSound
open Go.ChangeShapes Go.WideShapes Go.ChangeAt Go.RowKit
open Go.ChangeMaps (open_string shut_string)
set_option linter.unusedVariables false

theorem own : ownKnob Faeg.prog.godebug = none := by kernel_rfl
theorem laidOut : laidOutB Faeg.prog = true := by kernel_rfl

/-- WHAT THE WALK IS TOLD OF A SLICE OF INTEGERS THAT CAME IN: it is nil; or it leads to a row of 'cap' cells, the numbers 'zs' (the first 'len' are its elements, the rest its spare room), each fitting its kind. -/
def IsRow (k : IntKind) (w : World) (a : Option Addr) (len cap : Nat) (zs : List Int) : Prop :=
  (a = none ∧ len = 0 ∧ cap = 0 ∧ zs = []) ∨
  ∃ x, a = some x ∧ len ≤ cap ∧ cap ≤ maxLen ∧ zs.length = cap ∧ (∀ i, i < zs.length → w.cell? (x.add i) = some (.int k (zs.getD i 0))) ∧ ∀ n ∈ zs, (Lit.int k n).wf = true

/-! ### STEP 1: THE WALK: the Go text returns true and writes nothing that was there. -/
theorem kdB_nonneg (z : Int) : 0 ≤ kdB z := by
  unfold kdB
  exact Int.tmod_nonneg _ (bounds_u8 (wf_bits BinOp.and IntKind.u8 z 127)).1

theorem walk (a0 : Option Addr) (len0 cap0 : Nat) (z0 : List Int) (w : World) (w0 : IsRow .u8 w a0 len0 cap0 z0) :
    Calls Faeg.prog 4 #[.slice a0 len0 cap0] w fun e w' => e = .returned (.bool true) ∧ Below w.heap.size w w' := by
  have hkk : ∀ zs : List Int, ∀ f ∈ zs.map mkF, 0 ≤ f.t.kind := by
    intro zs f hf
    obtain ⟨z, _, rfl⟩ := List.mem_map.1 hf
    exact kdB_nonneg z
  have hnil : ∀ (ao : Option Addr) (cap : Nat), Calls Faeg.prog 4 #[.slice ao 0 cap] w fun e w' => e = .returned (.bool true) ∧ Below w.heap.size w w' := by
    intro ao cap
    refine recSound_walk law_all [] (some ⟨w.heap.size, 0, none⟩) 0 0 (.slice ao 0 cap) w rfl (by simp) ?_
    refine (fieldsOf_nil ao cap w).mono ?_
    rintro e w' ⟨rfl, hb⟩
    exact ⟨rfl, .inl rfl, hb⟩
  rcases w0 with ⟨rfl, rfl, rfl, rfl⟩ | ⟨x, rfl, hl, hm, hz, hcell, hwz⟩
  · exact hnil none 0
  · by_cases h0 : len0 = 0
    · subst h0
      exact hnil _ _
    · have hp : 0 < z0.length := by omega
      obtain ⟨b, off, rfl, hc⟩ := ints_at hcell hp
      have hb : b < w.heap.size := World.block_lt_of_cell? w ⟨b, off + 0, none⟩ (hc 0 hp)
      have hcap : cap0 ≤ 9223372036854775807 := by unfold maxLen at hm; omega
      refine recSound_walk law_all ((z0.take (min len0 17)).map mkF) (some ⟨w.heap.size, 0, none⟩) (min len0 17) (min len0 17) _ w (by simp; omega) (hkk _) ?_
      refine fieldsOf_some (z0.take (min len0 17)) b off (min len0 17) len0 cap0 w (by simp; omega) rfl hl hcap hb ?_ ?_
      · intro j u hj
        rw [List.getElem?_map, List.getElem?_take] at hj
        split at hj
        · have hjl : j < z0.length := by omega
          have := hc j hjl
          rw [this]
          simp only [List.getElem?_eq_getElem hjl, Option.map_some, Option.some.injEq] at hj
          rw [← hj]
          simp [List.getElem?_eq_getElem hjl]
        · simp at hj
      · intro z hz'
        exact bounds_u8 (hwz z (List.mem_of_mem_take hz'))

/-! ### THE ROW's STEP: WRITTEN OUT: LEAVE IT -/
set_option maxRecDepth 100000 in
theorem lifted (os : Os) (started : os.Started) (H : Type) (enc : TypeId × Value → H) :
    ReturnsInHanded {} Faeg.checked os 4 .any (Rows.recSoundSpec.pre6 enc Faeg.prog Faeg.f4 Rows.recSoundRow.domain false) (Rows.recSoundSpec.post enc Faeg.prog Faeg.f4 false true false false) := by
  refine returnsInHanded_of_change (C := Faeg.checked) own started (by kernel_rfl) Faeg.func4
    (ChangeSpec.witness6 (enc := enc) (C := Faeg.checked) false ⟨#[], #[.slice none 0 0], []⟩ 8 (by kernel_rfl) (by kernel_rfl) (by kernel_rfl) (by kernel_rfl)) ?_
  intro W base args ds gs before hval0 hW hcnd _
  have hval : ∀ (j : Nat) t v, Faeg.f4.params[j]? = some t → args[j]? = some v → Value.okWide Faeg.prog W .any base t v := hval0
  have hW' := hW
  obtain ⟨p, q, hA0, hV, rfl, hfz, hnd⟩ := hW
  have hA : DataW.TrodAll enc Faeg.prog W 0 (fun _ => true) true Faeg.f4.params.toList args.toList ds p := hA0
  rw [Faeg.params4] at hA hval
  obtain ⟨v0, vs0, d0, ds0, p0, q0, hargs, rfl, rfl, h0, r0⟩ := trodAll_cons hA
  obtain ⟨rfl, rfl, rfl⟩ := trodAll_nil r0
  obtain rfl : args = #[v0] := by cases args; simp_all
  obtain ⟨rfl, rfl⟩ := trodVars_none hV
  obtain ⟨a0, len0, cap0, rfl⟩ := okWide_slice Faeg.underlying22 (hval 0 22 v0 rfl rfl)
  have k0 := h0
  have lt0 : ∀ x ∈ p0, x.block < W.heap.size := by obtain ⟨m, hm⟩ := k0; exact DataW.trod_lt m _ _ _ hm
  obtain ⟨z0, w0⟩ : ∃ zs, IsRow .u8 W a0 len0 cap0 zs := by
    obtain ⟨fuel, hf⟩ := h0
    rcases open_ints Faeg.underlying22 Faeg.underlying5 (by kernel_rfl) hf with ⟨hcs, _⟩ | ⟨x, l, c, zs, hcs, _, hl, hm, hz, _, hcell, hwz⟩
    · simp [Value.cells] at hcs
      obtain ⟨rfl, rfl, rfl⟩ := hcs
      exact ⟨[], .inl ⟨rfl, rfl, rfl, rfl⟩⟩
    · simp [Value.cells] at hcs
      obtain ⟨rfl, rfl, rfl⟩ := hcs
      exact ⟨zs, .inr ⟨_, rfl, hl, hm, by simpa using hz, hcell, hwz⟩⟩
  clear hA0 hval0
  refine (walk a0 len0 cap0 z0 W w0).mono fun e W' ⟨he, bel⟩ => ?_
  subst he
  exact ⟨_, rfl, _, _, _, [], _, [], hW', trodAll_mk1 (shut_bool Faeg.underlying4 _), (trodAll_cons_mk (Below.trod laidOut (by kernel_rfl) (of_decide_eq_true (by kernel_rfl)) k0 bel lt0) trodAll_mk0), rfl, bel.frame _, fun h => by cases h⟩

theorem over : Rows.recSoundRow.holds Faeg.pinned (OpenSpec.ofChange Rows.recSoundSpec) :=
  OpenClaim.holds_of_wide 4 Faeg.f4 rfl rfl rfl rfl rfl rfl rfl ⟨rfl, rfl, rfl, rfl, rfl⟩ rfl rfl rfl rfl rfl (by kernel_rfl) Faeg.func4 (by kernel_rfl)
    (of_decide_eq_true (by kernel_rfl)) (by unfold Func.isWrapper; first | (rw [if_pos (by decide +kernel)]; kernel_rfl) | (rw [if_neg (by decide +kernel)]; exact ⟨rfl, rfl⟩))
    (fun os started H enc _ => lifted os started H enc)

/-- ████ THE STATEMENT ████ -/
theorem proved : Rows.RecSoundSaid := over
end Go.Proofs.Ygcfae.recSound
