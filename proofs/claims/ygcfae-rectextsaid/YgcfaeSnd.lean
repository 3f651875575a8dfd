import Derived.Test.YgcfaeKinds
import Derived.Deep.Light
namespace Go.Proofs.Ygcfae
open Go.RowKit

/-- rec.sound -/
def soundB (t : Typ) (n : Int) (u : Bool) : Bool :=
  (if t.kind = 12 then decide (1 ≤ t.nest) && decide (t.nest ≤ 2) && decide (t.elem ≠ 0) && decide (t.elem ≠ 12) && decide (t.elem ≤ 13)
   else decide (t.kind ≤ 14) && (decide (t.kind ≠ 14) || u) && decide (t.nest = 0) && decide (t.elem = 0)) &&
  (if t.kind = 13 ∨ t.kind = 12 ∧ t.elem = 13 then decide (t.ref < n) else decide (t.ref = 0))

set_option maxRecDepth 100000
set_option maxHeartbeats 1000000 in
theorem sound_any (t : Typ) (n : Int) (u : Bool) (w : World) (hr0 : 0 ≤ t.ref) (hr1 : t.ref ≤ 255) :
    Calls Faeg.prog 51 #[.agg #[.int .u8 t.kind, .int .u8 t.elem, .int .u8 t.ref, .int .u8 t.nest], .int .i64 n, .bool u] w fun e w' => e = .returned (.bool (soundB t n u)) ∧ Below w.heap.size w w' := by
  obtain ⟨kind, elem, ref, nest⟩ := t
  simp only at hr0 hr1 ⊢
  go_enter Faeg.func51, Faeg.ntmps51
  go_wp2
  all_goals
    go_ret
    refine ⟨ret_bool ?_, (Below.refl _ _).alloc (Nat.le_refl _) _⟩
    go_light
    rw [Bool.eq_iff_iff]
    simp only [soundB]
    simp_all
  all_goals omega
end Go.Proofs.Ygcfae
