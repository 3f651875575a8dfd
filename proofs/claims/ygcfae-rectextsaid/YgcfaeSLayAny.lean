import Derived.Test.YgcfaeSLay
namespace Go.Proofs.Ygcfae
open Go.RowKit

set_option maxRecDepth 100000
set_option maxHeartbeats 400000 in
theorem sLayout_long (ts : List Typ) (ao : Option Addr) (n cap : Nat) (w : World) (hn : ts.length = n) (hl : 16 < n) :
    Calls Faeg.prog 31 #[.slice ao n cap] w (SPost ts w) := by
  have hst : Hid (sLay (ts.map (·.kind)) = none) := by
    show _ = _
    unfold sLay; rw [if_pos (by simpa [hn] using hl)]
  have hd16 : decide (16 < (n : Int)) = true := by simp; omega
  go_enter Faeg.func31, Faeg.ntmps31
  go_wp2
  refine bodyPost_ret (v := .tuple #[.slice none 0 0, .int .u8 0, .int .u8 0, .bool false]) (by simp [results, Faeg.results31, go_sem]) rfl ?_
  exact SPost.no hst.out (Below.refl _ _)

set_option maxHeartbeats 400000 in
theorem sLayout_nil (ao : Option Addr) (cap : Nat) (w : World) :
    Calls Faeg.prog 31 #[.slice ao 0 cap] w (SPost [] w) := by
  go_enter Faeg.func31, Faeg.ntmps31
  go_wp2
  refine wp_loop_rounds 1 ?_
  rw [rounds_succ]
  go_wp2
  refine bodyPost_ret (v := .tuple #[.slice none 0 0, .int .u8 0, .int .u8 0, .bool true]) (by simp [results, Faeg.results31, go_sem]) rfl ?_
  exact SPost.yes (st := LS.start) rfl ((Below.refl _ _).alloc (Nat.le_refl _) _) (World.ownsRow_nil _ _ _ _)

/-- schema.Layout -/
theorem sLayout_any (ts : List Typ) (ao : Option Addr) (n cap : Nat) (w : World) (hn : ts.length = n) (hc : Has w ao (tcells ts)) (hk0 : ∀ t ∈ ts, 0 ≤ t.kind) :
    Calls Faeg.prog 31 #[.slice ao n cap] w (SPost ts w) := by
  by_cases h16 : 16 < n
  · exact sLayout_long ts ao n cap w hn h16
  · rcases hc with hc | ⟨b, off, rfl, hb, hc⟩
    · have h0 : ts = [] := by
        cases ts with
        | nil => rfl
        | cons t ts => simp [tcells, Typ.cells] at hc
      subst h0
      simp at hn
      subst hn
      exact sLayout_nil ao cap w
    · by_cases h0 : n = 0
      · subst h0
        obtain rfl := List.eq_nil_of_length_eq_zero hn
        exact sLayout_nil _ cap w
      · exact sLayout_some ts b off n cap w hn (by omega) (by omega) hb hc hk0
end Go.Proofs.Ygcfae
