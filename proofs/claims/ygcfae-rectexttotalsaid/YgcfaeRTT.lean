import Derived.Test.YgcfaeRT
namespace Go.Proofs.Ygcfae
open Go.RowKit

set_option maxRecDepth 100000
set_option maxHeartbeats 4000000 in
theorem recTextTotal_any (s : ByteArray) (w : World) : Calls Faeg.prog 6 #[.string s] w fun e w' => e = .returned (.bool true) ∧ Below w.heap.size w w' := by
  cases hp : parseP s.toList with
  | none =>
    have HP : Hid _ := hp
    clear hp
    go_enter Faeg.func6, Faeg.ntmps6
    go_wp2_with (go_at_call 17; refine (parse_any s _).mono ?_; rw [HP.out]; rintro e w3 ⟨v, c, rfl, hb3, rfl, hc1, hc8⟩; have hcz : (c == 0) = false := (by simp; omega); have hcd : decide (c ≤ 8) = true := (by simp; omega))
    go_ret
    exact ⟨rfl, hb3⟩
  | some ss =>
    obtain ⟨hck, hok⟩ := parse_ok hp
    have HP : Hid _ := hp
    clear hp
    go_enter Faeg.func6, Faeg.ntmps6
    go_wp2_with (first | (go_at_call 17; refine (parse_any s _).mono ?_; rw [HP.out]; rintro e w1 ⟨v, c, rfl, hb1, rfl, rfl, hS1⟩) | (go_at_call 16; refine (check_any ss _ 3 _ hS1 hok).mono ?_; rw [hck]; rintro e w2 ⟨rfl, hb2⟩; obtain ⟨sa, cap, hcell, hlt, hV⟩ := hS1.below hb2) | (go_at_call 5; refine (recText_any ss sa cap _ hV hok).mono ?_; rintro e w3 ⟨rfl, hb3⟩))
    go_ret
    have h02 := hb1.trans (hb2.mono hb1.size)
    exact ⟨rfl, h02.trans (hb3.mono h02.size)⟩
end Go.Proofs.Ygcfae
