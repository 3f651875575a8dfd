import Derived.Test.YgcfaePrn
namespace Go.Proofs.Ygcfae
open Go.RowKit

/-- a schema's slice -/
def SchV (w : World) (sa : Option Addr) (ss : List Str) : Prop := ss = [] ∨ ∃ gb go, sa = some ⟨gb, go, none⟩ ∧ ∀ i (hi : i < ss.length), StrAt w gb (go + i * 8) ss[i]

theorem SchV.below {w w' : World} {sa : Option Addr} {ss : List Str} (h : SchV w sa ss) (hb : Below w.heap.size w w') : SchV w' sa ss := by
  rcases h with h | ⟨gb, go, h1, h2⟩
  · exact .inl h
  · exact .inr ⟨gb, go, h1, fun i hi => (h2 i hi).below hb⟩

set_option maxRecDepth 100000
set_option maxHeartbeats 4000000 in
theorem recText_any (ss : List Str) (sa : Option Addr) (cap : Nat) (w : World) (h : SchV w sa ss) (hok : ∀ t ∈ ss, ∀ f ∈ t.fs, FldOK f) :
    Calls Faeg.prog 5 #[.agg #[.slice sa ss.length cap]] w fun e w' => e = .returned (.bool true) ∧ Below w.heap.size w w' := by
  have hb0 : Below w.heap.size w (w.alloc (.cells #[.slice sa ss.length cap] 46)) := (Below.refl _ _).alloc (Nat.le_refl _) _
  have hS : SchAt (w.alloc (.cells #[.slice sa ss.length cap] 46)) w.heap.size 0 ss :=
    ⟨sa, cap, (Own.new w #[.slice sa ss.length cap] 46).cell rfl, (Own.new w #[.slice sa ss.length cap] 46).lt, h.below hb0⟩
  cases hck : checkB ss with
  | false =>
    go_enter Faeg.func5, Faeg.ntmps5
    go_wp2_with (first | (go_at_call 15; refine (print_any ss _ 0 _ hS hok).mono ?_; rw [hck]; rintro e w1 ⟨rfl, hb1⟩) | (go_at_call 16; refine (check_any ss _ 0 _ (hS.below hb1) hok).mono ?_; rw [hck]; rintro e w2 ⟨rfl, hb2⟩))
    go_ret
    exact ⟨by simp [bsV_toList], (hb0.trans (hb1.mono hb0.size)).trans (hb2.mono (hb0.trans (hb1.mono hb0.size)).size)⟩
  | true =>
    have hcok := check_cok hck hok
    by_cases hlen : 4096 < (printS ss).length
    · have hp : parseP (bsV (printS ss)).toList = none := by unfold parseP; rw [bsV_toList, if_pos hlen]
      have hsz : 4096 < (bsV (printS ss)).size := by rw [← tl_len, bsV_toList]; exact hlen
      have HP : Hid _ := hp
      clear hp
      obtain ⟨tx, htx⟩ : ∃ tx, tx = bsV (printS ss) := ⟨_, rfl⟩
      rw [← htx] at HP hsz
      have HX : Hid _ := htx
      clear htx
      go_enter Faeg.func5, Faeg.ntmps5
      go_wp2_with (first | (go_at_call 15; refine (print_any ss _ 0 _ hS hok).mono ?_; rw [hck, if_pos rfl, ← HX.out]; rintro e w1 ⟨rfl, hb1⟩) | (go_at_call 16; refine (check_any ss _ 0 _ (hS.below hb1) hok).mono ?_; rw [hck]; rintro e w2 ⟨rfl, hb2⟩) | (go_at_call 17; refine (parse_any tx _).mono ?_; rw [HP.out]; rintro e w3 ⟨v, c, rfl, hb3, rfl, hc1, hc8⟩; have hcz : (c == 0) = false := (by simp; omega)))
      go_ret
      have h01 := hb0.trans (hb1.mono hb0.size)
      have h02 := h01.trans (hb2.mono h01.size)
      exact ⟨by have hgt : (4096 : Int) < tx.size := by omega
                simp [hgt], h02.trans (hb3.mono h02.size)⟩
    · have hp : parseP (bsV (printS ss)).toList = some ss := by rw [bsV_toList]; exact parse_print hcok (by omega)
      have hsz : (bsV (printS ss)).size ≤ 4096 := by rw [← tl_len, bsV_toList]; omega
      have HP : Hid _ := hp
      clear hp
      obtain ⟨tx, htx⟩ : ∃ tx, tx = bsV (printS ss) := ⟨_, rfl⟩
      rw [← htx] at HP hsz
      have HX : Hid _ := htx
      clear htx
      go_enter Faeg.func5, Faeg.ntmps5
      go_wp2_with (first | (go_at_call 15; refine (print_any ss _ 0 _ hS hok).mono ?_; rw [hck, if_pos rfl, ← HX.out]; rintro e w1 ⟨rfl, hb1⟩) | (go_at_call 16; refine (check_any ss _ 0 _ (hS.below hb1) hok).mono ?_; rw [hck]; rintro e w2 ⟨rfl, hb2⟩) | (go_at_call 17; refine (parse_any tx _).mono ?_; rw [HP.out]; rintro e w3 ⟨v, c, rfl, hb3, rfl, rfl, hS3⟩) | (go_at_call 18; refine (same_any ss _ 0 _ 3 _ (((hS.below hb1).below hb2).below hb3) hS3 hcok.len (fun t ht => (hcok.strs t ht).short)).mono ?_; rintro e w4 ⟨rfl, hb4⟩))
      go_ret
      have h01 := hb0.trans (hb1.mono hb0.size)
      have h02 := h01.trans (hb2.mono h01.size)
      have h03 := h02.trans (hb3.mono h02.size)
      exact ⟨rfl, h03.trans (hb4.mono h03.size)⟩
end Go.Proofs.Ygcfae
