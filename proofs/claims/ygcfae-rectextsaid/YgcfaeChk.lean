import Derived.Test.YgcfaeWhole
import Derived.Test.YgcfaePrs
namespace Go.Proofs.Ygcfae
open Go.RowKit

theorem StrAt.below {w w' : World} {b o : Nat} {t : Str} (h : StrAt w b o t) (hb : Below w.heap.size w w') : StrAt w' b o t := by
  obtain ⟨a, cap, h1, h2, h3⟩ := h
  exact ⟨a, cap, Nat.lt_of_lt_of_le h1 hb.size, h2.below hb h1, h3.below hb⟩
theorem SchAt.below {w w' : World} {b o : Nat} {ss : List Str} (h : SchAt w b o ss) (hb : Below w.heap.size w w') : SchAt w' b o ss := by
  obtain ⟨sa, cap, h1, h2, h3⟩ := h
  refine ⟨sa, cap, (hb.cell (p := ⟨b, o, none⟩) h2).trans h1, Nat.lt_of_lt_of_le h2 hb.size, ?_⟩
  rcases h3 with h3 | ⟨gb, go, h3, h4⟩
  · exact .inl h3
  · exact .inr ⟨gb, go, h3, fun i hi => (h4 i hi).below hb⟩

theorem strsB_short {ss : List Str} {k m : Nat} (h : strsB ss k = false) (hk : k ≤ m) : strsB ss m = false := by
  cases hm : strsB ss m with
  | false => rfl
  | true =>
    unfold strsB at h hm
    rw [List.all_eq_true] at hm
    rw [← h, List.all_eq_true.2]
    intro x hx
    exact hm x (List.mem_range.2 (Nat.lt_of_lt_of_le (List.mem_range.1 hx) hk))

attribute [local go_sem] more_cell more_frozen
set_option maxRecDepth 100000
set_option maxHeartbeats 20000000 in
theorem check_any (ss : List Str) (b o : Nat) (w : World) (h : SchAt w b o ss) (hok : ∀ t ∈ ss, ∀ f ∈ t.fs, FldOK f) :
    Calls Faeg.prog 16 #[.pointer (some ⟨b, o, none⟩)] w fun e w' => e = .returned (.bool (checkB ss)) ∧ Below w.heap.size w w' := by
  obtain ⟨sa, cap, c0, hlt, hst⟩ := h
  by_cases h4 : 4 < ss.length
  · have hF : Hid (checkB ss = false) := by rw [Hid]; unfold checkB; rw [show decide (ss.length ≤ 4) = false by simp; omega]; rfl
    go_enter Faeg.func16, Faeg.ntmps16
    go_wp2_with fail
    go_ret
    exact ⟨ret_bool hF.out.symm, Below.refl _ _⟩
  · have hF : Hid (checkB ss = strsB ss ss.length) := by rw [Hid]; unfold checkB; rw [show decide (ss.length ≤ 4) = true by simp; omega]; rfl
    go_enter Faeg.func16, Faeg.ntmps16
    go_wp2_with fail
    have HC0 : Hid _ := c0
    clear c0
    go_loopw [20] (fun i wr => ∃ k : Nat, k ≤ ss.length ∧ i = .int .i64 k ∧ Below w.heap.size w wr ∧ Hid (strsB ss k = true)) (fun i _ => ss.length - (intOf i).toNat)
    case atStart => exact ⟨0, Nat.zero_le _, rfl, Below.refl _ _, rfl⟩
    case round =>
      obtain ⟨k, hk, rfl, hb, hG⟩ := hrel
      have hsz := hb.size
      by_cases hkl : k < ss.length
      · obtain ⟨gb, go, hsa, hS⟩ : ∃ gb go, sa = some ⟨gb, go, none⟩ ∧ ∀ i (hi : i < ss.length), StrAt w gb (go + i * 8) ss[i] := by
          rcases hst with h | h
          · rw [h] at hkl; simp at hkl
          · exact h
        subst hsa
        have c0 : wr.cell? ⟨b, o, none⟩ = some (.slice (some ⟨gb, go, none⟩) ss.length cap) := (hb.cell (p := ⟨b, o, none⟩) hlt).trans HC0.out
        have hltb : b < wr.heap.size := by omega
        have hT := (hS k hkl).below hb
        have hltg : gb < wr.heap.size := by obtain ⟨a, c, h1, -⟩ := hT; exact h1
        have hokt := hok ss[k] (List.getElem_mem _)
        have hstep : Hid (strsB ss (k + 1) = (wholeB ss[k] ss.length && !((ss.take k).any fun s => s.name.toList == ss[k].name.toList))) := by
          rw [Hid]
          have := hG.out
          unfold strsB at this ⊢
          rw [List.range_succ, List.all_append, this]
          simp [strB, List.getElem?_eq_getElem hkl]
        obtain ⟨t, ht⟩ : ∃ t, t = ss[k] := ⟨_, rfl⟩
        rw [← ht] at hT hokt hstep
        have HTK : Hid (t = ss[k]) := ht
        clear ht
        obtain ⟨wb, hwb⟩ : ∃ wb, wb = wholeB t ss.length := ⟨_, rfl⟩
        rw [← hwb] at hstep
        have hcall : ∀ w', Below wr.heap.size wr w' → Calls Faeg.prog 34 #[.pointer (some ⟨gb, go + k * 8, none⟩), .int .i64 ss.length] w' fun e w'' => e = .returned (.bool wb) ∧ Below w'.heap.size w' w'' := fun w' hb' => by
          rw [hwb]; exact whole_any t gb (go + k * 8) ss.length w' (hT.below hb') hokt
        have HCL : Hid _ := hcall
        clear hcall hwb
        obtain ⟨w1, rfl⟩ : ∃ w1, w1 = wr := ⟨_, rfl⟩
        go_upto_region 6 with fail
        go_cut [35] (fun v wc => v = .bool (!wb) ∧ Below w1.heap.size w1 wc)
        case first =>
          refine wp_region_calm (by kernel_rfl) (by kernel_rfl) ?_
          repeat (go_big_quiet_step ((go_at_call 34; exact calm_of (HCL.out _ (more_below _ _)))))
          refine wpQuiet_nil ?_
          intro wq hwq
          go_wp2_with fail
          go_meet
          exact ⟨rfl, hwq⟩
        case rest =>
          obtain ⟨rfl, hb2⟩ := hcut
          have hb3 : Below w.heap.size w wc := hb.trans (hb2.mono hsz)
          have hsz3 := hb3.size
          clear c0 hltb hltg
          cases wb with
          | false =>
            go_wp2_with fail
            go_ret
            exact ⟨ret_bool (by rw [hF.out, strsB_short (k := k + 1) (by rw [hstep.out]; rfl) (by omega)]), hb3⟩
          | true =>
            obtain ⟨w2, rfl⟩ : ∃ w2, w2 = wc := ⟨_, rfl⟩
            go_wp2_with fail
            go_loopw [37] (fun i wj => ∃ m : Nat, m ≤ k ∧ i = .int .i64 m ∧ Below w.heap.size w wj ∧ Hid ((ss.take m).any (fun s => s.name.toList == t.name.toList) = false)) (fun i _ => k - (intOf i).toNat)
            case atStart => exact ⟨0, Nat.zero_le _, rfl, hb3, rfl⟩
            case round =>
              obtain ⟨m, hm, rfl, hb4, hD⟩ := hrel
              have hsz4 := hb4.size
              by_cases hml : m < k
              · have hmf : m < ss.length := by omega
                have c0 : wr.cell? ⟨b, o, none⟩ = some (.slice (some ⟨gb, go, none⟩) ss.length cap) := (hb4.cell (p := ⟨b, o, none⟩) hlt).trans HC0.out
                have hltb : b < wr.heap.size := by omega
                obtain ⟨a1, q1, hltg, hx1, -⟩ := (hS m hmf).below hb4
                obtain ⟨a2, q2, -, hx2, -⟩ := (hS k hkl).below hb4
                have e0 := (str8 hx1).1
                have e1 := (str8 hx2).1
                rw [← HTK.out] at e1
                have hds := anys_succ hmf t.name.toList
                obtain ⟨z, hz⟩ : ∃ z, z = ss[m].name := ⟨_, rfl⟩
                rw [← hz] at e0 hds
                have HDS : Hid _ := hds
                clear hds hz hx1 hx2
                cases hq : (z.toList == t.name.toList) with
                | true =>
                  have hany : Hid ((ss.take k).any (fun s => s.name.toList == t.name.toList) = true) := by
                    have h1 : (ss.take (m + 1)).any (fun s => s.name.toList == t.name.toList) = true := by rw [HDS.out, hq]; simp
                    rw [Hid]
                    rw [List.any_eq_true] at h1 ⊢
                    obtain ⟨f, hf, he⟩ := h1
                    exact ⟨f, (List.take_sublist_take_left (by omega)).subset hf, he⟩
                  go_upto_region 11 with fail
                  go_quiet (fail)
                  go_wp2_with fail
                  go_ret
                  exact ⟨ret_bool (by rw [hF.out, strsB_short (k := k + 1) (by rw [hstep.out, hany.out]; rfl) (by omega)]), below_drewN hb4 _⟩
                | false =>
                  go_upto_region 11 with fail
                  go_quiet (fail)
                  go_wp2_with fail
                  go_roundw
                  case rel => exact ⟨m + 1, by omega, by go_num, below_drewN hb4 _, by rw [Hid, HDS.out, hD.out, hq]; rfl⟩
                  case measure => simp [intOf]; omega
              · have hmk : m = k := by omega
                subst hmk
                go_wp2_with fail
                go_roundw
                case rel => exact ⟨m + 1, by omega, by go_num, hb4, by rw [Hid, hstep.out, hD.out]; rfl⟩
                case measure => simp [intOf]; omega
      · have hke : k = ss.length := by omega
        subst hke
        go_wp2_with fail
        go_ret
        exact ⟨ret_bool (by rw [hF.out, hG.out]), hb⟩
end Go.Proofs.Ygcfae
