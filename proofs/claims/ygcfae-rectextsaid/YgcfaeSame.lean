import Derived.Test.YgcfaeChk
namespace Go.Proofs.Ygcfae
open Go.RowKit

set_option maxRecDepth 100000
set_option maxHeartbeats 20000000 in
theorem same_any (ss : List Str) (b o b2 o2 : Nat) (w : World) (h : SchAt w b o ss) (h2 : SchAt w b2 o2 ss) (hs4 : ss.length ≤ 4) (hf16 : ∀ t ∈ ss, t.fs.length ≤ 16) :
    Calls Faeg.prog 18 #[.pointer (some ⟨b, o, none⟩), .pointer (some ⟨b2, o2, none⟩)] w fun e w' => e = .returned (.bool true) ∧ Below w.heap.size w w' := by
  obtain ⟨sa, cap, c0, hlt, hst⟩ := h
  obtain ⟨sa2, cap2, d0, hlt2, hst2⟩ := h2
  have hll : (((ss.length : Nat) : Int) != ((ss.length : Nat) : Int)) = false := by simp
  go_enter Faeg.func18, Faeg.ntmps18
  go_upto_region 1 with fail
  go_quiet (fail)
  have hb0 : Below w.heap.size w (w.drewN nq) := below_drewN (Below.refl _ _) _
  have HC : Hid _ := c0
  have HD : Hid _ := d0
  go_wp2_with fail
  clear c0 d0
  go_loopw [33] (fun i wr => ∃ k : Nat, k ≤ ss.length ∧ i = .int .i64 k ∧ Below w.heap.size w wr) (fun i _ => ss.length - (intOf i).toNat)
  case atStart => exact ⟨0, Nat.zero_le _, rfl, hb0⟩
  case round =>
    obtain ⟨k, hk, rfl, hb⟩ := hrel
    have hsz := hb.size
    by_cases hkl : k < ss.length
    · obtain ⟨gb, go, hsa, hS⟩ : ∃ gb go, sa = some ⟨gb, go, none⟩ ∧ ∀ i (hi : i < ss.length), StrAt w gb (go + i * 8) ss[i] := by
        rcases hst with h | h
        · rw [h] at hkl; simp at hkl
        · exact h
      obtain ⟨gb2, go2, hsa2, hS2⟩ : ∃ gb go, sa2 = some ⟨gb, go, none⟩ ∧ ∀ i (hi : i < ss.length), StrAt w gb (go + i * 8) ss[i] := by
        rcases hst2 with h | h
        · rw [h] at hkl; simp at hkl
        · exact h
      subst hsa hsa2
      have c0 : wr.cell? ⟨b, o, none⟩ = some (.slice (some ⟨gb, go, none⟩) ss.length cap) := (hb.cell (p := ⟨b, o, none⟩) hlt).trans HC.out
      have d0 : wr.cell? ⟨b2, o2, none⟩ = some (.slice (some ⟨gb2, go2, none⟩) ss.length cap2) := (hb.cell (p := ⟨b2, o2, none⟩) hlt2).trans HD.out
      have hltb : b < wr.heap.size := by omega
      have hltb2 : b2 < wr.heap.size := by omega
      obtain ⟨a1, q1, hg1, hx1, hf1⟩ := (hS k hkl).below hb
      obtain ⟨a2, q2, hg2, hx2, hf2⟩ := (hS2 k hkl).below hb
      obtain ⟨e0, e1, e2, e3, e4, e5, e6, e7⟩ := str8 hx1
      obtain ⟨f0, f1, f2, f3, f4, f5, f6, f7⟩ := str8 hx2
      have ht16 := hf16 ss[k] (List.getElem_mem _)
      obtain ⟨t, ht⟩ : ∃ t, t = ss[k] := ⟨_, rfl⟩
      rw [← ht] at ht16
      have HTK : Hid (t = ss[k]) := ht
      rw [← ht] at e0 e1 e2 e3 e4 e5 e6 e7 f0 f1 f2 f3 f4 f5 f6 f7 hx1 hx2 hf1 hf2
      clear ht
      have hn27 := neq27 t.tag t.tag
      rw [(plcEq_iff t.tag t.tag).2 rfl] at hn27
      have hnm : (t.name.toList == t.name.toList) = true := by simp
      have hda : (t.data != t.data) = false := by simp
      have hpt : (t.ptrs != t.ptrs) = false := by simp
      have hfl : (((t.fs.length : Nat) : Int) != ((t.fs.length : Nat) : Int)) = false := by simp
      obtain ⟨w1, rfl⟩ : ∃ w1, w1 = wr := ⟨_, rfl⟩
      go_upto_region 6 with fail
      go_quiet (fail)
      go_upto_region 7 with fail
      go_quiet (fail)
      go_wp2_with fail
      clear c0 d0 e0 e1 e2 e3 e4 e5 e6 e7 f0 f1 f2 f3 f4 f5 f6 f7 hx1 hx2 hf1 hf2 hn27
      go_loopw [108] (fun i wj => ∃ m : Nat, m ≤ t.fs.length ∧ i = .int .i64 m ∧ Below w.heap.size w wj) (fun i _ => t.fs.length - (intOf i).toNat)
      case atStart => exact ⟨0, Nat.zero_le _, rfl, below_drewN hb _⟩
      case round =>
        obtain ⟨m, hm, rfl, hb4⟩ := hrel
        have hsz4 := hb4.size
        by_cases hml : m < t.fs.length
        · obtain ⟨a3, q3, hg3, hx3, hf3⟩ := (hS k hkl).below hb4
          obtain ⟨a4, q4, hg4, hx4, hf4⟩ := (hS2 k hkl).below hb4
          rw [← HTK.out] at hx3 hf3 hx4 hf4
          obtain ⟨-, e1, -⟩ := str8 hx3
          obtain ⟨-, f1, -⟩ := str8 hx4
          obtain ⟨bx, ox, rfl, hbx, hcx⟩ : ∃ b off, a3 = some ⟨b, off, none⟩ ∧ b < wr.heap.size ∧ AtB wr b off (fcells t.fs) := by
            rcases hf3 with h | h
            · exfalso
              have := congrArg List.length h
              rw [fcells, flat_length Fld.cells 11 (fun _ => rfl), List.length_nil] at this
              omega
            · exact h
          obtain ⟨by', oy, rfl, hby, hcy⟩ : ∃ b off, a4 = some ⟨b, off, none⟩ ∧ b < wr.heap.size ∧ AtB wr b off (fcells t.fs) := by
            rcases hf4 with h | h
            · exfalso
              have := congrArg List.length h
              rw [fcells, flat_length Fld.cells 11 (fun _ => rfl), List.length_nil] at this
              omega
            · exact h
          obtain ⟨x0, x1, x2, x3, x4, x5, x6, x7, x8, x9, x10⟩ := fld11 (fld_at hcx hml)
          obtain ⟨y0, y1, y2, y3, y4, y5, y6, y7, y8, y9, y10⟩ := fld11 (fld_at hcy hml)
          obtain ⟨f, hf⟩ : ∃ f, f = t.fs[m] := ⟨_, rfl⟩
          rw [← hf] at x0 x1 x2 x3 x4 x5 x6 x7 x8 x9 x10 y0 y1 y2 y3 y4 y5 y6 y7 y8 y9 y10
          clear hf hcx hcy hx3 hx4
          have hn34 := neq34 f f
          rw [(fldEq_iff f f).2 rfl] at hn34
          go_upto_region 12 with fail
          go_quiet (fail)
          go_wp2_with fail
          go_roundw
          case rel => exact ⟨m + 1, by omega, by go_num, below_drewN hb4 _⟩
          case measure => simp [intOf]; omega
        · have hmk : m = t.fs.length := by omega
          subst hmk
          go_wp2_with fail
          go_roundw
          case rel => exact ⟨k + 1, by omega, by go_num, hb4⟩
          case measure => simp [intOf]; omega
    · have hke : k = ss.length := by omega
      subst hke
      go_wp2_with fail
      go_ret
      exact ⟨rfl, hb⟩
end Go.Proofs.Ygcfae
