import Derived.Test.YgcfaeESpec
import Derived.Test.YgcfaeSound
namespace Go.Proofs.Ygcfae
open Go.RowKit

/-- the union's claims and the others', before field k -/
structure Inv (E : ES) (ro : List Int) (st : LS) (k : Nat) (ow sl : Nat → Int) : Prop where
  bit : ∀ b, ow b = 0 ∨ (ow b = 2 ∧ ∃ (j : Nat) (p : Plc) (m : Int), st.ps[j]? = some p ∧ InReg p b ∧ ro[j]? = some m ∧ (m = -1 ∨ (0 ≤ m ∧ m < k))) ∨
    (ow b = 1 ∧ ∃ p, 0 ≤ E.word ∧ st.ps[E.word.toNat]? = some p ∧ InReg p b)
  slot : ∀ n : Nat, sl n = 0 ∨ (sl n = 2 ∧ ∃ (j : Nat) (p : Plc) (m : Int), st.ps[j]? = some p ∧ p.isPtr = true ∧ p.slot = (n : Int) ∧ ro[j]? = some m ∧ 0 ≤ m ∧ m < k) ∨
    (sl n = 1 ∧ ∃ p, 0 ≤ E.slot ∧ st.ps[E.slot.toNat]? = some p ∧ p.isPtr = true ∧ p.slot = (n : Int))

theorem LSpec.apart2 {ks : List Int} {st : LS} (h : LSpec ks st) {i j : Nat} {p q : Plc} (hij : i ≠ j) (hp : st.ps[i]? = some p) (hq : st.ps[j]? = some q) :
    (∀ b, InReg p b → ¬ InReg q b) ∧ (p.isPtr = true → q.isPtr = true → p.slot ≠ q.slot) := by
  by_cases hlt : i < j
  · exact h.apart i j p q hlt hp hq
  · have := h.apart j i q p (by omega) hq hp
    exact ⟨fun b h1 h2 => this.1 b h2 h1, fun h1 h2 e => this.2 h2 h1 e.symm⟩

theorem ro_ne {ro : List Int} {i j : Nat} {a b : Int} (hi : ro[i]? = some a) (hj : ro[j]? = some b) (h : a ≠ b) : i ≠ j := by
  rintro rfl; rw [hi] at hj; cases hj; exact h rfl

theorem Inv.next {E : ES} {ro : List Int} {st : LS} {k : Nat} {ow sl : Nat → Int} (h : Inv E ro st k ow sl) : Inv E ro st (k + 1) ow sl := by
  refine ⟨fun b => ?_, fun n => ?_⟩
  · rcases h.bit b with h1 | ⟨h1, j, p, m, h2, h3, h4, h5⟩ | h1
    · exact .inl h1
    · exact .inr (.inl ⟨h1, j, p, m, h2, h3, h4, by omega⟩)
    · exact .inr (.inr h1)
  · rcases h.slot n with h1 | ⟨h1, j, p, m, h2, h3, h4, h5, h6, h7⟩ | h1
    · exact .inl h1
    · exact .inr (.inl ⟨h1, j, p, m, h2, h3, h4, h5, h6, by omega⟩)
    · exact .inr (.inr h1)

theorem wd_ptr {k : Int} (h0 : 0 ≤ k) (h14 : k ≤ 14) (hw : wd k = 0) (hne : k ≠ 14) : ptrK k = true := by
  obtain ⟨n, rfl⟩ := Int.eq_ofNat_of_zero_le h0
  rcases (show n = 0 ∨ n = 1 ∨ n = 2 ∨ n = 3 ∨ n = 4 ∨ n = 5 ∨ n = 6 ∨ n = 7 ∨ n = 8 ∨ n = 9 ∨ n = 10 ∨ n = 11 ∨ n = 12 ∨ n = 13 ∨ n = 14 by omega) with rfl | rfl | rfl | rfl | rfl | rfl | rfl | rfl | rfl | rfl | rfl | rfl | rfl | rfl | rfl
  all_goals first | rfl | (exfalso; revert hw; decide) | (exfalso; exact hne rfl)

theorem wd_scal {k : Int} (hw : wd k ≠ 0) : ptrK k = false ∧ k ≠ 14 := by
  by_cases h : 10 < k
  · exact absurd (wd_big k h) hw
  · refine ⟨?_, by omega⟩
    unfold ptrK
    simp; omega

theorem word_off {o : Int} {s : Nat} (hW : IsW s) (h0 : 0 ≤ o) (h7 : o ≤ 511) : IntKind.u16.wrap (o * IntKind.u16.wrap (64 / (s : Int))) * (s : Int) = o * 64 ∧ 0 ≤ IntKind.u16.wrap (o * IntKind.u16.wrap (64 / (s : Int))) ∧ IntKind.u16.wrap (o * IntKind.u16.wrap (64 / (s : Int))) ≤ 65535 := by
  have e : ∀ x : Int, 0 ≤ x → x ≤ 65535 → IntKind.u16.wrap x = x := fun x hx1 hx2 => by rw [IntKind.wrap_u16]; omega
  rcases hW with rfl | rfl | rfl | rfl | rfl
  · rw [show ((64 : Int) / ((1 : Nat) : Int)) = 64 by decide, e 64 (by omega) (by omega), e _ (by omega) (by omega)]; omega
  · rw [show ((64 : Int) / ((8 : Nat) : Int)) = 8 by decide, e 8 (by omega) (by omega), e _ (by omega) (by omega)]; omega
  · rw [show ((64 : Int) / ((16 : Nat) : Int)) = 4 by decide, e 4 (by omega) (by omega), e _ (by omega) (by omega)]; omega
  · rw [show ((64 : Int) / ((32 : Nat) : Int)) = 2 by decide, e 2 (by omega) (by omega), e _ (by omega) (by omega)]; omega
  · rw [show ((64 : Int) / ((64 : Nat) : Int)) = 1 by decide, e 1 (by omega) (by omega), e _ (by omega) (by omega)]; omega

theorem LSpec.at {ks : List Int} {st : LS} (h : LSpec ks st) {i : Nat} {k : Int} (hk : ks[i]? = some k) : ∃ p, st.ps[i]? = some p ∧ PlOK st.data st.ptrs k p := by
  have hi : i < st.ps.length := by rw [h.ok.ps_len]; exact (List.getElem?_eq_some_iff.1 hk).1
  refine ⟨st.ps[i], List.getElem?_eq_getElem hi, ?_⟩
  obtain ⟨k', h1, h2⟩ := h.place i _ (List.getElem?_eq_getElem hi)
  rw [hk] at h1
  cases h1
  exact h2

theorem placeOf_at {ps : List Plc} {i : Int} {p : Plc} (h0 : 0 ≤ i) (h : ps[i.toNat]? = some p) : placeOf ps i = p := by
  unfold placeOf; rw [if_pos h0, List.getD_eq_getElem?_getD, h]; rfl

theorem inReg_iff {p : Plc} {a s b : Nat} (h1 : p.isPtr = false) (h2 : p.bits = (s : Int)) (h3 : p.off * (s : Int) = (a : Int)) : InReg p b ↔ a ≤ b ∧ b < a + s := by
  unfold InReg
  rw [h2, h3]
  constructor
  · rintro ⟨_, h4, h5⟩; omega
  · rintro ⟨h4, h5⟩; exact ⟨h1, by omega, by omega⟩

theorem chk_all {fs : List Fld} {E : ES} {ro : List Int} {st : LS} (hE : ESpec fs E ro) (hL : LSpec E.ts st) (h0 : ∀ f ∈ fs, 0 ≤ f.t.kind) (h14 : ∀ f ∈ fs, f.t.kind ≤ 14) :
    ∀ (n k : Nat) (ow sl : Nat → Int), k + n = fs.length → Inv E ro st k ow sl → Chk st.data st.ptrs ((List.zipWith (layF st.ps) fs E.ix).drop k) ow sl
  | 0, k, ow, sl, hk, _ => by
    rw [List.drop_eq_nil_of_le (by rw [List.length_zipWith]; omega)]
    exact trivial
  | n + 1, k, ow, sl, hk, I => by
    have hkl : k < fs.length := by omega
    have hki : k < E.ix.length := by rw [hE.ixl]; exact hkl
    have hkz : k < (List.zipWith (layF st.ps) fs E.ix).length := by rw [List.length_zipWith]; omega
    rw [List.drop_eq_getElem_cons hkz, List.getElem_zipWith]
    have F := hE.fld k fs[k] E.ix[k] (List.getElem?_eq_getElem hkl) (List.getElem?_eq_getElem hki)
    have hf0 := h0 fs[k] (List.getElem_mem _)
    have hf14 := h14 fs[k] (List.getElem_mem _)
    generalize fs[k] = f at *
    generalize E.ix[k] = i at *
    have ih := chk_all hE hL h0 h14 n (k + 1)
    refine ⟨fun hw => ?_, fun hw hv => ?_, fun hw hv => ?_⟩
    · -- a scalar
      have hwne : wd f.t.kind ≠ 0 := by
        have : (layF st.ps f i).t = f.t := rfl
        rw [this] at hw; omega
      obtain ⟨hpk, hne⟩ := wd_scal hwne
      obtain ⟨s, hs, hW⟩ := wd_isW hwne
      have hs0 := isW_pos hW
      have et : (layF st.ps f i).t.kind = f.t.kind := rfl
      have eu : (layF st.ps f i).union = f.union := rfl
      rw [et, eu, hs, Int.toNat_natCast]
      cases hu : f.union with
      | false =>
        obtain ⟨hi0, hro, hts⟩ := F.plain hne hu
        obtain ⟨p, hp, hpl⟩ := hL.at hts
        obtain ⟨q1, q2, q3, a, q4, q5⟩ := hpl.scal hwne
        have ep : (layF st.ps f i).p = p := by simp [layF, hu, placeOf_at hi0 hp]
        rw [ep]
        rw [hs] at q1 q4
        rw [hs, Int.toNat_natCast] at q5
        have hreg := fun b => inReg_iff (b := b) q2 q1 q4
        have hby : byOf false = 2 := rfl
        refine ⟨a, q1, q2, ⟨q3.1, by omega⟩, q4, q5, ?_, ?_⟩
        · intro b hb1 hb2
          have hb : InReg p b := (hreg b).2 ⟨hb1, hb2⟩
          have hz : ow b = 0 := by
            rcases I.bit b with h1 | ⟨h1, j, q, m, h2, h3, h4, h5⟩ | ⟨h1, q, h2, h3, h4⟩
            · exact h1
            · exact absurd hb ((hL.apart2 (ro_ne h4 hro (by omega)) h2 hp).1 b h3)
            · exact absurd hb ((hL.apart2 (ro_ne (hE.word h2).1 hro (by omega)) h3 hp).1 b h4)
          exact ⟨by rw [hz]; decide, fun _ => hz⟩
        · refine ih _ _ (by omega) ⟨fun b => ?_, I.next.slot⟩
          unfold fillF
          split
          · rename_i hb
            exact .inr (.inl ⟨hby, i.toNat, p, k, hp, (hreg b).2 hb, hro, .inr ⟨by omega, by omega⟩⟩)
          · exact I.next.bit b
      | true =>
        obtain ⟨rfl, hi0⟩ := F.uscal hne hu hpk
        obtain ⟨hro, hts⟩ := hE.word hi0
        obtain ⟨p, hp, hpl⟩ := hL.at hts
        obtain ⟨q1, q2, q3, a, q4, q5⟩ := hpl.scal (by decide)
        rw [show wd 8 = ((64 : Nat) : Int) from rfl] at q1 q4 q5
        rw [Int.toNat_natCast] at q5
        have hreg := fun b => inReg_iff (b := b) q2 q1 q4
        obtain ⟨w1, w2, w3⟩ := word_off hW q3.1 q3.2
        have ep : (layF st.ps f E.word).p = ⟨(s : Int), IntKind.u16.wrap (p.off * IntKind.u16.wrap (64 / (s : Int))), 0, false⟩ := by
          have hne' : (wd f.t.kind != 0) = true := by simp [hwne]
          simp [layF, hu, placeOf_at hi0 hp, hs, show ¬ s = 0 by omega]
        rw [ep]
        have h64 := isW_64 hW
        have hby : byOf true = 1 := rfl
        refine ⟨a, rfl, rfl, ⟨w2, w3⟩, by simp only; rw [w1]; exact q4, by omega, ?_, ?_⟩
        · intro b hb1 hb2
          have hb : InReg p b := (hreg b).2 ⟨hb1, by omega⟩
          refine ⟨?_, fun e => by rw [hby] at e; omega⟩
          rcases I.bit b with h1 | ⟨h1, j, q, m, h2, h3, h4, h5⟩ | ⟨h1, _⟩
          · rw [h1]; decide
          · exact absurd hb ((hL.apart2 (ro_ne h4 hro (by omega)) h2 hp).1 b h3)
          · rw [h1]; decide
        · refine ih _ _ (by omega) ⟨fun b => ?_, I.next.slot⟩
          unfold fillF
          split
          · rename_i hb
            exact .inr (.inr ⟨hby, p, hi0, hp, (hreg b).2 ⟨hb.1, by omega⟩⟩)
          · exact I.next.bit b
    · -- a void
      have hw' : wd f.t.kind = 0 := hw
      have hv' : f.t.kind = 14 := hv
      obtain rfl := F.void hv'
      refine ⟨?_, ih _ _ (by omega) I.next⟩
      simp [layF, hw', placeOf]
    · -- a pointer
      have hw' : wd f.t.kind = 0 := hw
      have hv' : f.t.kind ≠ 14 := hv
      have hpk := wd_ptr hf0 hf14 hw' hv'
      have eu : (layF st.ps f i).union = f.union := rfl
      have ep : (layF st.ps f i).p = placeOf st.ps i := by simp [layF, hw']
      rw [ep, eu]
      cases hu : f.union with
      | false =>
        obtain ⟨hi0, hro, hts⟩ := F.plain hv' hu
        obtain ⟨p, hp, hpl⟩ := hL.at hts
        obtain ⟨q1, m, q2, q3⟩ := hpl.ptr hw'
        rw [placeOf_at hi0 hp]
        have hby : byOf false = 2 := rfl
        have hz : sl m = 0 := by
          rcases I.slot m with h1 | ⟨h1, j, q, c, h2, h3, h4, h5, h6, h7⟩ | ⟨h1, q, h2, h3, h4, h5⟩
          · exact h1
          · exact absurd (h4.trans q2.symm) ((hL.apart2 (ro_ne h5 hro (by omega)) h2 hp).2 h3 q1)
          · exact absurd (h5.trans q2.symm) ((hL.apart2 (ro_ne (hE.slot h2).1 hro (by omega)) h3 hp).2 h4 q1)
        refine ⟨m, q1, q2, q3, by rw [hz]; decide, fun _ => hz, ih _ _ (by omega) ⟨I.next.bit, fun c => ?_⟩⟩
        by_cases hc : c = m
        · subst hc
          rw [if_pos rfl]
          exact .inr (.inl ⟨hby, i.toNat, p, k, hp, q1, q2, hro, by omega, by omega⟩)
        · rw [if_neg hc]; exact I.next.slot c
      | true =>
        obtain ⟨rfl, hi0⟩ := F.uptr hv' hu hpk
        obtain ⟨hro, hts⟩ := hE.slot hi0
        obtain ⟨p, hp, hpl⟩ := hL.at hts
        obtain ⟨q1, m, q2, q3⟩ := hpl.ptr (by decide)
        rw [placeOf_at hi0 hp]
        have hby : byOf true = 1 := rfl
        have hz : sl m ≠ 2 := by
          rcases I.slot m with h1 | ⟨h1, j, q, c, h2, h3, h4, h5, h6, h7⟩ | ⟨h1, _⟩
          · rw [h1]; decide
          · exact absurd (h4.trans q2.symm) ((hL.apart2 (ro_ne h5 hro (by omega)) h2 hp).2 h3 q1)
          · rw [h1]; decide
        refine ⟨m, q1, q2, q3, hz, fun e => by rw [hby] at e; omega, ih _ _ (by omega) ⟨I.next.bit, fun c => ?_⟩⟩
        by_cases hc : c = m
        · subst hc
          rw [if_pos rfl]
          exact .inr (.inr ⟨hby, p, hi0, hp, q1, q2⟩)
        · rw [if_neg hc]; exact I.next.slot c

theorem law_all (fs : List Fld) (r : RL) (h0 : ∀ f ∈ fs, 0 ≤ f.t.kind) (h : rLay fs = some r) : AllOK r := by
  unfold rLay at h
  split at h
  · cases h
  split at h
  · cases h
  rename_i hany
  have h14 : ∀ f ∈ fs, f.t.kind ≤ 14 := by
    intro f hf
    have := hany
    simp only [List.any_eq_true, not_exists, not_and] at this
    have := this f hf
    simp at this
    exact this
  obtain ⟨ro, hE⟩ := eSpec_all fs
  split at h
  · cases h
  · rename_i st hst
    cases h
    have hL := lSpec_lay hst
    have hlen := hL.ok
    generalize eRun fs ES.start = E at *
    refine ⟨hlen.data_le, hlen.ptrs_le, ?_, ?_⟩
    · intro f hf
      simp only [List.mem_iff_getElem] at hf
      obtain ⟨n, hn, rfl⟩ := hf
      rw [List.getElem_zipWith]
      have hn' : n < fs.length := by rw [List.length_zipWith] at hn; omega
      exact h0 (fs[n]'hn') (List.getElem_mem _)
    · by_cases ht : 0 ≤ E.tag
      · right
        obtain ⟨hro, hts⟩ := hE.tag ht
        obtain ⟨p, hp, hpl⟩ := hL.at hts
        obtain ⟨q1, q2, q3, a, q4, q5⟩ := hpl.scal (by decide)
        rw [show wd 6 = ((16 : Nat) : Int) from rfl] at q1 q4 q5
        rw [Int.toNat_natCast] at q5
        have hreg := fun b => inReg_iff (b := b) q2 q1 q4
        simp only [placeOf_at ht hp]
        refine ⟨q1, a, q4, q5, ?_⟩
        have := chk_all hE hL h0 h14 fs.length 0 (fillF (fun _ => 0) a 16 2) (fun _ => 0) (by omega) ⟨fun b => ?_, fun n => .inl rfl⟩
        · simpa using this
        · unfold fillF
          split
          · rename_i hb
            exact .inr (.inl ⟨rfl, E.tag.toNat, p, -1, hp, (hreg b).2 hb, hro, .inl rfl⟩)
          · exact .inl rfl
      · left
        have hz : placeOf st.ps E.tag = Plc.zero := by unfold placeOf; rw [if_neg ht]
        simp only [hz]
        refine ⟨rfl, ?_⟩
        have := chk_all hE hL h0 h14 fs.length 0 (fun _ => 0) (fun _ => 0) (by omega) ⟨fun b => .inl rfl, fun n => .inl rfl⟩
        simpa using this

end Go.Proofs.Ygcfae
