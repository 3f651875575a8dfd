import Derived.Test.YgcfaeBits
namespace Go.Proofs.Ygcfae
open Go.RowKit

def IsNat (x : Int) : Prop := ∃ X : Nat, x = (X : Int) ∧ X < 2 ^ 64

theorem fitIn_spec {x : Int} {s : Nat} (hs : 0 < s) : ∀ {n a r : Nat}, a % s = 0 → fitIn x (s : Int) n a = some r → r % s = 0 ∧ r < 64 ∧ free x r (s : Int) = true
  | 0, _, _, _, h => by simp [fitIn] at h
  | n + 1, a, r, ha, h => by
    unfold fitIn at h
    split at h
    · rename_i h64
      split at h
      · rename_i hf
        simp at h
        subst h
        exact ⟨ha, h64, hf⟩
      · exact fitIn_spec hs (by rw [Int.toNat_natCast, Nat.add_mod_right]; exact ha) h
    · simp at h

theorem fitGo_spec {s : Nat} (hs : 0 < s) : ∀ {us : List Int} {k r : Nat}, fitGo (s : Int) us k = some r →
    ∃ j x b, us[j]? = some x ∧ r = (k + j) * 64 + b ∧ b < 64 ∧ b % s = 0 ∧ free x b (s : Int) = true
  | [], _, _, h => by simp [fitGo] at h
  | x :: us, k, r, h => by
    unfold fitGo at h
    split at h
    · rename_i a ha
      simp at h
      obtain ⟨h1, h2, h3⟩ := fitIn_spec hs (by simp) ha
      exact ⟨0, x, a, rfl, by omega, h2, h1, h3⟩
    · obtain ⟨j, y, b, h1, h2, h3⟩ := fitGo_spec hs h
      exact ⟨j + 1, y, b, by simpa using h1, by rw [h2]; congr 1; omega, h3⟩

theorem isW_fit {s b : Nat} (h : IsW s) (hb : b < 64) (hm : b % s = 0) : b + s ≤ 64 := by
  rcases h with rfl | rfl | rfl | rfl | rfl <;> omega
theorem isW_pos {s : Nat} (h : IsW s) : 0 < s := by rcases h with rfl | rfl | rfl | rfl | rfl <;> omega
theorem isW_64 {s : Nat} (h : IsW s) : 64 % s = 0 ∧ s ≤ 64 := by rcases h with rfl | rfl | rfl | rfl | rfl <;> omega
theorem isW_mul {s j b : Nat} (h : IsW s) (hb : b % s = 0) : (j * 64 + b) % s = 0 := by
  rcases h with rfl | rfl | rfl | rfl | rfl <;> omega

/-- bit b of the taken bits -/
def bitAt (us : List Int) (b : Nat) : Bool := ((us.getD (b / 64) 0).toNat).testBit (b % 64)

def InReg (p : Plc) (b : Nat) : Prop := p.isPtr = false ∧ p.off * p.bits ≤ (b : Int) ∧ (b : Int) < p.off * p.bits + p.bits
def Apart (p q : Plc) : Prop := (∀ b, InReg p b → ¬ InReg q b) ∧ (p.isPtr = true → q.isPtr = true → p.slot ≠ q.slot)

structure PlOK (d pt : Nat) (k : Int) (p : Plc) : Prop where
  ptr : wd k = 0 → p.isPtr = true ∧ ∃ n : Nat, p.slot = (n : Int) ∧ n < pt
  scal : wd k ≠ 0 → p.bits = wd k ∧ p.isPtr = false ∧ (0 ≤ p.off ∧ p.off ≤ 511) ∧ ∃ a : Nat, p.off * wd k = (a : Int) ∧ a + (wd k).toNat ≤ 64 * d

theorem PlOK.mono {d pt d' pt' : Nat} {k : Int} {p : Plc} (h : PlOK d pt k p) (hd : d ≤ d') (hp : pt ≤ pt') : PlOK d' pt' k p := by
  refine ⟨fun h0 => ?_, fun h0 => ?_⟩
  · obtain ⟨h1, n, h2, h3⟩ := h.ptr h0
    exact ⟨h1, n, h2, by omega⟩
  · obtain ⟨h1, h2, h3, a, h4, h5⟩ := h.scal h0
    exact ⟨h1, h2, h3, a, h4, by omega⟩

structure LSpec (ks : List Int) (st : LS) : Prop where
  ok : OkS st ks.length
  nat : ∀ x ∈ st.used, IsNat x
  place : ∀ (i : Nat) p, st.ps[i]? = some p → ∃ k, ks[i]? = some k ∧ PlOK st.data st.ptrs k p
  apart : ∀ (i j : Nat) p q, i < j → st.ps[i]? = some p → st.ps[j]? = some q → Apart p q
  took : ∀ (i : Nat) p, st.ps[i]? = some p → ∀ b, InReg p b → bitAt st.used b = true

theorem lSpec_start : LSpec [] LS.start := by
  refine ⟨okS_start, ?_, ?_, ?_, ?_⟩
  · intro x hx; simp [LS.start] at hx; subst hx; exact ⟨0, rfl, by decide⟩
  · intro i p h; simp [LS.start] at h
  · intro i j p q _ h; simp [LS.start] at h
  · intro i p h; simp [LS.start] at h

theorem snoc_get {α : Type} {l : List α} {x y : α} {i : Nat} (h : (l ++ [x])[i]? = some y) : (i < l.length ∧ l[i]? = some y) ∨ (i = l.length ∧ y = x) := by
  by_cases hi : i < l.length
  · rw [List.getElem?_append_left hi] at h
    exact .inl ⟨hi, h⟩
  · rw [List.getElem?_append_right (by omega)] at h
    have h0 : i - l.length = 0 := by
      have := (List.getElem?_eq_some_iff.1 h).1
      simp at this; omega
    rw [h0] at h
    simp at h
    exact .inr ⟨by omega, h.symm⟩

theorem LSpec.push {ks : List Int} {st st' : LS} {k : Int} {p : Plc} (h : LSpec ks st) (ok' : OkS st' (ks.length + 1)) (hps : st'.ps = st.ps ++ [p]) (hd : st.data ≤ st'.data) (hp : st.ptrs ≤ st'.ptrs)
    (hnat : ∀ x ∈ st'.used, IsNat x) (hmono : ∀ b, bitAt st.used b = true → bitAt st'.used b = true) (hpl : PlOK st'.data st'.ptrs k p)
    (hap : ∀ (i : Nat) q, st.ps[i]? = some q → Apart q p) (htook : ∀ b, InReg p b → bitAt st'.used b = true) : LSpec (ks ++ [k]) st' := by
  have hlen := h.ok.ps_len
  refine ⟨by simpa using ok', hnat, ?_, ?_, ?_⟩
  · intro i q hq
    rw [hps] at hq
    rcases snoc_get hq with ⟨hi, hq⟩ | ⟨rfl, rfl⟩
    · obtain ⟨k', h1, h2⟩ := h.place i q hq
      exact ⟨k', by rw [List.getElem?_append_left (by omega)]; exact h1, h2.mono hd hp⟩
    · exact ⟨k, by rw [hlen]; simp, hpl⟩
  · intro i j q q' hij hq hq'
    rw [hps] at hq hq'
    rcases snoc_get hq' with ⟨hj, hq'⟩ | ⟨rfl, rfl⟩
    · rw [List.getElem?_append_left (by omega)] at hq
      exact h.apart i j q q' hij hq hq'
    · rw [List.getElem?_append_left (by omega)] at hq
      exact hap i q hq
  · intro i q hq b hb
    rw [hps] at hq
    rcases snoc_get hq with ⟨hi, hq⟩ | ⟨rfl, rfl⟩
    · exact hmono b (h.took i q hq b hb)
    · exact htook b hb


theorem bitAt_set {us : List Int} {j b : Nat} {x : Int} (hj : j < us.length) : bitAt (us.set j x) b = if b / 64 = j then (x.toNat).testBit (b % 64) else bitAt us b := by
  unfold bitAt
  rw [List.getD_eq_getElem?_getD, List.getElem?_set]
  by_cases h : j = b / 64
  · rw [if_pos h, if_pos hj, if_pos h.symm]; rfl
  · rw [if_neg h, if_neg (fun e => h e.symm), List.getD_eq_getElem?_getD]

/-- a scalar of s bits is laid at bit a of the words -/
theorem LSpec.scalar {ks : List Int} {st st1 : LS} {k : Int} {a s : Nat} (h : LSpec ks st) (hk : wd k = (s : Int)) (hW : IsW s) (hps : st1.ps = st.ps) (hus : st1.used = st.used) (hd : st.data ≤ st1.data) (hpt : st1.ptrs = st.ptrs) (hd8 : st1.data ≤ 8)
    (ha : a % s = 0) (hin : a % 64 + s ≤ 64) (had : a + s ≤ 64 * st1.data)
    (hfree : ∀ (i : Nat) q, st.ps[i]? = some q → ∀ b, a ≤ b → b < a + s → ¬ InReg q b) : LSpec (ks ++ [k]) (st1.put k a) := by
  have hs0 := isW_pos hW
  have hj : a / 64 < st.used.length := by rw [h.ok.used_len]; omega
  obtain ⟨X, hX, hX64⟩ : IsNat (st.used.getD (a / 64) 0) := by
    rw [List.getD_eq_getElem?_getD, List.getElem?_eq_getElem hj]
    exact h.nat _ (List.getElem_mem _)
  obtain ⟨Y, hY, hY64, hY1, hY2⟩ := or_bits (a := a) hX64 hW hin
  have hdiv : (a : Int) / (s : Int) * (s : Int) = (a : Int) := by
    have : (((a / s) * s : Nat) : Int) = (a : Int) := by
      have := Nat.div_add_mod a s
      rw [ha, Nat.add_zero, Nat.mul_comm] at this
      rw [this]
    simpa using this
  have hused : (st1.put k a).used = st.used.set (a / 64) (Y : Int) := by
    simp only [LS.put, hus, hk]
    rw [hX, hY]
  have hreg : ∀ b, InReg ⟨wd k, (a : Int) / wd k, 0, false⟩ b ↔ a ≤ b ∧ b < a + s := by
    intro b
    unfold InReg
    rw [hk]
    simp only [hdiv]
    constructor
    · rintro ⟨_, h1, h2⟩; omega
    · rintro ⟨h1, h2⟩; exact ⟨trivial, by omega, by omega⟩
  refine h.push (p := ⟨wd k, (a : Int) / wd k, 0, false⟩) ?_ (by simp only [LS.put, hps]) (by simpa [LS.put] using hd) (by simp only [LS.put]; omega) ?_ ?_ ?_ ?_ ?_
  · exact ⟨by simpa [LS.put] using hd8, by simp only [LS.put, hpt]; exact h.ok.ptrs_le, by rw [hused, List.length_set]; exact h.ok.used_len, by simp [LS.put, hps, h.ok.ps_len]⟩
  · intro x hx
    rw [hused] at hx
    rcases List.mem_or_eq_of_mem_set hx with hx | rfl
    · exact h.nat x hx
    · exact ⟨Y, rfl, hY64⟩
  · intro b hb
    rw [hused, bitAt_set hj]
    split
    · rename_i e
      unfold bitAt at hb
      rw [e, hX] at hb
      exact hY1 _ hb
    · exact hb
  · refine ⟨fun h0 => by rw [hk] at h0; omega, fun _ => ⟨rfl, rfl, ?_, a, ?_, ?_⟩⟩
    · simp only
      have hd' : st1.data * 64 ≤ 512 := by omega
      refine ⟨Int.ediv_nonneg (by omega) (by omega), ?_⟩
      have := Int.ediv_le_self (a := (a : Int)) (wd k) (by omega)
      omega
    · simp only [hk]; exact hdiv
    · rw [hk, Int.toNat_natCast]; exact had
  · intro i q hq
    refine ⟨fun b hb hb' => ?_, fun _ h2 => by simp at h2⟩
    obtain ⟨h1, h2⟩ := (hreg b).1 hb'
    exact hfree i q hq b h1 h2 hb
  · intro b hb
    obtain ⟨h1, h2⟩ := (hreg b).1 hb
    have e : b / 64 = a / 64 := by omega
    rw [hused, bitAt_set hj, if_pos e, Int.toNat_natCast]
    have := hY2 (b - a) (by omega)
    rwa [show a % 64 + (b - a) = b % 64 by omega] at this

theorem LSpec.step {ks : List Int} {st st' : LS} {k : Int} (h : LSpec ks st) (hs : sStep st k = some st') : LSpec (ks ++ [k]) st' := by
  have ok' := sStep_ok h.ok hs
  unfold sStep at hs
  split at hs
  · cases hs
  split at hs
  · rename_i hw
    split at hs
    · cases hs
    · cases hs
      refine h.push (p := ⟨0, 0, st.ptrs, true⟩) ok' rfl (Nat.le_refl _) (Nat.le_succ _) h.nat (fun _ hb => hb) ?_ ?_ ?_
      · exact ⟨fun _ => ⟨rfl, st.ptrs, rfl, Nat.lt_succ_self _⟩, fun h0 => absurd hw h0⟩
      · intro i q hq
        refine ⟨fun b _ hb => by simp [InReg] at hb, fun hq1 _ => ?_⟩
        obtain ⟨kq, hkq, hpl⟩ := h.place i q hq
        by_cases h0 : wd kq = 0
        · obtain ⟨_, m, h1, h2⟩ := hpl.ptr h0
          simp only [h1]; omega
        · obtain ⟨_, h2, _⟩ := hpl.scal h0
          rw [h2] at hq1; cases hq1
      · intro b hb; simp [InReg] at hb
  · rename_i hw
    obtain ⟨s, hsk, hW⟩ := wd_isW hw
    have hs0 := isW_pos hW
    have h8 := h.ok.data_le
    split at hs
    · rename_i a ha
      cases hs
      rw [hsk] at ha
      obtain ⟨j, x, b, h1, h2, h3, h4, h5⟩ := fitGo_spec hs0 ha
      have hfit := isW_fit hW h3 h4
      have hjd : j < st.data ∧ st.used[j]? = some x := by
        rw [List.getElem?_take] at h1
        split at h1
        · exact ⟨by assumption, h1⟩
        · cases h1
      obtain ⟨X, rfl, hX64⟩ := h.nat x (List.mem_of_getElem? hjd.2)
      have hfb := free_bits hX64 hW h5
      refine h.scalar (st1 := st) hsk hW rfl rfl (Nat.le_refl _) rfl h8 (by rw [h2]; simpa using isW_mul (j := j) hW h4) (by omega) (by omega) ?_
      intro i q hq c hc1 hc2 hc
      have htk := h.took i q hq c hc
      unfold bitAt at htk
      have e1 : c / 64 = j := by omega
      have e2 : c % 64 = b + (c - a) := by omega
      rw [e1, List.getD_eq_getElem?_getD, hjd.2, e2, Option.getD_some, Int.toNat_natCast, hfb _ (by omega)] at htk
      cases htk
    · rename_i ha
      split at hs
      · cases hs
      · cases hs
        have hm : (st.data * 64) % s = 0 := by simpa using isW_mul (j := st.data) (b := 0) hW (by simp)
        have h64 := isW_64 hW
        refine h.scalar (st1 := { st with data := st.data + 1 }) hsk hW rfl rfl (Nat.le_succ _) rfl (by simp only; omega) hm (by omega) (by simp only; omega) ?_
        intro i q hq c hc1 hc2 hc
        obtain ⟨kq, hkq, hpl⟩ := h.place i q hq
        by_cases h0 : wd kq = 0
        · obtain ⟨h1, _⟩ := hpl.ptr h0
          rw [hc.1] at h1; cases h1
        · obtain ⟨h1, h2, h3, a, h4, h5⟩ := hpl.scal h0
          have := hc.2.2
          obtain ⟨sq, hsq, _⟩ := wd_isW h0
          rw [h1, h4] at this
          rw [hsq] at this h5
          rw [Int.toNat_natCast] at h5
          omega

theorem lSpec_run : ∀ (ks ks0 : List Int) {st st' : LS}, LSpec ks0 st → sRun ks st = some st' → LSpec (ks0 ++ ks) st'
  | [], ks0, _, _, h, hs => by simp only [sRun, Option.some.injEq] at hs; subst hs; simpa using h
  | k :: ks, ks0, st, st', h, hs => by
    unfold sRun at hs
    split at hs
    · cases hs
    · rename_i st1 h1
      have := lSpec_run ks (ks0 ++ [k]) (h.step h1) hs
      simpa using this

theorem lSpec_lay {ks : List Int} {st : LS} (h : sLay ks = some st) : LSpec ks st := by
  unfold sLay at h
  split at h
  · cases h
  · have := lSpec_run ks [] lSpec_start h
    simpa using this

end Go.Proofs.Ygcfae
