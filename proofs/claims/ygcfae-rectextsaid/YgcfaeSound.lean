import Derived.Test.YgcfaeFlds
import Derived.Test.YgcfaeTake
namespace Go.Proofs.Ygcfae
open Go.RowKit

theorem rLayout_any (fs : List Fld) (ao : Option Addr) (n cap : Nat) (w : World) (hn : fs.length = n) (hc : Has w ao (fcells fs)) (hk0 : ∀ f ∈ fs, 0 ≤ f.t.kind) :
    Calls Faeg.prog 12 #[.slice ao n cap] w (RPost fs w) := by
  by_cases h : 16 < n
  · exact rLayout_long fs ao n cap w hn h
  · exact rLayout_short fs ao n cap w hn (by omega) hc hk0

theorem rLayout_no {fs : List Fld} (h : rLay fs = none) (ao : Option Addr) (n cap : Nat) (w : World) (hn : fs.length = n) (hc : Has w ao (fcells fs)) (hk0 : ∀ f ∈ fs, 0 ≤ f.t.kind) :
    Calls Faeg.prog 12 #[.slice ao n cap] w fun e w' => e = .returned (.tuple #[.slice none 0 0, .agg #[.int .u8 0, .int .u16 0, .int .u8 0, .bool false], .int .u8 0, .int .u8 0, .bool false]) ∧ Below w.heap.size w w' := by
  refine (rLayout_any fs ao n cap w hn hc hk0).mono ?_
  rintro e w' ⟨h1, h2⟩
  rw [h] at h2
  exact ⟨h2, h1⟩

theorem rLayout_yes {fs : List Fld} {r : RL} (h : rLay fs = some r) (ao : Option Addr) (n cap : Nat) (w : World) (hn : fs.length = n) (hc : Has w ao (fcells fs)) (hk0 : ∀ f ∈ fs, 0 ≤ f.t.kind) :
    Calls Faeg.prog 12 #[.slice ao n cap] w fun e w' => ∃ a c, e = .returned (.tuple #[.slice a n c, .agg #[.int .u8 r.tag.bits, .int .u16 r.tag.off, .int .u8 r.tag.slot, .bool r.tag.isPtr], .int .u8 r.data, .int .u8 r.ptrs, .bool true]) ∧
      Has w' a (fcells r.fs) ∧ Below w.heap.size w w' := by
  refine (rLayout_any fs ao n cap w hn hc hk0).mono ?_
  rintro e w' ⟨h1, h2⟩
  rw [h] at h2
  obtain ⟨v, rfl, ho⟩ := h2
  rw [hn] at ho
  obtain ⟨a, c, rfl, hh⟩ := Has.own ho
  exact ⟨a, c, rfl, hh, h1⟩

def byOf (u : Bool) : Int := if u then 1 else 2

/-- what the law asks of the fields, from an owner of each bit and of each slot on -/
def Chk (d p : Nat) : List Fld → (Nat → Int) → (Nat → Int) → Prop
  | [], _, _ => True
  | x :: xs, ow, sl =>
    (0 < wd x.t.kind → ∃ a : Nat, x.p.bits = wd x.t.kind ∧ x.p.isPtr = false ∧ (0 ≤ x.p.off ∧ x.p.off ≤ 65535) ∧ x.p.off * wd x.t.kind = a ∧ a + (wd x.t.kind).toNat ≤ 64 * d ∧
      (∀ i, a ≤ i → i < a + (wd x.t.kind).toNat → ow i ≠ 2 ∧ (byOf x.union = 2 → ow i = 0)) ∧ Chk d p xs (fillF ow a (wd x.t.kind).toNat (byOf x.union)) sl) ∧
    (wd x.t.kind = 0 → x.t.kind = 14 → x.p = Plc.zero ∧ Chk d p xs ow sl) ∧
    (wd x.t.kind = 0 → x.t.kind ≠ 14 → ∃ n : Nat, x.p.isPtr = true ∧ x.p.slot = n ∧ n < p ∧ sl n ≠ 2 ∧ (byOf x.union = 2 → sl n = 0) ∧
      Chk d p xs ow (fun j => if j = n then byOf x.union else sl j))

def AllOK (r : RL) : Prop :=
  r.data ≤ 8 ∧ r.ptrs ≤ 8 ∧ (∀ f ∈ r.fs, 0 ≤ f.t.kind) ∧
  ((r.tag.bits = 0 ∧ Chk r.data r.ptrs r.fs (fun _ => 0) (fun _ => 0)) ∨
   (r.tag.bits = 16 ∧ ∃ a : Nat, r.tag.off * 16 = a ∧ a + 16 ≤ 64 * r.data ∧ Chk r.data r.ptrs r.fs (fillF (fun _ => 0) a 16 2) (fun _ => 0)))

/-- what the memory holds in RecSound -/
structure SMem (w2 : World) (d : Nat) (ow sl : Nat → Int) (wr : World) : Prop where
  own : Own wr (w2.heap.size + 1) 36 (rowF 512 ow)
  slot : Own wr (w2.heap.size + 1 + 1) 37 (rowF 8 sl)
  claim : Own wr (w2.heap.size + 1 + 1 + 1) 40 [.pointer (some ⟨w2.heap.size + 1, 0, none⟩), .int .i64 d]
  below : Below w2.heap.size w2 wr

section
variable {w2 : World} {d : Nat} {ow sl : Nat → Int} {wr w' : World}
theorem SMem.size (h : SMem w2 d ow sl wr) : w2.heap.size + 3 < wr.heap.size := by have := h.claim.lt; omega
theorem SMem.alloc (h : SMem w2 d ow sl wr) (o : Obj) : SMem w2 d ow sl (wr.alloc o) :=
  ⟨h.own.alloc o, h.slot.alloc o, h.claim.alloc o, h.below.alloc (by have := h.size; omega) o⟩
theorem SMem.took {ow' : Nat → Int} (h : SMem w2 d ow sl wr) (ho : Own w' (w2.heap.size + 1) 36 (rowF 512 ow')) (hm : Mod (· = w2.heap.size + 1) wr w') : SMem w2 d ow' sl w' :=
  ⟨ho, h.slot.mod hm (by omega), h.claim.mod hm (by omega), h.below.trans (hm.below (by have := h.size; omega) (by intro k hk; omega))⟩
theorem SMem.store (h : SMem w2 d ow sl wr) (n : Nat) (x : Int) :
    SMem w2 d ow (fun j => if j = n then x else sl j) (wr.setCell ⟨w2.heap.size + 1 + 1, n, none⟩ (.int .u8 x)) := by
  refine ⟨h.own.other (by simp) _, ?_, h.claim.other (by simp) _, h.below.setCell (p := ⟨w2.heap.size + 1 + 1, n, none⟩) (by simp; omega) _⟩
  have := h.slot.set n (.int .u8 x)
  rwa [rowF_set] at this
end

theorem zero36 : Faeg.zeroCells36.toList = rowF 512 (fun _ => 0) := by kernel_rfl

theorem smem_start (w2 : World) (d : Nat) (o : Obj) (Z : Array Value) (hZ : Z.toList = rowF 512 (fun _ => 0)) :
    SMem w2 d (fun _ => 0) (fun _ => 0) ((((w2.alloc o).alloc (.cells Z 36)).alloc (.cells #[.int .u8 0, .int .u8 0, .int .u8 0, .int .u8 0, .int .u8 0, .int .u8 0, .int .u8 0, .int .u8 0] 37)).alloc
      (.cells #[.pointer (some ⟨w2.heap.size + 1, 0, none⟩), .int .i64 d] 40)) := by
  have h0 : (w2.alloc o).heap.size = w2.heap.size + 1 := by simp
  refine ⟨?_, ?_, ?_, ?_⟩
  · rw [← hZ, ← h0]
    exact ((Own.new (w2.alloc o) Z 36).alloc _).alloc _
  · have h1 : ((w2.alloc o).alloc (.cells Z 36)).heap.size = w2.heap.size + 1 + 1 := by rw [World.size_alloc, h0]
    have := (Own.new ((w2.alloc o).alloc (.cells Z 36)) #[.int .u8 0, .int .u8 0, .int .u8 0, .int .u8 0, .int .u8 0, .int .u8 0, .int .u8 0, .int .u8 0] 37).alloc (.cells #[.pointer (some ⟨w2.heap.size + 1, 0, none⟩), .int .i64 d] 40)
    rw [h1] at this
    exact this
  · have h1 : (((w2.alloc o).alloc (.cells Z 36)).alloc (.cells #[.int .u8 0, .int .u8 0, .int .u8 0, .int .u8 0, .int .u8 0, .int .u8 0, .int .u8 0, .int .u8 0] 37)).heap.size = w2.heap.size + 1 + 1 + 1 := by rw [World.size_alloc, World.size_alloc, h0]
    have := Own.new (((w2.alloc o).alloc (.cells Z 36)).alloc (.cells #[.int .u8 0, .int .u8 0, .int .u8 0, .int .u8 0, .int .u8 0, .int .u8 0, .int .u8 0, .int .u8 0] 37)) #[.pointer (some ⟨w2.heap.size + 1, 0, none⟩), .int .i64 d] 40
    rw [h1] at this
    exact this
  · exact ((((Below.refl _ w2).alloc (Nat.le_refl _) _).alloc (by simp) _).alloc (by simp; omega) _).alloc (by simp; omega) _

theorem rLay_len {fs : List Fld} {r : RL} (h : rLay fs = some r) : r.fs.length = fs.length := by
  unfold rLay at h
  split at h
  · cases h
  split at h
  · cases h
  split at h
  · cases h
  · cases h
    simp only [List.length_zipWith]
    rw [(eRun_start fs).1.ix_len]
    omega

theorem rLay_short {fs : List Fld} {r : RL} (h : rLay fs = some r) : fs.length ≤ 16 := by
  unfold rLay at h
  split at h
  · cases h
  · omega

set_option maxRecDepth 100000
set_option maxHeartbeats 1000000 in
theorem recSound_yes (fs : List Fld) {r : RL} (hr : rLay fs = some r) (hok : AllOK r) (ao : Option Addr) (n cap : Nat) (v0 : Value) (w : World) (hn : fs.length = n) (hk0 : ∀ f ∈ fs, 0 ≤ f.t.kind)
    (h11 : Calls Faeg.prog 11 #[v0] w fun e w' => e = .returned (.slice ao n cap) ∧ Has w' ao (fcells fs) ∧ Below w.heap.size w w') :
    Calls Faeg.prog 4 #[v0] w fun e w' => e = .returned (.bool true) ∧ Below w.heap.size w w' := by
  have hrl := rLay_len hr
  have hn16 : n ≤ 16 := by rw [← hn]; exact rLay_short hr
  have H11 : Hid _ := h11
  have HR : Hid _ := hr
  clear h11 hr
  obtain ⟨hd8, hp8, hkr, hchk⟩ := hok
  have HK : Hid _ := hchk
  clear hchk
  go_enter Faeg.func4, Faeg.ntmps4
  go_upto_region 7 with (first | (go_at_call 11; refine Calls.mono (Hid.out H11) ?_; rintro e w1 ⟨rfl, has1, bel1⟩) | (go_at_call 12; refine (rLayout_yes HR.out ao n cap _ hn has1 hk0).mono ?_; rintro e w2 ⟨a2, c2, rfl, has2, bel2⟩))
  have M0 : Hid (∀ o, SMem w2 r.data (fun _ => 0) (fun _ => 0) ((((w2.alloc o).alloc (.cells Faeg.zeroCells36 36)).alloc (.cells #[.int .u8 0, .int .u8 0, .int .u8 0, .int .u8 0, .int .u8 0, .int .u8 0, .int .u8 0, .int .u8 0] 37)).alloc
      (.cells #[.pointer (some ⟨w2.heap.size + 1, 0, none⟩), .int .i64 r.data] 40))) := fun o => smem_start w2 r.data o _ zero36
  go_cut [46] (fun v wc => v = .bool false ∧ ∃ ow, SMem w2 r.data ow (fun _ => 0) wc ∧ Hid (Chk r.data r.ptrs r.fs ow (fun _ => 0)))
  case first =>
    rcases HK.out with ⟨hb, hc⟩ | ⟨hb, a, ha, hal, hc⟩
    · have hc' : Hid _ := hc
      clear hc HK
      have hb0 : (r.tag.bits == 0) = true := by simp [hb]
      go_wp2_with fail
      go_meet
      exact ⟨rfl, _, M0.out _, hc'⟩
    · have hc' : Hid _ := hc
      clear hc HK
      have hfr : Hid (∀ i, a ≤ i → i < a + 16 → (fun _ : Nat => (0 : Int)) i ≠ 2 ∧ ((2 : Int) = 2 → (fun _ : Nat => (0 : Int)) i = 0)) := fun _ _ _ => ⟨by simp, fun _ => rfl⟩
      have hoff : 0 ≤ r.tag.off ∧ r.tag.off ≤ 65535 := by omega
      go_wp2_with (go_at_call 13; refine (take_any _ _ a 16 r.data 2 _ hd8 hal (M0.out _).own hfr.out).mono ?_; rintro e w3 ⟨rfl, ho3, hm3⟩)
      go_meet
      exact ⟨rfl, _, (M0.out _).took ho3 hm3, hc'⟩
  case rest =>
    obtain ⟨rfl, ow, M, hC⟩ := hcut
    clear M0 HK
    have hbw : Below w.heap.size w w2 := bel1.trans (bel2.mono bel1.size)
    have hsw := hbw.size
    go_wp2_with fail
    go_loopw [49] (fun i wr => ∃ (k : Nat) (ow sl : Nat → Int), k ≤ n ∧ i = .int .i64 k ∧ SMem w2 r.data ow sl wr ∧ Hid (Chk r.data r.ptrs (r.fs.drop k) ow sl)) (fun i _ => n - (intOf i).toNat)
    case atStart => exact ⟨0, ow, _, Nat.zero_le _, rfl, M, hC⟩
    case round =>
      clear M hC
      obtain ⟨k, ow, sl, hk, rfl, M, hC⟩ := hrel
      have hms := M.size
      by_cases hlt : k < n
      · have hb3 : ∃ b off, a2 = some ⟨b, off, none⟩ ∧ b < w2.heap.size ∧ AtB w2 b off (fcells r.fs) := by
          rcases has2 with h | h
          · exfalso
            have := congrArg List.length h
            rw [fcells, flat_length Fld.cells 11 (fun _ => rfl), List.length_nil] at this
            omega
          · exact h
        obtain ⟨b, off, rfl, hb, hcb⟩ := hb3
        have hf := (fld_at hcb (k := k) (by omega)).below M.below hb
        have hCk := hC.out
        rw [List.drop_eq_getElem_cons (by omega)] at hCk
        have hfk : 0 ≤ r.fs[k].t.kind := hkr _ (List.getElem_mem _)
        obtain ⟨x, hxe⟩ : ∃ x, x = r.fs[k] := ⟨_, rfl⟩
        rw [← hxe] at hf hCk hfk
        obtain ⟨c0, c1, c2, c3, c4, c5, c6, c7, c8, c9, c10⟩ := fld11 hf
        clear hf hxe hC
        obtain ⟨hC1, hC2, hC3⟩ := hCk
        have hwn := wd_nonneg x.t.kind
        obtain ⟨s, hs⟩ := Int.eq_ofNat_of_zero_le hwn.1
        have hs64 : s ≤ 64 := by omega
        have hwd : ∀ w, Calls Faeg.prog 14 #[.int .u8 x.t.kind] w fun e w' => e = .returned (.int .i64 (s : Int)) ∧ w' = w := fun w => by
          have := ownWidth_any x.t.kind w hfk
          rw [hs] at this; exact this
        have HWD : Hid _ := hwd
        rw [hs] at hC1 hC2 hC3
        have H1 : Hid _ := hC1
        have H2 : Hid _ := hC2
        have H3 : Hid _ := hC3
        clear hwd hC1 hC2 hC3 hs hwn
        go_upto_if 54 with fail
        go_cut [13] (fun v wc => v = .int .u8 (byOf x.union) ∧ wc = wr.alloc (.cells x.cells.toArray 34))
        case first =>
          cases hu : x.union
          all_goals
            go_wp2_with fail
            go_meet
            simp [Fld.cells, hu, byOf]
        case rest =>
          obtain ⟨rfl, rfl⟩ := hcut
          have M1 := M.alloc (.cells x.cells.toArray 34)
          have hX : Own (wr.alloc (.cells x.cells.toArray 34)) wr.heap.size 34 x.cells := Own.new _ _ _
          clear c0 c1 c2 c3 c4 c5 c6 c7 c8 c9 c10 M hms
          generalize wr.heap.size = xb at *
          generalize wr.alloc (.cells x.cells.toArray 34) = wx at *
          have hms := M1.size
          obtain ⟨y0, y1, y2, y3, y4, y5, y6, y7, y8, y9, y10⟩ := fld11 (o := 0) hX.at
          simp only [Nat.zero_add] at y1 y2 y3 y4 y5 y6 y7 y8 y9 y10
          obtain ⟨bv, hbv⟩ : ∃ bv, bv = byOf x.union := ⟨_, rfl⟩
          rw [← hbv]
          rw [← hbv] at H1 H3
          have hb12 : bv = 1 ∨ bv = 2 := by rw [hbv]; unfold byOf; split <;> simp
          clear hbv
          have k0 := M1.claim.cell (j := 0) rfl
          have k1 := M1.claim.cell (j := 1) rfl
          by_cases hs0 : 0 < s
          · obtain ⟨a, e1, e2, hoff, e3, e4, e5, e6⟩ := H1.out (by omega)
            rw [Int.toNat_natCast] at e4 e5 e6
            have E5 : Hid _ := e5
            have E6 : Hid _ := e6
            clear H1 H2 H3 e5 e6
            go_wp2_with (first | (go_at_call 14; refine (HWD.out _).mono ?_; rintro e w' ⟨rfl, hww⟩; rw [hww]; clear hww) | (go_at_call 13; refine (take_any _ _ a s r.data bv _ hd8 e4 M1.own E5.out).mono ?_; rintro e w3 ⟨rfl, ho3, hm3⟩))
            have M2 := M1.took ho3 hm3
            clear M1 ho3 hm3
            go_roundw
            case rel => exact ⟨k + 1, _, _, by omega, by go_num, M2, E6⟩
            case measure => simp [intOf]; omega
          · obtain rfl : s = 0 := by omega
            by_cases h14 : x.t.kind = 14
            · obtain ⟨e1, e2⟩ := H2.out rfl h14
              have E2 : Hid _ := e2
              have h14' : (x.t.kind == 14) = true := by simp [h14]
              have z1 : x.p.bits = 0 := by rw [e1]; rfl
              have z2 : x.p.off = 0 := by rw [e1]; rfl
              have z3 : x.p.slot = 0 := by rw [e1]; rfl
              have z4 : x.p.isPtr = false := by rw [e1]; rfl
              clear H1 H2 H3 e1 e2 h14
              go_wp2_with (go_at_call 14; refine (HWD.out _).mono ?_; rintro e w' ⟨rfl, hww⟩; rw [hww]; clear hww)
              go_roundw
              case rel => exact ⟨k + 1, _, _, by omega, by go_num, M1, E2⟩
              case measure => simp [intOf]; omega
            · obtain ⟨m, e1, e2, e3, e4, e5, e6⟩ := H3.out rfl h14
              have E6 : Hid _ := e6
              have h14' : (x.t.kind == 14) = false := by simp [h14]
              have hsl := M1.slot.cell (rowF_get (show m < 8 by omega))
              have hsf := M1.slot.free m
              have hd : decide ((r.ptrs : Int) ≤ (m : Int)) = false := by simp; omega
              have M2 := M1.store m bv
              obtain ⟨y, hy⟩ : ∃ y, y = sl m := ⟨_, rfl⟩
              rw [← hy] at hsl e4 e5
              have hy2 : (y == 2) = false := by simp [e4]
              clear H1 H2 H3 e6 h14 hy e4
              rcases hb12 with rfl | rfl
              · clear e5
                go_wp2_with (go_at_call 14; refine (HWD.out _).mono ?_; rintro e w' ⟨rfl, hww⟩; rw [hww]; clear hww)
                go_roundw
                case rel => exact ⟨k + 1, _, _, by omega, by go_num, M2, E6⟩
                case measure => simp [intOf]; omega
              · have hy0 : (y != 0) = false := by simp [e5 rfl]
                clear e5
                go_wp2_with (go_at_call 14; refine (HWD.out _).mono ?_; rintro e w' ⟨rfl, hww⟩; rw [hww]; clear hww)
                go_roundw
                case rel => exact ⟨k + 1, _, _, by omega, by go_num, M2, E6⟩
                case measure => simp [intOf]; omega
      · go_wp2_with fail
        go_ret
        exact ⟨rfl, hbw.trans (M.below.mono hsw)⟩

set_option maxHeartbeats 400000 in
theorem recSound_no (fs : List Fld) (hr : rLay fs = none) (ao : Option Addr) (n cap : Nat) (v0 : Value) (w : World) (hn : fs.length = n) (hk0 : ∀ f ∈ fs, 0 ≤ f.t.kind)
    (h11 : Calls Faeg.prog 11 #[v0] w fun e w' => e = .returned (.slice ao n cap) ∧ Has w' ao (fcells fs) ∧ Below w.heap.size w w') :
    Calls Faeg.prog 4 #[v0] w fun e w' => e = .returned (.bool true) ∧ Below w.heap.size w w' := by
  have H11 : Hid _ := h11
  have HR : Hid _ := hr
  clear h11 hr
  go_enter Faeg.func4, Faeg.ntmps4
  go_wp2_with (first | (go_at_call 11; refine Calls.mono (Hid.out H11) ?_; rintro e w1 ⟨rfl, has1, bel1⟩) | (go_at_call 12; refine (rLayout_no HR.out ao n cap _ hn has1 hk0).mono ?_; rintro e w2 ⟨rfl, bel2⟩))
  go_ret
  have := bel1.size
  have := bel2.size
  exact ⟨rfl, (bel1.trans (bel2.mono (by omega))).alloc (by omega) _⟩

/-- RecSound, once the law of the layouts stands -/
theorem recSound_walk (hlaw : ∀ fs r, (∀ f ∈ fs, 0 ≤ f.t.kind) → rLay fs = some r → AllOK r) (fs : List Fld) (ao : Option Addr) (n cap : Nat) (v0 : Value) (w : World) (hn : fs.length = n) (hk0 : ∀ f ∈ fs, 0 ≤ f.t.kind)
    (h11 : Calls Faeg.prog 11 #[v0] w fun e w' => e = .returned (.slice ao n cap) ∧ Has w' ao (fcells fs) ∧ Below w.heap.size w w') :
    Calls Faeg.prog 4 #[v0] w fun e w' => e = .returned (.bool true) ∧ Below w.heap.size w w' := by
  cases h : rLay fs with
  | none => exact recSound_no fs h ao n cap v0 w hn hk0 h11
  | some r => exact recSound_yes fs h (hlaw fs r hk0 h) ao n cap v0 w hn hk0 h11
end Go.Proofs.Ygcfae
