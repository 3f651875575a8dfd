import Derived.Test.YgcfaeRLayW
namespace Go.Proofs.Ygcfae
open Go.RowKit

theorem flat_set {α : Type} (c : α → List Value) (sz : Nat) (hc : ∀ x, (c x).length = sz) :
    ∀ (fs : List α) (k j : Nat) (h : k < fs.length) (f' : α) (u : Value), j < sz → c f' = (c fs[k]).set j u → (fs.flatMap c).set (k * sz + j) u = (fs.set k f').flatMap c
  | f :: fs, 0, j, _, f', u, hj, hf => by
    simp only [List.flatMap_cons, Nat.zero_mul, Nat.zero_add, List.set_cons_zero]
    rw [List.set_append_left _ _ (by rw [hc]; exact hj)]
    simp only [List.getElem_cons_zero] at hf
    rw [hf]
  | f :: fs, k + 1, j, h, f', u, hj, hf => by
    simp only [List.flatMap_cons, List.set_cons_succ]
    rw [List.set_append_right _ _ (by rw [hc, Nat.add_mul]; omega), hc]
    have e : (k + 1) * sz + j - sz = k * sz + j := by rw [Nat.add_mul]; omega
    rw [e, flat_set c sz hc fs k j (by simpa using h) f' u hj (by simpa using hf)]

def Fld.zero : Fld := ⟨ByteArray.empty, ⟨0, 0, 0, 0⟩, ⟨0, 0, 0, false⟩, 0, false⟩

theorem made_zero (n : Nat) : (madeCells (Value.agg #[.string ByteArray.empty, .int .u8 0, .int .u8 0, .int .u8 0, .int .u8 0, .int .u8 0, .int .u16 0, .int .u8 0, .bool false, .int .u64 0, .bool false]).cells (n * 11)).toList
    = fcells (List.replicate n Fld.zero) := by
  apply List.ext_getElem?
  intro j
  by_cases hj : j < n * 11
  · have h1 : fcells (List.replicate n Fld.zero) = (List.replicate n Fld.zero).flatMap Fld.cells := rfl
    have hk : j / 11 < (List.replicate n Fld.zero).length := by simp; omega
    have := flat_get Fld.cells 11 (fun _ => rfl) (List.replicate n Fld.zero) (j / 11) (j % 11) hk (by omega)
    rw [show j / 11 * 11 + j % 11 = j by omega] at this
    rw [h1, this, List.getElem_replicate]
    have hm : j % 11 < 11 := by omega
    generalize hr : j % 11 = r at *
    simp only [madeCells, Array.toList_map, Array.toList_range, List.getElem?_map]
    rw [List.getElem?_eq_getElem (by simpa using hj)]
    simp only [List.getElem_range, Option.map_some, Value.cells]
    show some (_[j % 11]!) = _
    rw [hr]
    rcases (show r = 0 ∨ r = 1 ∨ r = 2 ∨ r = 3 ∨ r = 4 ∨ r = 5 ∨ r = 6 ∨ r = 7 ∨ r = 8 ∨ r = 9 ∨ r = 10 by omega) with rfl | rfl | rfl | rfl | rfl | rfl | rfl | rfl | rfl | rfl | rfl <;> rfl
  · rw [List.getElem?_eq_none (by simp [madeCells]; omega), List.getElem?_eq_none]
    rw [fcells, flat_length Fld.cells 11 (fun _ => rfl)]
    simp; omega

def kdB (z : Int) : Int := (bits BinOp.and IntKind.u8 z 127).tmod 15
def unB (z : Int) : Bool := !(bits BinOp.and IntKind.u8 z 128 == 0) || kdB z == 14
/-- the field of a law's kind byte -/
def mkF (z : Int) : Fld := ⟨ByteArray.empty, ⟨kdB z, 0, 0, 0⟩, ⟨0, 0, 0, false⟩, 0, unB z⟩
def built (zs : List Int) (n k : Nat) : List Fld := (zs.take k).map mkF ++ List.replicate (n - k) Fld.zero

theorem built_len (zs : List Int) (n k : Nat) (hz : zs.length = n) (hk : k ≤ n) : (built zs n k).length = n := by
  simp [built]; omega
theorem built_at (zs : List Int) (n k : Nat) (hz : zs.length = n) (hk : k < n) : (built zs n k)[k]'(by rw [built_len zs n k hz (by omega)]; exact hk) = Fld.zero := by
  unfold built
  rw [List.getElem_append_right (by simp; omega)]
  simp
theorem built_succ (zs : List Int) (n k : Nat) (hz : zs.length = n) (hk : k < n) : (built zs n k).set k (mkF (zs[k]'(by omega))) = built zs n (k + 1) := by
  unfold built
  rw [List.set_append_right _ _ (by simp; omega)]
  have e1 : k - ((zs.take k).map mkF).length = 0 := by simp; omega
  rw [e1, show n - k = (n - (k + 1)) + 1 by omega, List.replicate_succ, List.set_cons_zero, List.take_succ_eq_append_getElem (by omega), List.map_append, List.append_assoc]
  rfl
theorem built_zero (zs : List Int) (n : Nat) : built zs n 0 = List.replicate n Fld.zero := by simp [built]
theorem built_all (zs : List Int) (n : Nat) (hz : zs.length = n) : built zs n n = zs.map mkF := by
  simp [built, List.take_of_length_le (Nat.le_of_eq hz)]

theorem built_cell (zs : List Int) (n k j : Nat) (hz : zs.length = n) (hk : k < n) (hj : j < 11) : (fcells (built zs n k))[k * 11 + j]? = Fld.zero.cells[j]? := by
  have := flat_get Fld.cells 11 (fun _ => rfl) (built zs n k) k j (by rw [built_len zs n k hz (by omega)]; exact hk) hj
  rw [built_at zs n k hz hk] at this
  exact this

theorem built_set (zs : List Int) (n k : Nat) (hz : zs.length = n) (hk : k < n) :
    ((fcells (built zs n k)).set (k * 11 + 1) (.int .u8 (kdB (zs[k]'(by omega))))).set (k * 11 + 10) (.bool (unB (zs[k]'(by omega)))) = fcells (built zs n (k + 1)) := by
  have hl := built_len zs n k hz (by omega)
  have h1 := flat_set Fld.cells 11 (fun _ => rfl) (built zs n k) k 1 (by omega) { Fld.zero with t := ⟨kdB (zs[k]'(by omega)), 0, 0, 0⟩ } (.int .u8 (kdB (zs[k]'(by omega)))) (by omega) (by rw [built_at zs n k hz hk]; rfl)
  have h2 := flat_set Fld.cells 11 (fun _ => rfl) ((built zs n k).set k { Fld.zero with t := ⟨kdB (zs[k]'(by omega)), 0, 0, 0⟩ }) k 10 (by simp; omega) (mkF (zs[k]'(by omega))) (.bool (unB (zs[k]'(by omega)))) (by omega) (by rw [List.getElem_set_self]; rfl)
  unfold fcells
  rw [h1, h2, List.set_set, built_succ zs n k hz hk]

theorem built_step {zs : List Int} {n k : Nat} {w wr : World} (hz : zs.length = n) (hk : k < n)
    (own : wr.ownsRow w.heap.size 34 11 (.slice (some ⟨w.heap.size, 0, none⟩) n n) n (fcells (built zs n k))) (hbl : Below w.heap.size w wr) {z : Int} (hzk : z = zs[k]'(by omega)) {u : Bool} (hu : u = unB z) :
    ((wr.setCell ⟨w.heap.size, k * 11 + 1, none⟩ (.int .u8 ((bits BinOp.and IntKind.u8 z 127).tmod 15))).setCell ⟨w.heap.size, k * 11 + 10, none⟩ (.bool u)).ownsRow w.heap.size 34 11 (.slice (some ⟨w.heap.size, 0, none⟩) n n) n (fcells (built zs n (k + 1))) ∧
    Below w.heap.size w ((wr.setCell ⟨w.heap.size, k * 11 + 1, none⟩ (.int .u8 ((bits BinOp.and IntKind.u8 z 127).tmod 15))).setCell ⟨w.heap.size, k * 11 + 10, none⟩ (.bool u)) := by
  subst hzk hu
  refine ⟨?_, (hbl.setCell (p := ⟨w.heap.size, k * 11 + 1, none⟩) (Nat.le_refl _) _).setCell (p := ⟨w.heap.size, k * 11 + 10, none⟩) (Nat.le_refl _) _⟩
  rw [← built_set zs n k hz hk]
  exact ((own.stored (k * 11 + 1) _).1.stored (k * 11 + 10) _).1

set_option maxRecDepth 100000
set_option maxHeartbeats 400000 in
theorem fieldsOf_some (zs : List Int) (b off n len cap : Nat) (w : World) (hz : zs.length = n) (hlen : n = min len 17) (hlc : len ≤ cap) (hcap : cap ≤ 9223372036854775807) (hb : b < w.heap.size) (hc : AtB w b off (zs.map (.int .u8)))
    (hw : ∀ z ∈ zs, 0 ≤ z ∧ z ≤ 255) :
    Calls Faeg.prog 11 #[.slice (some ⟨b, off, none⟩) len cap] w fun e w' => e = .returned (.slice (some ⟨w.heap.size, 0, none⟩) n n) ∧ Has w' (some ⟨w.heap.size, 0, none⟩) (fcells (zs.map mkF)) ∧ Below w.heap.size w w' := by
  obtain ⟨i34, hi, hz0, hz1, hz2⟩ := info_parts info34
  go_enter Faeg.func11, Faeg.ntmps11
  go_upto_region 1 with fail
  go_cut [0] (fun v wc => v = .slice (some ⟨b, off, none⟩) n cap ∧ w = wc)
  case first =>
    by_cases h17 : 17 < (len : Int)
    · go_wp2_with fail
      go_meet
      exact ⟨by rw [hlen, Nat.min_eq_right (by omega)], rfl⟩
    · go_wp2_with fail
      go_meet
      exact ⟨by rw [hlen, Nat.min_eq_left (by omega)], rfl⟩
  case rest =>
    obtain ⟨rfl, rfl⟩ := hcut
    have hn17 : n ≤ 17 := by omega
    clear hlen
    go_wp2_with (at_make; refine wpList_make_full _ rfl _ _ 23 rfl w.heap.size 34 i34 _ 11 Faeg.underlying23 hi hz0 hz1 .i64 .i64 _ _ n rfl rfl rfl rfl (by rw [hz2]; omega) (by unfold maxLen; omega) (Nat.le_refl _) ?_; intro w1 hown hgrow)
    rw [made_zero, ← built_zero zs n] at hown
    go_loopw [16] (fun i wr => ∃ k : Nat, k ≤ n ∧ i = .int .i64 k ∧ wr.ownsRow w.heap.size 34 11 (.slice (some ⟨w.heap.size, 0, none⟩) n n) n (fcells (built zs n k)) ∧ Below w.heap.size w wr) (fun i _ => n - (intOf i).toNat)
    case atStart => exact ⟨0, by omega, rfl, hown, (Below.refl _ _).grown hgrow (Nat.le_refl _) (by simp)⟩
    case round =>
      clear hown hgrow
      obtain ⟨k, hk, rfl, own, hbl⟩ := hrel
      by_cases hlt : k < n
      · have hcell := (hc.below hbl hb) k (.int .u8 zs[k]) (by simp [hz, hlt])
        have hzk := hw zs[k] (List.getElem_mem _)
        obtain ⟨z, hze⟩ : ∃ z, z = zs[k] := ⟨_, rfl⟩
        rw [← hze] at hcell hzk
        have p1 : wr.cell? ⟨w.heap.size, k * 11 + 1, none⟩ = some (.int .u8 0) := by
          rw [own.cellAt _ (by omega), built_cell zs n k 1 hz hlt (by omega)]; rfl
        have p2 : wr.cell? ⟨w.heap.size, k * 11 + 10, none⟩ = some (.bool false) := by
          rw [own.cellAt _ (by omega), built_cell zs n k 10 hz hlt (by omega)]; rfl
        have q1 : wr.frozen? ⟨w.heap.size, k * 11 + 1, none⟩ = false := own.frozenAt _
        have q2 : wr.frozen? ⟨w.heap.size, k * 11 + 10, none⟩ = false := own.frozenAt _
        have HZ : Hid (z = zs[k]) := hze
        clear hze
        go_wp2_with fail
        · have hu : bits BinOp.and IntKind.u8 z 128 = 0 := by assumption
          have S := built_step hz hlt own hbl HZ.out (u := kdB z == 14) (by simp [unB, hu])
          go_roundw
          case rel => exact ⟨k + 1, by omega, by go_num, S.1, S.2⟩
          case measure => simp [intOf]; omega
        · have hu : ¬ bits BinOp.and IntKind.u8 z 128 = 0 := by assumption
          have S := built_step hz hlt own hbl HZ.out (u := true) (by simp [unB, hu])
          go_roundw
          case rel => exact ⟨k + 1, by omega, by go_num, S.1, S.2⟩
          case measure => simp [intOf]; omega
      · have hkn : k = n := by omega
        subst hkn
        rw [built_all zs k hz] at own
        go_wp2
        go_ret
        refine ⟨rfl, ?_, hbl⟩
        obtain ⟨ao, cap', he, hh⟩ := Has.own own
        cases he
        exact hh

set_option maxHeartbeats 400000 in
theorem fieldsOf_nil (ao : Option Addr) (cap : Nat) (w : World) :
    Calls Faeg.prog 11 #[.slice ao 0 cap] w fun e w' => e = .returned (.slice (some ⟨w.heap.size, 0, none⟩) 0 0) ∧ Below w.heap.size w w' := by
  obtain ⟨i34, hi, hz0, hz1, hz2⟩ := info_parts info34
  go_enter Faeg.func11, Faeg.ntmps11
  go_wp2_with (at_make; refine wpList_make_full _ rfl _ _ 23 rfl w.heap.size 34 i34 _ 11 Faeg.underlying23 hi hz0 hz1 .i64 .i64 _ _ 0 rfl rfl rfl rfl (by omega) (by unfold maxLen; omega) (Nat.le_refl _) ?_; intro w1 hown hgrow)
  refine wp_loop_rounds 1 ?_
  rw [rounds_succ]
  go_wp2
  go_ret
  exact ⟨rfl, (Below.refl _ _).grown hgrow (Nat.le_refl _) (by simp)⟩
end Go.Proofs.Ygcfae
