import Derived.Test.YgcfaePar
import Derived.Test.YgcfaePPrint
namespace Go.Proofs.Ygcfae
open Go.RowKit

theorem Mod.calm {S : Nat → Prop} {w w1 w2 : World} (h : Mod S w w1) (hb : Below w1.heap.size w1 w2) : Mod S w w2 := h.trans (Below.mod hb)
theorem Par.calm {w w1 : World} {pb : Nat} {T : ByteArray} {l : Lx} {sv uv nv : Value} (h : Par w pb T l sv uv nv) (hb : Below w.heap.size w w1) : Par w1 pb T l sv uv nv := by
  obtain ⟨p, e, hl, ho⟩ := h
  exact ⟨p, e, hl, ho.below hb ho.lt⟩

set_option maxRecDepth 100000
set_option maxHeartbeats 400000 in
theorem expect_yes {w : World} {pb : Nat} {T : ByteArray} {l l1 : Lx} {sv uv nv : Value} (s : ByteArray) (h : Par w pb T l sv uv nv) (he : expectB s.toList l = some l1) :
    Calls Faeg.prog 72 #[.pointer (some ⟨pb, 0, none⟩), .string s] w fun r w' => r = .returned (.bool true) ∧ Par w' pb T l1 sv uv nv ∧ Mod (· = pb) w w' := by
  obtain ⟨p, e, hl, ho⟩ := h
  have hb := bsV_toList l.tok
  cases hq : (l.tok == s.toList) with
  | false => simp [expectB, hq] at he
  | true =>
    have h1 : l1 = nx l := by simp [expectB, hq] at he; exact he.symm
    subst h1
    clear he
    go_enter Faeg.func72, Faeg.ntmps72
    go_wp2_with (first | (go_at_call 53; refine (tok_any hl ho).mono ?_; rintro r w1 ⟨rfl, hb1⟩) | (go_at_call 52; refine (next_any (Par.calm ⟨p, e, hl, ho⟩ hb1)).mono ?_; rintro r w2 ⟨rfl, hp2, hm2⟩))
    go_ret
    exact ⟨rfl, hp2, (Below.mod hb1).trans hm2⟩

set_option maxHeartbeats 400000 in
theorem expect_no {w : World} {pb : Nat} {T : ByteArray} {l : Lx} {sv uv nv : Value} (s : ByteArray) (h : Par w pb T l sv uv nv) (he : expectB s.toList l = none) :
    Calls Faeg.prog 72 #[.pointer (some ⟨pb, 0, none⟩), .string s] w fun r w' => r = .returned (.bool false) ∧ Bad w' pb ∧ Mod (· = pb) w w' := by
  obtain ⟨p, e, hl, ho⟩ := h
  have hb := bsV_toList l.tok
  cases hq : (l.tok == s.toList) with
  | true => simp [expectB, hq] at he
  | false =>
    clear he
    go_enter Faeg.func72, Faeg.ntmps72
    go_wp2_with (first | (go_at_call 53; refine (tok_any hl ho).mono ?_; rintro r w1 ⟨rfl, hb1⟩) | (go_at_call 93; refine (fail_any 0 1 (ho.below hb1 ho.lt) (by decide) (by decide)).mono ?_; rintro r w2 ⟨rfl, hp2, hm2⟩))
    go_ret
    exact ⟨rfl, hp2, (Below.mod hb1).trans hm2⟩

set_option maxHeartbeats 400000 in
theorem name_yes {w : World} {pb : Nat} {T : ByteArray} {l : Lx} {sv uv nv : Value} (cap : Bool) (h : Par w pb T l sv uv nv) (he : isNameB l.tok cap = true) :
    Calls Faeg.prog 73 #[.pointer (some ⟨pb, 0, none⟩), .bool cap] w fun r w' => r = .returned (.tuple #[.string (bsV l.tok), .bool true]) ∧ Par w' pb T (nx l) sv uv nv ∧ Mod (· = pb) w w' := by
  obtain ⟨p, e, hl, ho⟩ := h
  have hb := bsV_toList l.tok
  have hsz := tl_len (bsV l.tok)
  rw [hb] at hsz
  have hq : (l.tok == []) = false := by
    have := (isName_word he).1
    simpa using this
  have h8 : (bsV l.tok).size ≤ 8 := by
    rw [← hsz]
    cases ht : l.tok with
    | nil => simp
    | cons c cs => rw [ht] at he; simp [isNameB] at he; simp; omega
  clear hsz
  go_enter Faeg.func73, Faeg.ntmps73
  go_wp2_with (first | (go_at_call 53; refine (tok_any hl ho).mono ?_; rintro r w1 ⟨rfl, hb1⟩) | (go_at_call 49; refine (isName_any _ _ _).mono ?_; rintro r w' ⟨rfl, hw⟩; rw [hw]; clear hw) | (go_at_call 52; refine (next_any (Par.calm ⟨p, e, hl, ho⟩ hb1)).mono ?_; rintro r w2 ⟨rfl, hp2, hm2⟩))
  go_ret2
  exact ⟨rfl, hp2, (Below.mod hb1).trans hm2⟩

theorem tok_as {w : World} {pb : Nat} {T : ByteArray} {l : Lx} {sv uv nv : Value} {s : ByteArray} (h : Par w pb T l sv uv nv) (hs : s.toList = l.tok) :
    Calls Faeg.prog 53 #[.pointer (some ⟨pb, 0, none⟩)] w fun r w' => r = .returned (.string s) ∧ Par w' pb T l sv uv nv ∧ Below w.heap.size w w' := by
  obtain ⟨p, e, hl, ho⟩ := h
  have e1 : bsV l.tok = s := toList_inj (by rw [bsV_toList, hs])
  have := tok_any hl ho
  rw [e1] at this
  exact this.mono fun r w' ⟨h1, h2⟩ => ⟨h1, ⟨p, e, hl, ho.below h2 ho.lt⟩, h2⟩

theorem fail_as {w : World} {pb : Nat} {T : ByteArray} {l : Lx} {sv uv nv : Value} (c : Int) (h : Par w pb T l sv uv nv) (hc1 : 1 ≤ c) (hc8 : c ≤ 8) :
    Calls Faeg.prog 93 #[.pointer (some ⟨pb, 0, none⟩), .int .u8 c] w fun r w' => r = .returned (.bool false) ∧ Bad w' pb ∧ Mod (· = pb) w w' := by
  obtain ⟨p, e, hl, ho⟩ := h
  exact fail_any 0 c ho hc1 hc8

theorem failAt_as {w : World} {pb : Nat} {T : ByteArray} {l : Lx} {sv uv nv : Value} (at_ c : Int) (h : Par w pb T l sv uv nv) (hc1 : 1 ≤ c) (hc8 : c ≤ 8) :
    Calls Faeg.prog 74 #[.pointer (some ⟨pb, 0, none⟩), .int .i64 at_, .int .u8 c] w fun r w' => r = .returned (.bool false) ∧ Bad w' pb ∧ Mod (· = pb) w w' := by
  obtain ⟨p, e, hl, ho⟩ := h
  exact failAt_any 0 at_ c ho hc1 hc8

theorem name_no {w : World} {pb : Nat} {T : ByteArray} {l : Lx} {sv uv nv : Value} (cap : Bool) (h : Par w pb T l sv uv nv) (he : isNameB l.tok cap = false) :
    Calls Faeg.prog 73 #[.pointer (some ⟨pb, 0, none⟩), .bool cap] w fun r w' => r = .returned (.tuple #[.string ByteArray.empty, .bool false]) ∧ Bad w' pb ∧ Mod (· = pb) w w' := by
  obtain ⟨s, hs⟩ : ∃ s : ByteArray, s.toList = l.tok := ⟨bsV l.tok, bsV_toList _⟩
  rw [← hs] at he
  have HS : Hid _ := hs
  have HP : Hid _ := h
  clear hs h
  have htok := tok_as HP.out HS.out
  have HT : Hid _ := htok
  clear htok HS HP
  cases hq : s.toList.isEmpty with
  | true =>
    go_enter Faeg.func73, Faeg.ntmps73
    go_wp2_with (first | (go_at_call 53; refine Calls.mono (Hid.out HT) ?_; rintro r w1 ⟨rfl, hp1, hb1⟩) | (go_at_call 49; refine (isName_any _ _ _).mono ?_; rintro r w' ⟨rfl, hw⟩; rw [hw]; clear hw) | (go_at_call 93; refine (fail_as _ hp1 (by decide) (by decide)).mono ?_; rintro r w2 ⟨rfl, hp2, hm2⟩))
    go_ret2
    exact ⟨rfl, hp2, (Below.mod hb1).trans hm2⟩
  | false =>
    go_enter Faeg.func73, Faeg.ntmps73
    go_wp2_with (first | (go_at_call 53; refine Calls.mono (Hid.out HT) ?_; rintro r w1 ⟨rfl, hp1, hb1⟩) | (go_at_call 49; refine (isName_any _ _ _).mono ?_; rintro r w' ⟨rfl, hw⟩; rw [hw]; clear hw) | (go_at_call 93; refine (fail_as _ hp1 (by decide) (by decide)).mono ?_; rintro r w2 ⟨rfl, hp2, hm2⟩))
    all_goals
      go_ret2
      exact ⟨rfl, hp2, (Below.mod hb1).trans hm2⟩
end Go.Proofs.Ygcfae
