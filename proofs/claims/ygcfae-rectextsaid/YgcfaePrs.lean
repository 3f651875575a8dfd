import Derived.Test.YgcfaeBnd
namespace Go.Proofs.Ygcfae
open Go.RowKit

theorem members_us : ∀ {n : Nat} {r q : Rd}, membersP n r = some q → r.fs.length ≤ 16 → q.fs.length ≤ 16 ∧ q.us.length + r.fs.length ≤ r.us.length + q.fs.length
  | 0, _, _, h, _ => by cases h
  | n + 1, r, q, h, h16 => by
    rw [membersP_succ] at h
    split at h
    · cases h; omega
    · split at h
      · cases h
      next r1 hF =>
      have : r1.fs.length ≤ 16 ∧ r1.us.length + r.fs.length ≤ r.us.length + r1.fs.length := by
        split at hF
        · have := unionP_len hF; omega
        · have := fieldP_len hF; omega
      have h2 := members_us h this.1
      omega
theorem strct_us {r q : Rs} (h : strctP r = some q) : q.us.length ≤ r.us.length + 16 := by
  unfold strctP at h
  split at h
  · cases h
  split at h
  · cases h
  split at h
  · cases h
  split at h
  · cases h
  split at h
  · cases h
  split at h
  · cases h
  next hM =>
  have := members_us hM (by simp)
  split at h
  · cases h
  split at h
  · cases h
  · cases h
    simp at this ⊢
    omega

/-- a schema lies at b, o -/
def SchAt (w : World) (b o : Nat) (ss : List Str) : Prop :=
  ∃ sa cap, w.cell? ⟨b, o, none⟩ = some (.slice sa ss.length cap) ∧ b < w.heap.size ∧ (ss = [] ∨ ∃ gb go, sa = some ⟨gb, go, none⟩ ∧ ∀ i (hi : i < ss.length), StrAt w gb (go + i * 8) ss[i])

theorem PM.sch {n0 pb : Nat} {T : ByteArray} {ps : List (Str × Value)} {us : List (Int × ByteArray)} {l : Lx} {sv uv nv : Value} {w : World} (h : PM n0 pb T ps us l sv uv nv w) : SchAt w pb 3 (ps.map Prod.fst) := by
  obtain ⟨p, e, hl, ho⟩ := h.par
  obtain ⟨-, -, -, c3, -, -, -, -⟩ := pcs8 ho
  obtain ⟨sa, sc, rfl, -⟩ := Has.own h.row
  refine ⟨sa, sc, by rw [c3, List.length_map], ho.lt, ?_⟩
  by_cases hz : ps = []
  · left; rw [hz]; rfl
  · right
    have hpos : 0 < ps.length := List.length_pos_iff.2 hz
    obtain ⟨m', hm'⟩ : ∃ m', ps.length = m' + 1 := ⟨ps.length - 1, by omega⟩
    have hr := h.row
    obtain ⟨g, hg⟩ : ∃ g, sa = some ⟨g, 0, none⟩ := by
      rw [hm'] at hr
      obtain ⟨g, c, h1⟩ := ownsRow_succ hr
      cases h1
      exact ⟨_, rfl⟩
    subst hg
    refine ⟨g, 0, rfl, ?_⟩
    intro i hi
    have hi' : i < ps.length := by simpa using hi
    have h1 := row_str h.row hi'
    have h2 := h.flds ps[i] (List.getElem_mem _)
    obtain ⟨a, c, h3, h4⟩ := Has.own h2
    rw [h3] at h1
    rw [List.getElem_map, Nat.zero_add]
    exact ⟨a, c, (h.row.lt g rfl).2, h1, h4⟩

/-- what Parse leaves -/
def QPost (o : Option (List Str)) (w : World) (b : Nat) (w' : World) (v : Value) (c : Int) : Prop :=
  Below w.heap.size w w' ∧ match o with
    | none => v = .pointer none ∧ 1 ≤ c ∧ c ≤ 8
    | some ss => v = .pointer (some ⟨b, 3, none⟩) ∧ c = 0 ∧ SchAt w' b 3 ss

theorem SP.short {nu : Nat} {t : Str} (h : SP nu t) : t.fs.length ≤ 16 := by
  obtain ⟨gs, r, hr, h1, -⟩ := h.lay
  have := rLay_len hr
  have := rLay_short hr
  rw [← h1]; omega

theorem SP.refs {nu : Nat} {t : Str} (h : SP nu t) : ∀ f ∈ t.fs, f.t.named = true → 0 ≤ f.t.ref ∧ f.t.ref < nu := by
  intro f hf hn
  have := (h.rf f hf).typ
  simp only [Typ.named, Bool.or_eq_true, Bool.and_eq_true, beq_iff_eq] at hn
  omega

set_option maxRecDepth 100000
set_option maxHeartbeats 20000000 in
theorem parseAt_any (s : ByteArray) (w : World) :
    Calls Faeg.prog 35 #[.string s] w fun r w' => ∃ v wh c, r = .returned (.tuple #[v, .int .i64 wh, .int .u8 c]) ∧ QPost (parseP s.toList) w w.heap.size w' v c := by
  have hsl := tl_len s
  by_cases h4 : 4096 < s.size
  · have hF : Hid (parseP s.toList = none) := by rw [Hid]; unfold parseP; rw [if_pos (by omega)]
    go_enter Faeg.func35, Faeg.ntmps35
    go_wp2_with fail
    refine bodyPost_ret (v := .tuple #[.pointer none, .int .i64 0, .int .u8 2]) (by simp [results, Faeg.results35, go_sem]) rfl ?_
    rw [hF.out]
    exact ⟨_, _, _, rfl, Below.refl _ _, rfl, by decide, by decide⟩
  · have hF : Hid (parseP s.toList = match structsP 6 ⟨[], [], lex s.toList⟩ with
        | none => none
        | some r => bindP r.ss r.us) := by rw [Hid]; unfold parseP; rw [if_neg (by omega)]; rfl
    obtain ⟨o, ho⟩ : ∃ o : Obj, o = .cells #[.string s, .int .i64 0, .int .i64 0, .slice none 0 0, .slice none 0 0, .slice none 0 0, .int .u8 0, .int .i64 0] 143 := ⟨_, rfl⟩
    have hown : Own (w.alloc o) w.heap.size 143 (pcs s 0 0 (.slice none 0 0) (.slice none 0 0) (.slice none 0 0) 0 0) := by rw [ho]; exact Own.new _ _ _
    have hP0 : Par (w.alloc o) w.heap.size s ⟨[], s.toList⟩ (.slice none 0 0) (.slice none 0 0) (.slice none 0 0) := ⟨0, 0, ⟨Nat.le_refl _, Nat.zero_le _, by omega, by simp, by simp⟩, hown⟩
    rw [ho] at hP0 hown
    clear ho
    go_enter Faeg.func35, Faeg.ntmps35
    go_upto_region 4 with fail
    have hb0 : Below w.heap.size w (w.alloc (.cells #[.string s, .int .i64 0, .int .i64 0, .slice none 0 0, .slice none 0 0, .slice none 0 0, .int .u8 0, .int .i64 0] 143)) := (Below.refl _ _).alloc (Nat.le_refl _) _
    go_wp2_with (go_at_call 52; refine (next_any hP0).mono ?_; rintro r w1 ⟨rfl, hp1, hm1⟩)
    have hb1 : Below w.heap.size w w1 := hb0.trans (hm1.below (by simp) (fun k hk => by omega))
    go_loopw [4] (fun _ wl => ∃ (k : Nat) (q : Rs) (ps : List (Str × Value)) (us : List (Int × ByteArray)) (sv uv nv : Value), PM w.heap.size w.heap.size s ps us q.l sv uv nv wl ∧ ps.map Prod.fst = q.ss ∧ unames us = q.us ∧ Below w.heap.size w wl ∧ us.length ≤ 16 * ps.length ∧
      RsOK q ∧ 6 ≤ k + ps.length ∧ Hid (structsP 6 ⟨[], [], lex s.toList⟩ = structsP k q)) (fun _ wl => 5 - sliceLen (wl.cell? ⟨w.heap.size, 3, none⟩))
    case atStart =>
      exact ⟨6, ⟨[], [], lex s.toList⟩, [], [], _, _, _, ⟨hp1, World.ownsRow_nil _ _ _ _, World.ownsRow_nil _ _ _ _, by intro p hp; simp at hp, List.Pairwise.nil⟩, rfl, rfl, hb1, by simp, ⟨fun t ht => by simp at ht, by simp, List.Pairwise.nil⟩, by simp, rfl⟩
    case round =>
      clear hb1 hp1 hm1 hb0 hP0 hown
      obtain ⟨k, q, ps, us, sv, uv, nv, h1, hss, hus, hb, hul, hok, hk, hG⟩ := hrel
      have hp4 : ps.length ≤ 4 := by have := hok.len; rw [← hss] at this; simpa using this
      obtain ⟨k', rfl⟩ : ∃ k', k = k' + 1 := ⟨k - 1, by omega⟩
      obtain ⟨s2, hs2⟩ : ∃ s2 : ByteArray, s2.toList = q.l.tok := ⟨bsV q.l.tok, bsV_toList _⟩
      have HS2 : Hid _ := hs2
      clear hs2
      have hsz := hb.size
      cases hq : s2.toList.isEmpty with
      | true =>
        have hq2 : (s2.toList == []) = true := by simpa using hq
        have hF2 : Hid (parseP s.toList = bindP (ps.map Prod.fst) (unames us)) := by
          rw [Hid, hF.out, hG.out, structsP_succ, ← HS2.out, if_pos hq2, hss, hus]
        clear hq2
        have hnm : NamesP ps := by unfold NamesP; rw [hss]; exact hok.names
        have hrf : ∀ p ∈ ps, ∀ f ∈ p.1.fs, f.t.named = true → 0 ≤ f.t.ref ∧ f.t.ref < us.length := by
          intro p hp
          have h2 := hok.sp p.1 (by rw [← hss]; exact List.mem_map.2 ⟨p, hp, rfl⟩)
          have h3 : q.us.length = us.length := by rw [← hus]; simp [unames]
          rw [h3] at h2
          exact h2.refs
        have hf16 : ∀ p ∈ ps, p.1.fs.length ≤ 16 := fun p hp => (hok.sp p.1 (by rw [← hss]; exact List.mem_map.2 ⟨p, hp, rfl⟩)).short
        have HNM : Hid _ := hnm
        have HRF : Hid _ := hrf
        have HF6 : Hid _ := hf16
        clear hnm hrf hf16
        cases hbd : bindP (ps.map Prod.fst) (unames us) with
        | none =>
          rw [hbd] at hF2
          go_upto_region 9 with (first | (go_at_call 53; refine (tok_as h1.par HS2.out).mono ?_; rintro r w6 ⟨rfl, hp6, hb6⟩; have h6 := h1.calm hb6; have hb7 := hb.trans (hb6.mono hsz)) | (go_at_call 55; refine (bind_any h6 hb7.size (Nat.le_refl _) hp4 (by omega) HNM.out HRF.out HF6.out).mono ?_; rw [hbd]; rintro r w8 ⟨hb8, rfl, hB8⟩))
          obtain ⟨T', p', e', sv', uv', nv', c', wh', hc1, hc8, ho'⟩ := hB8
          obtain ⟨-, -, -, -, -, -, y6, y7⟩ := pcs8 ho'
          have hlt8 := ho'.lt
          go_quiet (fail)
          go_wp2_with fail
          refine bodyPost_ret (v := .tuple #[.pointer none, .int .i64 wh', .int .u8 c']) (by simp [results, Faeg.results35, go_sem]) rfl ?_
          rw [hF2.out]
          exact ⟨_, _, _, rfl, below_drewN (hb7.trans hb8) _, rfl, hc1, hc8⟩
        | some ss =>
          rw [hbd] at hF2
          go_wp2_with (first | (go_at_call 53; refine (tok_as h1.par HS2.out).mono ?_; rintro r w6 ⟨rfl, hp6, hb6⟩; have h6 := h1.calm hb6; have hb7 := hb.trans (hb6.mono hsz)) | (go_at_call 55; refine (bind_any h6 hb7.size (Nat.le_refl _) hp4 (by omega) HNM.out HRF.out HF6.out).mono ?_; rw [hbd]; rintro r w8 ⟨hb8, rfl, ps8, h8, hss8⟩))
          refine bodyPost_ret (v := .tuple #[.pointer (some ⟨w.heap.size, 3, none⟩), .int .i64 0, .int .u8 0]) (by simp [results, Faeg.results35, go_sem]) rfl ?_
          rw [hF2.out]
          exact ⟨_, _, _, rfl, hb7.trans hb8, rfl, rfl, by rw [← hss8]; exact h8.sch⟩
      | false =>
        have hq2 : ¬ (s2.toList == []) = true := by simpa using hq
        cases hE : strctP q with
        | none =>
          have hF2 : Hid (parseP s.toList = none) := by rw [Hid, hF.out, hG.out, structsP_succ, ← HS2.out, if_neg hq2, hE]
          clear hq2
          go_upto_region 7 with (first | (go_at_call 53; refine (tok_as h1.par HS2.out).mono ?_; rintro r w6 ⟨rfl, hp6, hb6⟩; have h6 := h1.calm hb6; have hb7 := hb.trans (hb6.mono hsz)) | (go_at_call 54; refine (strct_any h6 hb7.size hp4 (by omega)).mono ?_; rw [hss, hus, show (⟨q.ss, q.us, q.l⟩ : Rs) = q from rfl, hE]; rintro r w8 ⟨hm8, rfl, hB8⟩))
          have hb8 : Below w.heap.size w w8 := hb7.trans (hm8.below (Nat.le_refl _) (by have := hb7.size; omega) hb7.size)
          obtain ⟨T', p', e', sv', uv', nv', c', wh', hc1, hc8, ho'⟩ := hB8
          obtain ⟨-, -, -, -, -, -, y6, y7⟩ := pcs8 ho'
          have hlt8 := ho'.lt
          go_quiet (fail)
          go_wp2_with fail
          refine bodyPost_ret (v := .tuple #[.pointer none, .int .i64 wh', .int .u8 c']) (by simp [results, Faeg.results35, go_sem]) rfl ?_
          rw [hF2.out]
          exact ⟨_, _, _, rfl, below_drewN hb8 _, rfl, hc1, hc8⟩
        | some q1 =>
          have hG2 : Hid (structsP 6 ⟨[], [], lex s.toList⟩ = structsP k' q1) := by rw [Hid, hG.out, structsP_succ, ← HS2.out, if_neg hq2, hE]
          clear hq2
          have hu2 := strct_us hE
          have hok1 : RsOK q1 := by
            have := structs_ok (n := 1 + 1) (r := q) (q := q1)
            obtain ⟨t, vs, g1, g2, g3, g4, g5⟩ := strct_ok hE
            refine ⟨?_, by rw [g1]; simp; omega, ?_⟩
            · intro x hx
              rw [g1, List.mem_append, List.mem_singleton] at hx
              rcases hx with hx | rfl
              · exact (hok.sp x hx).mono (by rw [g2]; simp)
              · exact g3
            · rw [g1]
              simp only [List.map_append, List.map_cons, List.map_nil]
              rw [List.pairwise_append]
              refine ⟨hok.names, List.pairwise_singleton _ _, ?_⟩
              intro a ha b hb e
              rw [List.mem_singleton] at hb
              subst hb
              obtain ⟨x, hx, he⟩ := List.mem_map.1 ha
              rw [List.any_eq_false] at g5
              exact g5 x hx (by simpa using he.trans e)
          have hsl1 : q1.ss.length = q.ss.length + 1 := by
            obtain ⟨t, vs, g1, -⟩ := strct_ok hE
            rw [g1]; simp
          obtain ⟨p1, e1, hl1, ho1⟩ := id h1.par
          have c3 := (pcs8 ho1).2.2.2.1
          obtain ⟨sa, sc, rfl, -⟩ := Has.own h1.row
          have hpq : ps.length = q.ss.length := by rw [← hss]; simp
          have huq : us.length = q.us.length := by rw [← hus]; simp [unames]
          go_wp2_with (first | (go_at_call 53; refine (tok_as h1.par HS2.out).mono ?_; rintro r w6 ⟨rfl, hp6, hb6⟩; have h6 := h1.calm hb6; have hb7 := hb.trans (hb6.mono hsz)) | (go_at_call 54; refine (strct_any h6 hb7.size hp4 (by omega)).mono ?_; rw [hss, hus, show (⟨q.ss, q.us, q.l⟩ : Rs) = q from rfl, hE]; rintro r w8 ⟨hm8, rfl, ps8, us8, sv8, uv8, nv8, h8, hss8, hus8⟩))
          have hb8 : Below w.heap.size w w8 := hb7.trans (hm8.below (Nat.le_refl _) (by have := hb7.size; omega) hb7.size)
          have hp8 : ps8.length = q1.ss.length := by rw [← hss8]; simp
          have hu8 : us8.length = q1.us.length := by rw [← hus8]; simp [unames]
          go_roundw
          case rel => exact ⟨k', q1, ps8, us8, sv8, uv8, nv8, h8, hss8, hus8, hb8, by omega, hok1, by omega, hG2⟩
          case measure =>
            obtain ⟨sa8, sc8, rfl, -⟩ := Has.own h8.row
            obtain ⟨p8, e8, hl8, ho8⟩ := id h8.par
            rw [(pcs8 ho8).2.2.2.1, c3]
            simp only [sliceLen]
            omega

set_option maxHeartbeats 400000 in
theorem parse_any (s : ByteArray) (w : World) :
    Calls Faeg.prog 17 #[.string s] w fun r w' => ∃ v c, r = .returned (.tuple #[v, .int .u8 c]) ∧ QPost (parseP s.toList) w w.heap.size w' v c := by
  go_enter Faeg.func17, Faeg.ntmps17
  go_wp2_with (go_at_call 35; refine (parseAt_any s w).mono ?_; rintro r w1 ⟨v, wh, c, rfl, hQ⟩)
  go_ret2
  exact ⟨_, _, rfl, hQ⟩
end Go.Proofs.Ygcfae
