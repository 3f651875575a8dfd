import Derived.Test.YgcfaePLawF
namespace Go.Proofs.Ygcfae
open Go.RowKit

/-! Whatever the parser gives passes Check. -/

theorem set_filter {acc : List Fld} {n : Nat} (hn : n < acc.length) {f : Fld} (h0 : acc[n].name.toList = []) (hf : f.name.toList ≠ []) :
    ((acc.set n f).filter fun g => g.name.toList != []).Perm (f :: acc.filter fun g => g.name.toList != []) := by
  have e1 : acc.set n f = acc.take n ++ f :: acc.drop (n + 1) := by rw [List.set_eq_take_append_cons_drop, if_pos hn]
  have e2 : acc = acc.take n ++ acc[n] :: acc.drop (n + 1) := by rw [List.getElem_cons_drop, List.take_append_drop]
  have e3 : (acc.filter fun g => g.name.toList != []) = ((acc.take n).filter fun g => g.name.toList != []) ++ ((acc.drop (n + 1)).filter fun g => g.name.toList != []) := by
    conv => lhs; rw [e2]
    rw [List.filter_append, List.filter_cons, if_neg (by simp [h0])]
  rw [e1, e3, List.filter_append, List.filter_cons, if_pos (by simpa using hf)]
  exact List.perm_middle

theorem sort_perm {len : Nat} : ∀ {fs : List Fld} {ns : List Nat} {acc out : List Fld}, sortP len fs ns acc = some out → acc.length = len → (∀ f ∈ fs, f.name.toList ≠ []) →
    (out.filter fun g => g.name.toList != []).Perm (fs ++ acc.filter fun g => g.name.toList != [])
  | [], _, _, _, h, _, _ => by cases h; exact List.Perm.refl _
  | _ :: _, [], _, _, h, _, _ => by cases h
  | f :: fs, m :: ns, acc, out, h, hl, hf => by
    simp only [sortP] at h
    split at h
    · cases h
    next hm =>
    split at h
    · cases h
    next hz =>
    have hz2 : (acc[m]'(by omega)).name.toList = [] := by
      rw [List.getD_eq_getElem?_getD, List.getElem?_eq_getElem (by omega)] at hz
      simpa using hz
    have ih := sort_perm h (by rw [List.length_set]; exact hl) (fun g hg => hf g (List.mem_cons_of_mem _ hg))
    refine ih.trans ?_
    refine (List.Perm.append_left fs (set_filter (by omega) hz2 (hf f (List.mem_cons_self ..)))).trans ?_
    rw [List.cons_append]
    exact List.perm_middle

theorem sort_len2 {n : Nat} : ∀ {fs : List Fld} {ns : List Nat} {acc out : List Fld}, sortP n fs ns acc = some out → out.length = acc.length
  | [], _, _, _, h => by cases h; rfl
  | _ :: _, [], _, _, h => by cases h
  | f :: fs, m :: ns, acc, out, h => by
    simp only [sortP] at h
    split at h
    · cases h
    · split at h
      · cases h
      · rw [sort_len2 h, List.length_set]

theorem sorted_perm {fs out : List Fld} {ns : List Nat} (h : sortP fs.length fs ns (List.replicate fs.length Fld.zero) = some out) (hf : ∀ f ∈ fs, f.name.toList ≠ []) : out.Perm fs := by
  have h1 := sort_perm h (by simp) hf
  have hz : (List.replicate fs.length Fld.zero).filter (fun g => g.name.toList != []) = [] := by
    rw [List.filter_eq_nil_iff]
    intro g hg
    rw [List.mem_replicate] at hg
    rw [hg.2, show Fld.zero.name.toList = [] from ByteArray.toList_mk _]
    decide
  rw [hz, List.append_nil] at h1
  have hl := sort_len2 h
  rw [List.length_replicate] at hl
  have h2 : (out.filter fun g => g.name.toList != []).length = out.length := by rw [h1.length_eq, hl]
  rw [List.length_filter_eq_length_iff] at h2
  rw [List.filter_eq_self.2 h2] at h1
  exact h1

/-- a struct as it has been read -/
structure SP (nu : Nat) (t : Str) : Prop where
  name : isNameB t.name.toList true = true
  free : builtInB t.name.toList = false
  lay : ∃ gs r, rLay gs = some r ∧ r.fs = t.fs ∧ r.tag = t.tag ∧ (r.data : Int) = t.data ∧ (r.ptrs : Int) = t.ptrs ∧ (∀ i (h : i < gs.length) (h' : i < t.fs.length), AlikeF gs[i] t.fs[i])
  rf : ∀ f ∈ t.fs, RF nu f
  names : (t.fs.map fun f => f.name.toList).Pairwise (· ≠ ·)

theorem SP.mono {nu nv : Nat} {t : Str} (h : SP nu t) (hn : nu ≤ nv) : SP nv t := ⟨h.name, h.free, h.lay, fun f hf => (h.rf f hf).mono hn, h.names⟩

theorem rLay_self {gs : List Fld} {r : RL} (h : rLay gs = some r) : ∀ i (h1 : i < gs.length) (h2 : i < r.fs.length), r.fs[i] = { gs[i] with p := (r.fs[i]).p } := by
  obtain ⟨q, hq, -, -, -, h4, h5⟩ := rLay_alike (fs := gs) (gs := gs) rfl (fun i _ _ => ⟨rfl, rfl⟩) h
  rw [h] at hq
  cases hq
  intro i h1 h2
  exact h5 i h1 h2 h2

theorem RF.lay {nu : Nat} {f g : Fld} (h : RF nu f) (hg : g = { f with p := g.p }) : RF nu g := by
  rw [hg]
  exact ⟨h.name, h.d0, h.d1, h.dflt, h.typ⟩

theorem strct_ok {r q : Rs} (h : strctP r = some q) : ∃ t vs, q.ss = r.ss ++ [t] ∧ q.us = r.us ++ vs ∧ SP q.us.length t ∧ r.ss.length < 4 ∧ r.ss.any (fun s => s.name.toList == t.name.toList) = false := by
  unfold strctP at h
  split at h
  · cases h
  split at h
  · cases h
  next name l2 hN =>
  split at h
  · cases h
  next h4 =>
  split at h
  · cases h
  next hdup =>
  split at h
  · cases h
  next l3 _ =>
  split at h
  · cases h
  next m hM =>
  split at h
  · cases h
  next o hO =>
  split at h
  · cases h
  next l4 _ =>
  cases h
  have hnm : isNameB name true = true := by
    unfold nameB at hN
    split at hN
    · next h1 => cases hN; exact h1
    · cases hN
  simp only [Bool.or_eq_true, not_or, Bool.not_eq_true] at hdup
  obtain ⟨hok, vs, hvs⟩ := members_ok hM ⟨fun f hf => by simp at hf, List.Pairwise.nil, rfl⟩
  unfold orderP at hO
  split at hO
  · cases hO
  next gs hS =>
  have hp := sorted_perm hS (fun f hf => (isName_word (hok.rf f hf).name).1)
  have hself := rLay_self hO
  have hlen := rLay_len hO
  refine ⟨_, vs, rfl, hvs, ⟨by rw [bsV_toList]; exact hnm, by rw [bsV_toList]; exact hdup.1, ⟨gs, o, hO, rfl, rfl, rfl, rfl, ?_⟩, ?_, ?_⟩, by omega, by rw [bsV_toList]; exact hdup.2⟩
  · intro i h1 h2
    simp only at h2 ⊢
    rw [hself i h1 h2]
    exact ⟨rfl, rfl⟩
  · intro f hf
    simp only at hf ⊢
    obtain ⟨i, hi, rfl⟩ := List.mem_iff_getElem.1 hf
    have hg := hok.rf (gs[i]'(by omega)) (hp.mem_iff.1 (List.getElem_mem _))
    refine hg.lay ?_
    exact hself i (by omega) hi
  · simp only
    have e : (o.fs.map fun f => f.name.toList) = gs.map fun f => f.name.toList := by
      apply List.ext_getElem
      · simp [hlen]
      · intro i h1 h2
        simp only [List.length_map] at h1 h2
        simp only [List.getElem_map]
        rw [hself i h2 h1]
    rw [e]
    exact (hp.map _).pairwise_iff (fun h => Ne.symm h) |>.2 hok.names

/-- what has been read of a text -/
structure RsOK (r : Rs) : Prop where
  sp : ∀ t ∈ r.ss, SP r.us.length t
  len : r.ss.length ≤ 4
  names : (r.ss.map fun t => t.name.toList).Pairwise (· ≠ ·)

theorem structs_ok : ∀ {n : Nat} {r q : Rs}, structsP n r = some q → RsOK r → RsOK q
  | 0, _, _, h, _ => by cases h
  | n + 1, r, q, h, hr => by
    rw [structsP_succ] at h
    split at h
    · cases h; exact hr
    · split at h
      · cases h
      next r1 hF =>
      obtain ⟨t, vs, h1, h2, h3, h4, h5⟩ := strct_ok hF
      refine structs_ok h ⟨?_, by rw [h1]; simp; omega, ?_⟩
      · intro s hs
        rw [h1, List.mem_append, List.mem_singleton] at hs
        rcases hs with hs | rfl
        · exact (hr.sp s hs).mono (by rw [h2]; simp)
        · exact h3
      · rw [h1]
        simp only [List.map_append, List.map_cons, List.map_nil]
        rw [List.pairwise_append]
        refine ⟨hr.names, List.pairwise_singleton _ _, ?_⟩
        intro a ha b hb e
        rw [List.mem_singleton] at hb
        subst hb
        obtain ⟨s, hs, he⟩ := List.mem_map.1 ha
        rw [List.any_eq_false] at h5
        exact h5 s hs (by simpa using he.trans e)

theorem mapM_len {α β : Type} {f : α → Option β} : ∀ {l : List α} {m : List β}, l.mapM f = some m → m.length = l.length
  | [], m, h => by cases h; rfl
  | x :: xs, m, h => by
    rw [List.mapM_cons] at h
    cases h1 : f x with
    | none => rw [h1] at h; cases h
    | some y =>
      cases h2 : xs.mapM f with
      | none => rw [h1, h2] at h; cases h
      | some ys => rw [h1, h2] at h; cases h; simp [mapM_len h2]
theorem mapM_mem {α β : Type} {f : α → Option β} : ∀ {l : List α} {m : List β}, l.mapM f = some m → ∀ y ∈ m, ∃ x ∈ l, f x = some y
  | [], m, h => by cases h; intro y hy; simp at hy
  | x :: xs, m, h => by
    rw [List.mapM_cons] at h
    cases h1 : f x with
    | none => rw [h1] at h; cases h
    | some y =>
      cases h2 : xs.mapM f with
      | none => rw [h1, h2] at h; cases h
      | some ys =>
        rw [h1, h2] at h
        cases h
        intro z hz
        rcases List.mem_cons.1 hz with rfl | hz
        · exact ⟨x, List.mem_cons_self .., h1⟩
        · obtain ⟨x', hx', he⟩ := mapM_mem h2 z hz
          exact ⟨x', List.mem_cons_of_mem _ hx', he⟩

theorem bindT_kind (rs : List Nat) (t : Typ) : (bindT rs t).kind = t.kind ∧ (bindT rs t).elem = t.elem ∧ (bindT rs t).nest = t.nest := by
  unfold bindT; split <;> exact ⟨rfl, rfl, rfl⟩

/-- a field behind bind -/
theorem bind_fok {ss : List Str} {rs : List Nat} (hlen : ss.length ≤ 4) (hrs : ∀ x ∈ rs, x < ss.length) {f : Fld} (h : RF rs.length f) : FOK ss (bindF rs f) := by
  have hk := bindT_kind rs f.t
  have href : (f.t.named = true → 0 ≤ (bindT rs f.t).ref ∧ (bindT rs f.t).ref < ss.length) ∧ (f.t.named = false → (bindT rs f.t).ref = 0) := by
    constructor
    · intro hn
      unfold bindT
      rw [if_pos hn]
      have hr : 0 ≤ f.t.ref ∧ f.t.ref < rs.length := by
        have := h.typ
        simp only [Typ.named, Bool.or_eq_true, Bool.and_eq_true, beq_iff_eq] at hn
        omega
      have hl : f.t.ref.toNat < rs.length := by omega
      have := hrs (rs[f.t.ref.toNat]) (List.getElem_mem _)
      simp only [List.getD_eq_getElem?_getD, List.getElem?_eq_getElem hl, Option.getD_some]
      omega
    · intro hn
      unfold bindT
      rw [if_neg (by rw [hn]; simp)]
      have := h.typ
      simp only [Typ.named, Bool.or_eq_false_iff, Bool.and_eq_false_iff, beq_eq_false_iff_ne] at hn
      omega
  have hnamed : f.t.named = true ↔ (f.t.kind = 13 ∨ f.t.kind = 12 ∧ f.t.elem = 13) := by
    simp [Typ.named]
  have hr2 : 0 ≤ (bindT rs f.t).ref ∧ (bindT rs f.t).ref ≤ 255 := by
    cases hb : f.t.named with
    | true => have := href.1 hb; omega
    | false => have := href.2 hb; omega
  have ht := h.typ
  refine ⟨⟨⟨?_, ?_, ?_, ?_, hr2.1, hr2.2, ?_, ?_⟩, h.d0, h.d1⟩, h.name, ?_, ?_⟩
  · show 0 ≤ (bindT rs f.t).kind; rw [hk.1]; omega
  · show (bindT rs f.t).kind ≤ 255; rw [hk.1]; omega
  · show 0 ≤ (bindT rs f.t).elem; rw [hk.2.1]; omega
  · show (bindT rs f.t).elem ≤ 255; rw [hk.2.1]; omega
  · show 0 ≤ (bindT rs f.t).nest; rw [hk.2.2]; omega
  · show (bindT rs f.t).nest ≤ 255; rw [hk.2.2]; omega
  · show soundB (bindT rs f.t) ss.length f.union = true
    unfold soundB
    rw [hk.1, hk.2.1, hk.2.2]
    by_cases h12 : f.t.kind = 12
    · rw [if_pos h12]
      by_cases h13 : f.t.elem = 13
      · have := href.1 (hnamed.2 (.inr ⟨h12, h13⟩))
        rw [if_pos (.inr ⟨h12, h13⟩)]
        simp only [Bool.and_eq_true, decide_eq_true_eq]
        omega
      · have := href.2 (by rw [← Bool.not_eq_true, hnamed]; omega)
        rw [if_neg (by omega)]
        simp only [Bool.and_eq_true, decide_eq_true_eq]
        omega
    · rw [if_neg h12]
      by_cases h13 : f.t.kind = 13
      · have := href.1 (hnamed.2 (.inl h13))
        rw [if_pos (.inl h13)]
        simp only [Bool.and_eq_true, Bool.or_eq_true, decide_eq_true_eq]
        omega
      · have := href.2 (by rw [← Bool.not_eq_true, hnamed]; omega)
        rw [if_neg (by omega)]
        simp only [Bool.and_eq_true, Bool.or_eq_true, decide_eq_true_eq]
        refine ⟨⟨⟨⟨by omega, ?_⟩, by omega⟩, by omega⟩, this⟩
        by_cases h14 : f.t.kind = 14
        · right
          rcases ht with ⟨-, -, h | h | h⟩ | h
          · omega
          · omega
          · exact h.2.2
          · omega
        · exact .inl h14
  · show dfltOK (bindF rs f) = true
    have := h.dflt
    unfold dfltOK at this ⊢
    rw [show (bindF rs f).t.kind = f.t.kind from hk.1]
    exact this

theorem bind_sok {ss : List Str} {rs : List Nat} (hlen : ss.length ≤ 4) (hrs : ∀ x ∈ rs, x < ss.length) {t : Str} (h : SP rs.length t) : SOK ss (bindS rs t) := by
  obtain ⟨gs, r, hr, h1, h2, h3, h4, h5⟩ := h.lay
  have hgl := rLay_len hr
  have hfl : (t.fs.map (bindF rs)).length = t.fs.length := List.length_map _
  have hm : ∀ i (hi : i < (t.fs.map (bindF rs)).length) (hi2 : i < t.fs.length), (t.fs.map (bindF rs))[i] = bindF rs t.fs[i] := fun i hi hi2 => List.getElem_map ..
  obtain ⟨q, hq, q1, q2, q3, q4, q5⟩ := rLay_alike (fs := gs) (gs := t.fs.map (bindF rs)) (by rw [hfl, ← h1, hgl]) (fun i hi hi' => by
    have := h5 i hi (by omega)
    rw [List.getElem_map]
    exact ⟨(bindT_kind rs _).1.trans this.1, this.2⟩) hr
  refine ⟨h.name, h.free, ⟨q, hq, q1.trans h2, by rw [q2]; exact h3, by rw [q3]; exact h4, ?_⟩, ?_, ?_⟩
  · apply List.ext_getElem
    · exact q4
    · intro i hi hi'
      show q.fs[i] = (t.fs.map (bindF rs))[i]
      have hi2 : i < t.fs.length := by rw [← hfl]; exact hi'
      rw [q5 i hi' hi (by rw [h1]; exact hi2)]
      have e : (r.fs[i]'(by rw [h1]; exact hi2)) = t.fs[i] := by simp only [h1]
      rw [e]
      exact (congrArg (fun x : Fld => ({ x with p := (t.fs[i]).p } : Fld)) (hm i hi' hi2)).trans (hm i hi' hi2).symm
  · intro f hf
    obtain ⟨g, hg, rfl⟩ := List.mem_map.1 hf
    exact bind_fok hlen hrs (h.rf g hg)
  · intro i j hi hj hne he
    have hi2 : i < t.fs.length := by rw [← hfl]; exact hi
    have hj2 : j < t.fs.length := by rw [← hfl]; exact hj
    rw [fAt_eq hi, fAt_eq hj] at he
    have e1 : ((bindS rs t).fs[i]).name = t.fs[i].name := (congrArg Fld.name (hm i (by rw [hfl]; exact hi2) hi2)).trans rfl
    have e2 : ((bindS rs t).fs[j]).name = t.fs[j].name := (congrArg Fld.name (hm j (by rw [hfl]; exact hj2) hj2)).trans rfl
    rw [e1, e2] at he
    rcases Nat.lt_or_ge i j with hlt | hge
    · exact (List.pairwise_iff_getElem.1 h.names i j (by simpa using hi2) (by simpa using hj2) hlt) (by simpa using he)
    · exact (List.pairwise_iff_getElem.1 h.names j i (by simpa using hj2) (by simpa using hi2) (by omega)) (by simpa using he.symm)

theorem parse_cok {text : Bs} {ss : List Str} (h : parseP text = some ss) : COK ss := by
  unfold parseP at h
  split at h
  · cases h
  split at h
  · cases h
  next r hS =>
  have hr := structs_ok hS ⟨fun t ht => by simp at ht, by simp, List.Pairwise.nil⟩
  unfold bindP at h
  split at h
  · cases h
  next rs hM =>
  cases h
  have hl := mapM_len hM
  have hrs : ∀ x ∈ rs, x < r.ss.length := by
    intro x hx
    obtain ⟨u, -, hu⟩ := mapM_mem hM x hx
    unfold refOf at hu
    rw [List.findIdx?_eq_some_iff_getElem] at hu
    exact hu.1
  have hlm : (r.ss.map (bindS rs)).length = r.ss.length := List.length_map _
  refine ⟨by rw [hlm]; exact hr.len, ?_, ?_⟩
  · intro t ht
    obtain ⟨s, hs, rfl⟩ := List.mem_map.1 ht
    exact bind_sok (by rw [hlm]; exact hr.len) (by rw [hlm]; exact hrs) (by rw [hl]; exact hr.sp s hs)
  · rw [List.map_map]
    exact hr.names

theorem parse_ok {text : Bs} {ss : List Str} (h : parseP text = some ss) : checkB ss = true ∧ ∀ t ∈ ss, ∀ f ∈ t.fs, FldOK f :=
  ⟨cok_check (parse_cok h), fun t ht f hf => (((parse_cok h).strs t ht).fok f hf).ok⟩
end Go.Proofs.Ygcfae
