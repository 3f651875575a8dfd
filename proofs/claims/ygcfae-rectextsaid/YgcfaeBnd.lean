import Derived.Test.YgcfaeStc
import Derived.BigQuiet
import Derived.Test.YgcfaePLawG
import Derived.Deep.QuietTactic
namespace Go.Proofs.Ygcfae
open Go.RowKit

def rcells (rs : List Nat) : List Value := rs.map fun (n : Nat) => .int .u8 n
theorem rcells_snoc (rs : List Nat) (n : Nat) : rcells (rs ++ [n]) = rcells rs ++ [.int .u8 n] := by simp [rcells]
theorem info5 : (Faeg.prog.info? 5).map (fun i => (i.zero, i.size, i.bytes)) = some (some (.int .u8 0), 1, 1) := by kernel_rfl
theorem under22 : Faeg.prog.underlying 22 = some (.slice 5) := by kernel_rfl

def NamesP (ps : List (Str × Value)) : Prop := ((ps.map Prod.fst).map fun t => t.name.toList).Pairwise (· ≠ ·)

theorem refOf_hit {ss : List Str} {j : Nat} (hj : j < ss.length) {u : Bs} (hpw : (ss.map fun t => t.name.toList).Pairwise (· ≠ ·)) (h : ss[j].name.toList = u) : refOf (ss.take j) u = none ∧ refOf (ss.take (j + 1)) u = some j := by
  have h1 : refOf (ss.take j) u = none := by
    unfold refOf
    rw [List.findIdx?_eq_none_iff]
    intro t ht
    obtain ⟨i, hi, rfl⟩ := List.mem_take_iff_getElem.1 ht
    have := List.pairwise_iff_getElem.1 hpw i j (by simp; omega) (by simpa using hj) (by omega)
    simp only [List.getElem_map] at this
    rw [h] at this
    simpa using this
  refine ⟨h1, ?_⟩
  unfold refOf at h1 ⊢
  rw [List.take_succ_eq_append_getElem hj, List.findIdx?_append, h1]
  simp [h]
  omega
theorem refOf_miss {ss : List Str} {j : Nat} (hj : j < ss.length) {u : Bs} (h : ss[j].name.toList ≠ u) : refOf (ss.take (j + 1)) u = refOf (ss.take j) u := by
  unfold refOf
  rw [List.take_succ_eq_append_getElem hj, List.findIdx?_append]
  cases (ss.take j).findIdx? fun t => t.name.toList == u with
  | none => simp [h]
  | some i => simp

theorem mapM_snoc {α β : Type} {f : α → Option β} : ∀ {l : List α} {m : List β} {x : α} {y : β}, l.mapM f = some m → f x = some y → (l ++ [x]).mapM f = some (m ++ [y])
  | [], m, x, y, h, hx => by cases h; simp [hx]
  | a :: l, m, x, y, h, hx => by
    rw [List.mapM_cons] at h
    cases h1 : f a with
    | none => rw [h1] at h; cases h
    | some b =>
      cases h2 : l.mapM f with
      | none => rw [h1, h2] at h; cases h
      | some bs =>
        rw [h1, h2] at h
        cases h
        rw [List.cons_append, List.mapM_cons, h1, mapM_snoc h2 hx]
        rfl
theorem mapM_none {α β : Type} {f : α → Option β} : ∀ {l : List α} {x : α}, x ∈ l → f x = none → l.mapM f = none
  | [], _, h, _ => by simp at h
  | a :: l, x, h, hx => by
    rw [List.mapM_cons]
    rcases List.mem_cons.1 h with rfl | h
    · rw [hx]; rfl
    · cases f a with
      | none => rfl
      | some b => rw [mapM_none h hx]; rfl

/-- use j of a row -/
theorem use_at {w : World} {n0 g n cap : Nat} {us : List (Int × ByteArray)} (h : w.ownsRow n0 168 2 (.slice (some ⟨g, 0, none⟩) n cap) n (ucells us)) {j : Nat} (hj : j < us.length) :
    w.cell? ⟨g, j * 2, none⟩ = some (.int .i64 us[j].1) ∧ w.cell? ⟨g, j * 2 + 1, none⟩ = some (.string us[j].2) := by
  have c0 := h.cells rfl (j * 2 + 0) (.int .i64 us[j].1) (by rw [ucells, flat_get (fun u : Int × ByteArray => [.int .i64 u.1, .string u.2]) 2 (fun _ => rfl) us j 0 hj (by omega)]; rfl)
  have c1 := h.cells rfl (j * 2 + 1) (.string us[j].2) (by rw [ucells, flat_get (fun u : Int × ByteArray => [.int .i64 u.1, .string u.2]) 2 (fun _ => rfl) us j 1 hj (by omega)]; rfl)
  simp only [Addr.add_lit, Nat.zero_add, Nat.add_zero] at c0 c1
  exact ⟨c0, c1⟩

/-- one reference stored -/
theorem PM.setF {n0 pb : Nat} {T : ByteArray} {L R : List (Str × Value)} {us : List (Int × ByteArray)} {l : Lx} {sv uv nv : Value} {w : World} {t : Str} {g n cap : Nat} (h : PM n0 pb T (L ++ (t, .slice (some ⟨g, 0, none⟩) n cap) :: R) us l sv uv nv w)
    {i : Nat} (hi : i < t.fs.length) (hn : n = t.fs.length) (r : Int) :
    PM n0 pb T (L ++ ({ t with fs := t.fs.set i { t.fs[i] with t := { t.fs[i].t with ref := r } } }, .slice (some ⟨g, 0, none⟩) n cap) :: R) us l sv uv nv (w.setCell ⟨g, i * 11 + 3, none⟩ (.int .u8 r)) := by
  subst hn
  have hrow : w.ownsRow n0 34 11 (.slice (some ⟨g, 0, none⟩) t.fs.length cap) t.fs.length (fcells t.fs) := h.flds (t, _) (by simp)
  have hap := h.apart
  rw [ApartP, List.pairwise_append, List.pairwise_cons] at hap
  obtain ⟨p, e, hl, ho⟩ := id h.par
  have hpg : pb ≠ g := fun e1 => row_ne hrow ho (by decide) (e1 ▸ rfl)
  refine ⟨h.par.other (a := ⟨g, i * 11 + 3, none⟩) hpg _, ownsRow_setCell_other (a := ⟨g, i * 11 + 3, none⟩) h.us (fun e1 => row_row h.us hrow (by decide) e1 rfl) _, ?_, ?_, ?_⟩
  · have e1 : scellsL (L ++ ({ t with fs := t.fs.set i { t.fs[i] with t := { t.fs[i].t with ref := r } } }, Value.slice (some ⟨g, 0, none⟩) t.fs.length cap) :: R) = scellsL (L ++ (t, Value.slice (some ⟨g, 0, none⟩) t.fs.length cap) :: R) := by
      simp [scellsL, Str.cells]
    have e2 : (L ++ ({ t with fs := t.fs.set i { t.fs[i] with t := { t.fs[i].t with ref := r } } }, Value.slice (some ⟨g, 0, none⟩) t.fs.length cap) :: R).length = (L ++ (t, Value.slice (some ⟨g, 0, none⟩) t.fs.length cap) :: R).length := by simp
    rw [e1, e2]
    exact ownsRow_setCell_other (a := ⟨g, i * 11 + 3, none⟩) h.row (fun e1 => row_row h.row hrow (by decide) e1 rfl) _
  · intro q hq
    rw [List.mem_append, List.mem_cons] at hq
    rcases hq with hq | rfl | hq
    · exact ownsRow_setCell_other (a := ⟨g, i * 11 + 3, none⟩) (h.flds q (by simp [hq])) (fun e1 => hap.2.2 q hq _ (List.mem_cons_self ..) g e1 rfl) _
    · have h1 := (hrow.stored (i * 11 + 3) (.int .u8 r)).1
      have h2 := flat_set Fld.cells 11 (fun _ => rfl) t.fs i 3 hi { t.fs[i] with t := { t.fs[i].t with ref := r } } (.int .u8 r) (by omega) rfl
      simp only [List.length_set]
      unfold fcells at h1 ⊢
      rw [← h2]
      exact h1
    · exact ownsRow_setCell_other (a := ⟨g, i * 11 + 3, none⟩) (h.flds q (by simp [hq])) (fun e1 => hap.2.1.1 q hq g rfl e1) _
  · rw [ApartP, List.pairwise_append, List.pairwise_cons]
    exact ⟨hap.1, ⟨hap.2.1.1, hap.2.1.2⟩, fun a ha b hb => by
      rcases List.mem_cons.1 hb with rfl | hb
      · exact hap.2.2 a ha (t, .slice (some ⟨g, 0, none⟩) t.fs.length cap) (List.mem_cons_self ..)
      · exact hap.2.2 a ha b (List.mem_cons_of_mem _ hb)⟩

/-- the structs, the first k of them bound -/
def bndP (rs : List Nat) (ps : List (Str × Value)) (k : Nat) : List (Str × Value) := (ps.take k).map (fun p => (bindS rs p.1, p.2)) ++ ps.drop k
def bndF (rs : List Nat) (fs : List Fld) (i : Nat) : List Fld := (fs.take i).map (bindF rs) ++ fs.drop i

theorem bndP_at {rs : List Nat} {ps : List (Str × Value)} {k : Nat} (h : k < ps.length) : bndP rs ps k = (ps.take k).map (fun p => (bindS rs p.1, p.2)) ++ ps[k] :: ps.drop (k + 1) := by
  unfold bndP; rw [List.drop_eq_getElem_cons h]
theorem bndP_succ {rs : List Nat} {ps : List (Str × Value)} {k : Nat} (h : k < ps.length) : bndP rs ps (k + 1) = (ps.take k).map (fun p => (bindS rs p.1, p.2)) ++ (bindS rs ps[k].1, ps[k].2) :: ps.drop (k + 1) := by
  unfold bndP; rw [List.take_succ_eq_append_getElem h, List.map_append]; simp
theorem bndF_len (rs : List Nat) (fs : List Fld) (i : Nat) : (bndF rs fs i).length = fs.length := by simp [bndF]; omega
theorem bndF_get {rs : List Nat} {fs : List Fld} {i : Nat} (h : i < fs.length) : (bndF rs fs i)[i]'(by rw [bndF_len]; exact h) = fs[i] := by
  unfold bndF
  rw [List.getElem_append_right (by simp; omega)]
  simp [show min i fs.length = i by omega]
theorem bndF_set {rs : List Nat} {fs : List Fld} {i : Nat} (h : i < fs.length) : (bndF rs fs i).set i (bindF rs fs[i]) = bndF rs fs (i + 1) := by
  unfold bndF
  rw [List.set_append_right _ _ (by simp; omega)]
  have e1 : i - ((fs.take i).map (bindF rs)).length = 0 := by simp; omega
  rw [e1, List.drop_eq_getElem_cons h, List.set_cons_zero, List.take_succ_eq_append_getElem h, List.map_append, List.append_assoc]
  rfl
theorem bndF_same {rs : List Nat} {fs : List Fld} {i : Nat} (h : i < fs.length) (hb : bindF rs fs[i] = fs[i]) : bndF rs fs (i + 1) = bndF rs fs i := by
  rw [← bndF_set h, hb]
  have := bndF_get (rs := rs) h
  conv => lhs; arg 3; rw [← this]
  exact List.set_getElem_self _
theorem bndF_zero (rs : List Nat) (fs : List Fld) : bndF rs fs 0 = fs := by simp [bndF]
theorem bndF_all (rs : List Nat) (fs : List Fld) : bndF rs fs fs.length = fs.map (bindF rs) := by simp [bndF]

def BPost (o : Option (List Str)) (n0 pb : Nat) (T : ByteArray) (us : List (Int × ByteArray)) (l : Lx) (sv uv nv : Value) (w : World) : Ending → World → Prop := fun r w' =>
  Below n0 w w' ∧ match o with
    | none => r = .returned (.bool false) ∧ Bad w' pb
    | some ss => r = .returned (.bool true) ∧ ∃ ps', PM n0 pb T ps' us l sv uv nv w' ∧ ps'.map Prod.fst = ss

set_option maxRecDepth 100000
set_option maxHeartbeats 20000000 in
theorem bind_any {n0 pb : Nat} {T : ByteArray} {ps : List (Str × Value)} {us : List (Int × ByteArray)} {l : Lx} {sv uv nv : Value} {w : World} (h : PM n0 pb T ps us l sv uv nv w) (hn0 : n0 ≤ w.heap.size) (hpb : n0 ≤ pb) (hpl : ps.length ≤ 4) (hul : us.length ≤ 80)
    (hnm : NamesP ps) (hrf : ∀ p ∈ ps, ∀ f ∈ p.1.fs, f.t.named = true → 0 ≤ f.t.ref ∧ f.t.ref < us.length) (hf16 : ∀ p ∈ ps, p.1.fs.length ≤ 16) :
    Calls Faeg.prog 55 #[.pointer (some ⟨pb, 0, none⟩)] w (BPost (bindP (ps.map Prod.fst) (unames us)) n0 pb T us l sv uv nv w) := by
  obtain ⟨sa, sc, rfl, -⟩ := Has.own h.row
  obtain ⟨ua, uc, rfl, -⟩ := Has.own h.us
  obtain ⟨p, e, hl, ho⟩ := id h.par
  obtain ⟨-, -, -, c3, c4, -, -, -⟩ := pcs8 ho
  have hlt := ho.lt
  obtain ⟨i5, hi, hz0, hz1, hz2⟩ := info_parts info5
  have hB0 : bindP (ps.map Prod.fst) (unames us) = match (unames us).mapM (refOf (ps.map Prod.fst)) with
      | none => none
      | some rs => some ((ps.map Prod.fst).map (bindS rs)) := rfl
  have HB : Hid _ := hB0
  clear hB0
  go_enter Faeg.func55, Faeg.ntmps55
  go_upto_block 0 with fail
  go_cut [3, 5, 6, 7] (fun v _ _ _ wc => ∃ rs : List Nat, Hid ((unames us).mapM (refOf (ps.map Prod.fst)) = some rs) ∧ wc.ownsRow w.heap.size 5 1 v rs.length (rcells rs) ∧ Below w.heap.size w wc)
  case first =>
    go_wp2_with fail
    go_loopw [16, 3] (fun i v wl => ∃ (j : Nat) (rs : List Nat), j ≤ us.length ∧ i = .int .i64 j ∧ wl.ownsRow w.heap.size 5 1 v rs.length (rcells rs) ∧ rs.length = j ∧ Below w.heap.size w wl ∧ Hid (((unames us).take j).mapM (refOf (ps.map Prod.fst)) = some rs)) (fun i _ _ => us.length - (intOf i).toNat)
    case atStart => exact ⟨0, [], Nat.zero_le _, rfl, World.ownsRow_nil _ _ _ _, rfl, Below.refl _ _, rfl⟩
    case round =>
      obtain ⟨j, rs, hj, rfl, hR, hrl, hb, hG⟩ := hrel
      have h1 := h.calm hb
      obtain ⟨-, -, -, c3, c4, -, -, -⟩ := pcs8 (ho.below hb ho.lt)
      have hsz := hb.size
      by_cases hjl : j < us.length
      · obtain ⟨gu, hgu⟩ : ∃ gu, ua = some ⟨gu, 0, none⟩ := by
          obtain ⟨m', hm'⟩ : ∃ m', us.length = m' + 1 := ⟨us.length - 1, by omega⟩
          have := h1.us
          unfold Uses at this
          rw [hm'] at this
          obtain ⟨g, c, h1⟩ := ownsRow_succ this
          cases h1
          exact ⟨_, rfl⟩
        subst hgu
        have hrowU : wr.ownsRow n0 168 2 (.slice (some ⟨gu, 0, none⟩) us.length uc) us.length (ucells us) := h1.us
        obtain ⟨u0, u1⟩ := use_at hrowU hjl
        have hltu := (hrowU.lt gu rfl).2
        obtain ⟨at_, hat⟩ : ∃ a, a = us[j].1 := ⟨_, rfl⟩
        obtain ⟨un, hun⟩ : ∃ a, a = us[j].2 := ⟨_, rfl⟩
        rw [← hat] at u0
        rw [← hun] at u1
        have hmem : un.toList ∈ unames us := by rw [hun]; exact List.mem_map.2 ⟨us[j], List.getElem_mem _, rfl⟩
        have htake : (unames us).take (j + 1) = (unames us).take j ++ [un.toList] := by
          rw [List.take_succ_eq_append_getElem (by simpa [unames] using hjl), hun]; simp [unames]
        clear hat hun
        have HME : Hid _ := hmem
        have HTA : Hid _ := htake
        clear hmem htake
        obtain ⟨wo, rfl⟩ : ∃ wo, wo = wr := ⟨_, rfl⟩
        have hltp0 : pb < wo.heap.size := by omega
        have hUo : Own (wo.alloc (.cells #[.int .i64 at_, .string un] 168)) wo.heap.size 168 [.int .i64 at_, .string un] := Own.new _ _ _
        have hR1 := hR.alloc (.cells #[.int .i64 at_, .string un] 168)
        have hb1 := hb.alloc hsz (.cells #[.int .i64 at_, .string un] 168)
        have hwrs : wo.heap.size < (wo.alloc (.cells #[.int .i64 at_, .string un] 168)).heap.size := by simp
        go_wp2_with fail
        generalize wo.alloc (.cells #[.int .i64 at_, .string un] 168) = W1 at *
        go_loopw [26, 3, 6] (fun i2 v f wi => ∃ (k : Nat) (o : Option Nat), k ≤ ps.length ∧ i2 = .int .i64 k ∧ Hid (refOf ((ps.map Prod.fst).take k) un.toList = o) ∧ f = .bool o.isSome ∧ wi.ownsRow w.heap.size 5 1 v (rs ++ o.toList).length (rcells (rs ++ o.toList)) ∧
          Below w.heap.size w wi ∧ Own wi wo.heap.size 168 [.int .i64 at_, .string un]) (fun i2 _ _ _ => ps.length - (intOf i2).toNat)
        case atStart => exact ⟨0, none, Nat.zero_le _, rfl, rfl, rfl, by simpa using hR1, hb1, hUo⟩
        case round =>
          clear hR1 hb1 hUo u0 u1 c3 c4 hR
          obtain ⟨k, o, hk, rfl, hO, rfl, hR, hb2, hUo⟩ := hrel
          have h2 := h.calm hb2
          have ho2 := ho.below hb2 ho.lt
          obtain ⟨-, -, -, c3, c4, -, -, -⟩ := pcs8 ho2
          have hsz2 := hb2.size
          have hltp := ho2.lt
          have v0 := hUo.cell (j := 0) (u := .int .i64 at_) rfl
          have v1 := hUo.cell (j := 1) (u := .string un) rfl
          have hltU := hUo.lt
          by_cases hkl : k < ps.length
          · obtain ⟨gs, hgs⟩ : ∃ gs, sa = some ⟨gs, 0, none⟩ := by
              obtain ⟨m', hm'⟩ : ∃ m', ps.length = m' + 1 := ⟨ps.length - 1, by omega⟩
              have := h2.row
              rw [hm'] at this
              obtain ⟨g, c, h1⟩ := ownsRow_succ this
              cases h1
              exact ⟨_, rfl⟩
            subst hgs
            have hrow := h2.row
            have hltg := (hrow.lt gs rfl).2
            obtain ⟨d0, -⟩ := str8 (row_str hrow hkl)
            have hpl2 : k < (ps.map Prod.fst).length := by simpa using hkl
            have hnk : (ps.map Prod.fst)[k].name = ps[k].1.name := by rw [List.getElem_map]
            have hhit := refOf_hit (u := un.toList) hpl2 hnm
            have hmiss := refOf_miss (u := un.toList) hpl2
            rw [hnk] at hhit hmiss
            obtain ⟨xn, hxn⟩ : ∃ a, a = ps[k].1.name := ⟨_, rfl⟩
            rw [← hxn] at hhit hmiss d0
            have HHIT : Hid _ := hhit
            have HMISS : Hid _ := hmiss
            clear hhit hmiss hxn hnk hrow
            cases hq : (xn.toList == un.toList) with
            | true =>
              obtain ⟨hh1, hh2⟩ := HHIT.out (by simpa using hq)
              have ho0 : o = none := hO.out.symm.trans hh1
              subst ho0
              simp only [Option.toList_none, List.append_nil] at hR
              go_upto_region 9 with fail
              go_quiet (fail)
              have hb3 : Below w.heap.size w (wr.drewN nq) := below_drewN hb2 _
              have hR3 : (wr.drewN nq).ownsRow w.heap.size 5 1 _ rs.length (rcells rs) := hR
              have hU3 : Own (wr.drewN nq) wo.heap.size 168 [.int .i64 at_, .string un] := hUo
              have hsz3 : w.heap.size ≤ (wr.drewN nq).heap.size := hsz2
              generalize wr.drewN nq = W2 at *
              go_wp2_with (at_builtin; refine wpList_app1g rfl (.tmp 41) (.tmp 44) 22 rfl w.heap.size 5 i5 _ 1 1 under22 hi hz0 hz1 hz2 rfl (by decide) _ rs.length (rcells rs) [.int .u8 k] _ rfl rfl hR3 rfl rfl rfl (by omega) (by unfold maxLen; omega) (by omega) ?_; intro v5 w5 hU5 hg5)
              have hO2 : Hid (refOf ((ps.map Prod.fst).take (k + 1)) un.toList = some k) := hh2
              go_roundw
              case rel =>
                refine ⟨k + 1, some k, by omega, by go_num, hO2, rfl, ?_, ?_, ?_⟩
                · rw [show rs ++ (some k).toList = rs ++ [k] from rfl, List.length_append, rcells_snoc]; exact hU5
                · exact Below.grown (hb3.alloc hsz3 _) hg5 (by simp; omega) (fun k e1 => (hR3.lt k e1).1)
                · exact (hU3.alloc _).grown hg5 (Ne.symm (row_ne hR3 hU3 (by decide)))
              case measure => simp [intOf]; omega
            | false =>
              have hm2 := HMISS.out (by simpa using hq)
              have hO2 : Hid (refOf ((ps.map Prod.fst).take (k + 1)) un.toList = o) := hm2.trans hO.out
              go_upto_region 9 with fail
              go_quiet (fail)
              go_wp2_with fail
              go_roundw
              case rel => exact ⟨k + 1, o, by omega, by go_num, hO2, rfl, hR, below_drewN hb2 _, hUo⟩
              case measure => simp [intOf]; omega
          · have hke : k = ps.length := by omega
            subst hke
            have hO2 : Hid (refOf (ps.map Prod.fst) un.toList = o) := by
              have := hO.out
              rwa [List.take_of_length_le (by simp)] at this
            cases o with
            | none =>
              have hF : Hid (bindP (ps.map Prod.fst) (unames us) = none) := by rw [Hid, HB.out, mapM_none HME.out hO2.out]
              go_wp2_with (go_at_call 74; refine (failAt_as at_ 4 h2.par (by decide) (by decide)).mono ?_; rintro r w6 ⟨rfl, hB6, hm6⟩)
              go_ret
              rw [hF.out]
              refine ⟨?_, rfl, hB6⟩
              exact (hb2.mono hn0).trans (hm6.below (by omega) (fun k hk => by omega))
            | some x =>
              simp only [Option.toList_some] at hR
              go_wp2_with fail
              go_roundw
              case rel => exact ⟨j + 1, rs ++ [x], by omega, by go_num, hR, by simp; omega, hb2, by rw [Hid, HTA.out]; exact mapM_snoc hG.out hO2.out⟩
              case measure => simp [intOf]; omega
      · have hje : j = us.length := by omega
        subst hje
        go_wp2_with fail
        go_meet
        refine ⟨rs, ?_, hR, hb⟩
        have := hG.out
        rwa [List.take_of_length_le (by simp [unames])] at this
  case rest =>
    obtain ⟨rs, hMM, hR, hb⟩ := hcut
    have hrsl : rs.length = us.length := by rw [mapM_len hMM.out]; simp [unames]
    have hF : Hid (bindP (ps.map Prod.fst) (unames us) = some ((ps.map Prod.fst).map (bindS rs))) := by rw [Hid, HB.out, hMM.out]
    have hrsb : ∀ x ∈ rs, x < 4 := by
      intro x hx
      obtain ⟨u, -, hu⟩ := mapM_mem hMM.out x hx
      unfold refOf at hu
      rw [List.findIdx?_eq_some_iff_getElem] at hu
      have := hu.1
      simp at this
      omega
    have h1 := h.calm hb
    have hbn : Below n0 w wc := hb.mono hn0
    clear c3 c4
    obtain ⟨-, -, -, c3, c4, -, -, -⟩ := pcs8 (ho.below hb ho.lt)
    have hltc : pb < wc.heap.size := by have := hb.size; omega
    obtain ⟨ra, rc, rfl, -⟩ := Has.own hR
    obtain ⟨w0, rfl⟩ : ∃ w0, w0 = wc := ⟨_, rfl⟩
    go_wp2_with fail
    clear c3 c4 hltc
    go_loopw [60] (fun i wl => ∃ k : Nat, k ≤ ps.length ∧ i = .int .i64 k ∧ PM n0 pb T (bndP rs ps k) us l (.slice sa ps.length sc) (.slice ua us.length uc) nv wl ∧ wl.ownsRow w.heap.size 5 1 (.slice ra rs.length rc) rs.length (rcells rs) ∧ Below n0 w wl) (fun i _ => ps.length - (intOf i).toNat)
    case atStart => exact ⟨0, Nat.zero_le _, rfl, by simpa [bndP] using h1, hR, hbn⟩
    case round =>
      clear h1 hR hbn hb
      obtain ⟨k, hk, rfl, h1, hR, hbn⟩ := hrel
      obtain ⟨w1, rfl⟩ : ∃ w1, w1 = wr := ⟨_, rfl⟩
      obtain ⟨p1, e1, hl1, ho1⟩ := id h1.par
      obtain ⟨-, -, -, c3, -, -, -, -⟩ := pcs8 ho1
      have hltp := ho1.lt
      have hpsl : (bndP rs ps k).length = ps.length := by simp [bndP]; omega
      by_cases hkl : k < ps.length
      · have hfk := hrf ps[k] (List.getElem_mem _)
        have hfl := hf16 ps[k] (List.getElem_mem _)
        rw [bndP_at hkl] at h1
        have hsucc := bndP_succ (rs := rs) hkl
        obtain ⟨L, hL⟩ : ∃ L, L = (ps.take k).map (fun p => (bindS rs p.1, p.2)) := ⟨_, rfl⟩
        obtain ⟨R, hRR⟩ : ∃ R, R = ps.drop (k + 1) := ⟨_, rfl⟩
        obtain ⟨pk, hpk⟩ : ∃ pk, pk = ps[k] := ⟨_, rfl⟩
        have hLl : L.length = k := by rw [hL]; simp; omega
        have hlen2 : (L ++ pk :: R).length = ps.length := by rw [hL, hpk, hRR, ← bndP_at hkl]; exact hpsl
        rw [← hL, ← hRR, ← hpk] at h1 hsucc
        rw [← hpk] at hfk hfl
        clear hL hRR hpk
        obtain ⟨t, tv⟩ := pk
        simp only at hfk hfl hsucc h1
        obtain ⟨ta, tc, he, -⟩ := Has.own (h1.flds (t, tv) (by simp))
        simp only at he
        subst he
        obtain ⟨gs, hgs⟩ : ∃ gs, sa = some ⟨gs, 0, none⟩ := by
          obtain ⟨m', hm'⟩ : ∃ m', ps.length = m' + 1 := ⟨ps.length - 1, by omega⟩
          have := h1.row
          rw [hlen2, hm'] at this
          obtain ⟨g, c, h1⟩ := ownsRow_succ this
          cases h1
          exact ⟨_, rfl⟩
        subst hgs
        have hstr : ∀ w' : World, ∀ t' : Str, t'.name = t.name → PM n0 pb T (L ++ (t', .slice ta t.fs.length tc) :: R) us l (.slice (some ⟨gs, 0, none⟩) ps.length sc) (.slice ua us.length uc) nv w' → w'.cell? ⟨gs, k * 8 + 1, none⟩ = some (.slice ta t.fs.length tc) ∧ gs < w'.heap.size ∧
            w'.cell? ⟨pb, 3, none⟩ = some (.slice (some ⟨gs, 0, none⟩) ps.length sc) ∧ pb < w'.heap.size := by
          intro w' t' _ hpm
          have hrow := hpm.row
          have hl3 : (L ++ (t', Value.slice ta t.fs.length tc) :: R).length = ps.length := by rw [← hlen2]; simp
          rw [hl3] at hrow
          have hjj : k < (L ++ (t', Value.slice ta t.fs.length tc) :: R).length := by rw [hl3]; exact hkl
          have := row_str hrow hjj
          rw [show (L ++ (t', Value.slice ta t.fs.length tc) :: R)[k] = (t', Value.slice ta t.fs.length tc) by rw [List.getElem_append_right (by omega)]; simp [hLl]] at this
          obtain ⟨p', e', hl', ho'⟩ := hpm.par
          obtain ⟨-, -, -, c3, -, -, -, -⟩ := pcs8 ho'
          exact ⟨(str8 this).2.1, (hrow.lt gs rfl).2, c3, ho'.lt⟩
        obtain ⟨d1, hltg, -, -⟩ := hstr w1 t rfl h1
        go_wp2_with fail
        clear d1 hltg c3 hltp
        go_loopw [73] (fun i wl => ∃ m : Nat, m ≤ t.fs.length ∧ i = .int .i64 m ∧ PM n0 pb T (L ++ ({ t with fs := bndF rs t.fs m }, .slice ta t.fs.length tc) :: R) us l (.slice (some ⟨gs, 0, none⟩) ps.length sc) (.slice ua us.length uc) nv wl ∧
          wl.ownsRow w.heap.size 5 1 (.slice ra rs.length rc) rs.length (rcells rs) ∧ Below n0 w wl) (fun i _ => t.fs.length - (intOf i).toNat)
        case atStart => exact ⟨0, Nat.zero_le _, rfl, by rw [bndF_zero]; exact h1, hR, hbn⟩
        case round =>
          clear h1 hR hbn
          obtain ⟨m, hm, rfl, h2, hR, hbn⟩ := hrel
          obtain ⟨d1, hltg, c3, hltp⟩ := hstr wr { t with fs := bndF rs t.fs m } rfl h2
          by_cases hml : m < t.fs.length
          · obtain ⟨gt, hgt⟩ : ∃ gt, ta = some ⟨gt, 0, none⟩ := by
              have := h2.flds ({ t with fs := bndF rs t.fs m }, .slice ta t.fs.length tc) (by simp)
              simp only [bndF_len] at this
              obtain ⟨m', hm'⟩ : ∃ m', t.fs.length = m' + 1 := ⟨t.fs.length - 1, by omega⟩
              rw [hm'] at this
              obtain ⟨g, c, h1⟩ := ownsRow_succ this
              cases h1
              exact ⟨_, rfl⟩
            subst hgt
            have hrow : wr.ownsRow n0 34 11 (.slice (some ⟨gt, 0, none⟩) t.fs.length tc) t.fs.length (fcells (bndF rs t.fs m)) := by
              have := h2.flds ({ t with fs := bndF rs t.fs m }, .slice (some ⟨gt, 0, none⟩) t.fs.length tc) (by simp)
              simpa only [bndF_len] using this
            have hmb : m < (bndF rs t.fs m).length := by rw [bndF_len]; exact hml
            have hcell : ∀ jj u, (t.fs[m].cells)[jj]? = some u → jj < 11 → wr.cell? ⟨gt, m * 11 + jj, none⟩ = some u := fun jj u hu hjj => by
              have := hrow.cells rfl (m * 11 + jj) u (by rw [fcells, flat_get Fld.cells 11 (fun _ => rfl) _ m jj hmb hjj, bndF_get hml]; exact hu)
              simpa [Addr.add_lit] using this
            have z1 := hcell 1 _ rfl (by omega)
            have z2 := hcell 2 _ rfl (by omega)
            have z3 := hcell 3 _ rfl (by omega)
            have g3 := hrow.frozenAt (m * 11 + 3)
            have hltf := (hrow.lt gt rfl).2
            have hfm := hfk t.fs[m] (List.getElem_mem _)
            have hset := h2.setF (i := m) hmb (by rw [bndF_len]) (((rs.getD (t.fs[m].t.ref.toNat) 0 : Nat) : Int))
            simp only [bndF_get hml] at hset
            have hbs := bndF_set (rs := rs) hml
            have hbe := fun hb => bndF_same (rs := rs) hml hb
            obtain ⟨f, hf⟩ : ∃ f, f = t.fs[m] := ⟨_, rfl⟩
            rw [← hf] at z1 z2 z3 hfm hset hbs hbe
            clear hf hcell hmb
            have HSET : Hid _ := hset
            have HBS : Hid _ := hbs
            have HBE : Hid _ := hbe
            clear hset hbs hbe
            obtain ⟨w2, rfl⟩ : ∃ w2, w2 = wr := ⟨_, rfl⟩
            go_upto_region 22 with fail
            go_cut [106] (fun v wc => v = .bool f.t.named ∧ wc = w2)
            case first =>
              obtain ⟨ka, hka⟩ : ∃ a, (f.t.kind == 13) = a := ⟨_, rfl⟩
              obtain ⟨kb, hkb⟩ : ∃ a, (f.t.kind == 12) = a := ⟨_, rfl⟩
              obtain ⟨kc, hkc⟩ : ∃ a, (f.t.elem == 13) = a := ⟨_, rfl⟩
              have hnm2 : Hid (f.t.named = (ka || (kb && kc))) := by rw [Hid, ← hka, ← hkb, ← hkc]; rfl
              cases ka with
              | true =>
                go_wp2_with fail
                go_meet
                exact ⟨by rw [hnm2.out]; rfl, rfl⟩
              | false =>
                cases kb with
                | true =>
                  go_wp2_with fail
                  go_meet
                  exact ⟨by rw [hnm2.out]; rfl, rfl⟩
                | false =>
                  go_wp2_with fail
                  go_meet
                  exact ⟨by rw [hnm2.out]; rfl, rfl⟩
            case rest =>
              obtain ⟨rfl, rfl⟩ := hcut
              obtain ⟨w2, rfl⟩ : ∃ w2, w2 = wc := ⟨_, rfl⟩
              cases hnmd : f.t.named with
              | false =>
                have hsame := HBE.out (by unfold bindF bindT; rw [if_neg (by rw [hnmd]; simp)])
                go_wp2_with fail
                go_roundw
                case rel => exact ⟨m + 1, by omega, by go_num, by rw [hsame]; exact h2, hR, hbn⟩
                case measure => simp [intOf]; omega
              | true =>
                obtain ⟨hr0, hr1⟩ := hfm hnmd
                obtain ⟨n, hnn⟩ := Int.eq_ofNat_of_zero_le hr0
                have hnl : n < rs.length := by omega
                obtain ⟨gr, hgr⟩ : ∃ gr, ra = some ⟨gr, 0, none⟩ := by
                  obtain ⟨m', hm'⟩ : ∃ m', rs.length = m' + 1 := ⟨rs.length - 1, by omega⟩
                  have := hR
                  rw [hm'] at this
                  obtain ⟨g, c, h1⟩ := ownsRow_succ this
                  cases h1
                  exact ⟨_, rfl⟩
                subst hgr
                have y0 : w2.cell? ⟨gr, n, none⟩ = some (.int .u8 (rs[n] : Nat)) := by
                  have := hR.cells rfl n (.int .u8 (rs[n] : Nat)) (by simp [rcells, hnl])
                  simpa [Addr.add_lit] using this
                have hltr := (hR.lt gr rfl).2
                have hrn := hrsb rs[n] (List.getElem_mem _)
                have hgd : rs.getD f.t.ref.toNat 0 = rs[n] := by rw [hnn]; simp [hnl]
                have hbf : bindF rs f = { f with t := { f.t with ref := (rs[n] : Nat) } } := by
                  unfold bindF bindT
                  rw [if_pos hnmd, hgd]
                have hP := HSET.out
                rw [hgd, ← hbf, HBS.out] at hP
                have HP : Hid _ := hP
                rw [hnn] at z3
                obtain ⟨x, hx⟩ : ∃ x, x = rs[n] := ⟨_, rfl⟩
                rw [← hx] at y0 hrn HP
                clear hP hbf hgd hx
                have hR' := ownsRow_setCell_other (a := ⟨gt, m * 11 + 3, none⟩) hR (fun e1 => row_row hR hrow (by decide) e1 rfl) (.int .u8 (x : Int))
                have hbn' := hbn.setCell (p := ⟨gt, m * 11 + 3, none⟩) (hrow.lt gt rfl).1 (.int .u8 (x : Int))
                have hnu : (n : Int) ≤ 255 := by omega
                go_wp2_with fail
                go_roundw
                case rel => exact ⟨m + 1, by omega, by go_num, HP.out, hR', hbn'⟩
                case measure => simp [intOf]; omega
          · have hme : m = t.fs.length := by omega
            subst hme
            rw [bndF_all] at h2
            go_wp2_with fail
            go_roundw
            case rel => exact ⟨k + 1, by omega, by go_num, by rw [hsucc]; exact h2, hR, hbn⟩
            case measure => simp [intOf]; omega
      · have hke : k = ps.length := by omega
        subst hke
        go_wp2_with fail
        go_ret
        rw [hF.out]
        exact ⟨hbn, rfl, bndP rs ps ps.length, h1, by simp [bndP]⟩
end Go.Proofs.Ygcfae
