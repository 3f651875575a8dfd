import Derived.Test.YgcfaeRLay
namespace Go.Proofs.Ygcfae
open Go.RowKit

theorem kinds_tk (ks : List Int) : (ks.map tk).map (·.kind) = ks := by
  simp [List.map_map, Function.comp_def, tk]

theorem sLayout_no {ks : List Int} (hs : sLay ks = none) (ao : Option Addr) (n cap : Nat) (w : World) (hn : ks.length = n) (hc : Has w ao (tcells (ks.map tk))) (hk : ∀ k ∈ ks, 0 ≤ k) :
    Calls Faeg.prog 31 #[.slice ao n cap] w fun e w' => e = .returned (.tuple #[.slice none 0 0, .int .u8 0, .int .u8 0, .bool false]) ∧ Below w.heap.size w w' := by
  refine (sLayout_any (ks.map tk) ao n cap w (by simpa using hn) hc (by intro t ht; obtain ⟨k, hk', rfl⟩ := List.mem_map.1 ht; exact hk k hk')).mono ?_
  rintro e w' ⟨h1, h2⟩
  rw [kinds_tk, hs] at h2
  exact ⟨h2, h1⟩

theorem sLayout_yes {ks : List Int} {st : LS} (hs : sLay ks = some st) (ao : Option Addr) (n cap : Nat) (w : World) (hn : ks.length = n) (hc : Has w ao (tcells (ks.map tk))) (hk : ∀ k ∈ ks, 0 ≤ k) :
    Calls Faeg.prog 31 #[.slice ao n cap] w fun e w' => ∃ a c, e = .returned (.tuple #[.slice a n c, .int .u8 st.data, .int .u8 st.ptrs, .bool true]) ∧ Has w' a (pcells st.ps) ∧ Below w.heap.size w w' := by
  refine (sLayout_any (ks.map tk) ao n cap w (by simpa using hn) hc (by intro t ht; obtain ⟨k, hk', rfl⟩ := List.mem_map.1 ht; exact hk k hk')).mono ?_
  rintro e w' ⟨h1, h2⟩
  rw [kinds_tk, hs] at h2
  obtain ⟨v, rfl, ho⟩ := h2
  rw [List.length_map, hn] at ho
  obtain ⟨a, c, rfl, hh⟩ := Has.own ho
  exact ⟨a, c, rfl, hh, h1⟩

theorem entries_yes (fs : List Fld) {E : ES} (hE : eRun fs ES.start = E) (ao : Option Addr) (n cap : Nat) (w : World) (hn : fs.length = n) (hl : n ≤ 16) (hc : Has w ao (fcells fs)) :
    Calls Faeg.prog 30 #[.slice ao n cap] w fun e w' => ∃ a2 c2 a3 c3, e = .returned (.tuple #[.slice a2 E.ts.length c2, .slice a3 n c3, .agg #[.int .i64 E.tag, .int .i64 E.word, .int .i64 E.slot]]) ∧
      Has w' a2 (tcells (E.ts.map tk)) ∧ Has w' a3 (E.ix.map (.int .i64)) ∧ Below w.heap.size w w' := by
  refine (entries_any fs ao n cap w hn hl hc).mono ?_
  rintro e w' ⟨v2, v3, rfl, h2, h3, hb⟩
  rw [hE] at h2 h3
  rw [hn] at h3
  obtain ⟨a2, c2, rfl, g2⟩ := Has.own h2
  obtain ⟨a3, c3, rfl, g3⟩ := Has.own h3
  rw [hE]
  exact ⟨a2, c2, a3, c3, rfl, g2, g3, hb⟩

end Go.Proofs.Ygcfae
