import Derived.Test.YgcfaeLeaf
namespace Go.Proofs.Ygcfae
open Go.RowKit

/-- are the s bits of the word x from bit a on free -/
def free (x : Int) (a : Nat) (s : Int) : Bool := bits BinOp.and IntKind.u64 (x / 2 ^ a) (18446744073709551615 / 2 ^ (64 - s).toNat) == 0

/-- the lowest free place in one word, from a on; the first number is the fuel -/
def fitIn (x s : Int) : Nat → Nat → Option Nat
  | 0, _ => none
  | n + 1, a => if a < 64 then (if free x a s then some a else fitIn x s n (a + s.toNat)) else none

/-- the lowest free place in the words, the first of which has the number k -/
def fitGo (s : Int) : List Int → Nat → Option Nat
  | [], _ => none
  | x :: us, k => match fitIn x s 65 0 with
    | some a => some (k * 64 + a)
    | none => fitGo s us (k + 1)

def fitV (r : Option Nat) : Int := ((r.getD 0 : Nat) : Int)

theorem fitIn_hit {x s : Int} {n a : Nat} (h : a < 64) (hf : free x a s = true) : fitIn x s (n + 1) a = some a := by
  simp [fitIn, h, hf]
theorem fitIn_miss {x s : Int} {n a : Nat} (h : a < 64) (hf : free x a s = false) : fitIn x s (n + 1) a = fitIn x s n (a + s.toNat) := by
  simp [fitIn, h, hf]
theorem fitIn_end {x s : Int} {n a : Nat} (h : ¬ a < 64) : fitIn x s n a = none := by
  cases n <;> simp [fitIn, h]
theorem fitGo_hit {s : Int} {us : List Int} {k a : Nat} (h : k < us.length) (hf : fitIn us[k] s 65 0 = some a) :
    fitGo s (us.drop k) k = some (k * 64 + a) := by
  rw [List.drop_eq_getElem_cons h]; simp [fitGo, hf]
theorem fitGo_miss {s : Int} {us : List Int} {k : Nat} (h : k < us.length) (hf : fitIn us[k] s 65 0 = none) :
    fitGo s (us.drop k) k = fitGo s (us.drop (k + 1)) (k + 1) := by
  rw [List.drop_eq_getElem_cons h]; simp [fitGo, hf]

set_option maxRecDepth 100000
set_option maxHeartbeats 400000 in
theorem fit_any (us : List Int) (b off n cap : Nat) (s : Int) (w : World) (hn : us.length = n) (hl : n ≤ 8) (hs : 0 < s) (hs2 : s ≤ 64)
    (hc : AtB w b off (us.map (.int .u64))) :
    Calls Faeg.prog 47 #[.slice (some ⟨b, off, none⟩) n cap, .int .u8 s] w fun e w' =>
      e = .returned (.tuple #[.int .u16 (fitV (fitGo s us 0)), .bool (fitGo s us 0).isSome]) ∧ w' = w := by
  subst hn
  go_enter Faeg.func47, Faeg.ntmps47
  go_wp2
  go_loop [14] (fun i => ∃ k : Nat, k ≤ us.length ∧ i = .int .i64 k ∧ Hid (fitGo s us 0 = fitGo s (us.drop k) k)) (fun i => us.length - (intOf i).toNat)
  case atStart => exact ⟨0, Nat.zero_le _, rfl, rfl⟩
  case round =>
    obtain ⟨k, hk, rfl, hg⟩ := hrel
    by_cases hlt : k < us.length
    · have hcell := hc k (.int .u64 us[k]) (by simp [hlt])
      go_wp2
      go_loop [8] (fun i => ∃ a n : Nat, (a : Int) ≤ 64 + s ∧ 65 ≤ a + n ∧ i = .int .u16 a ∧ Hid (fitIn us[k] s 65 0 = fitIn us[k] s n a)) (fun i => (128 - (intOf i)).toNat)
      case atStart => exact ⟨0, 65, by omega, by omega, rfl, rfl⟩
      case round =>
        obtain ⟨a, n, ha, hn, rfl, hi⟩ := hrel
        by_cases hla : (a : Int) < 64
        · obtain ⟨n, rfl⟩ : ∃ n', n = n' + 1 := ⟨n - 1, by omega⟩
          go_wp2
          · have hf : free us[k] a s = true := by assumption
            have h1 := hi.out.trans (fitIn_hit (by omega) hf)
            have h2 := hg.out.trans (fitGo_hit hlt h1)
            go_ret2
            rw [h2]
            exact ⟨by simp [fitV], rfl⟩
          · have hf : free us[k] a s = false := by assumption
            go_round
            case rel => exact ⟨a + s.toNat, n, by omega, by omega, by go_num, hi.out.trans (fitIn_miss (by omega) hf)⟩
            case measure => simp [intOf]; omega
        · have h1 := hi.out.trans (fitIn_end (by omega))
          have h2 : Hid _ := hg.out.trans (fitGo_miss hlt h1)
          clear h1
          go_wp2
          go_round
          case rel => exact ⟨k + 1, by omega, by go_num, h2⟩
          case measure => simp [intOf]; omega
    · have h2 : Hid (fitGo s us 0 = none) := by
        show _ = _
        rw [hg.out, List.drop_eq_nil_of_le (by omega)]; rfl
      go_wp2
      go_ret2
      rw [h2.out]
      exact ⟨by simp [fitV], rfl⟩

theorem fit_some {us : List Int} {b off n cap : Nat} {s : Int} {w : World} {a : Nat} (hr : fitGo s us 0 = some a) (hn : us.length = n) (hl : n ≤ 8) (hs : 0 < s) (hs2 : s ≤ 64)
    (hc : AtB w b off (us.map (.int .u64))) :
    Calls Faeg.prog 47 #[.slice (some ⟨b, off, none⟩) n cap, .int .u8 s] w fun e w' =>
      e = .returned (.tuple #[.int .u16 (a : Int), .bool true]) ∧ w' = w := by
  refine (fit_any us b off n cap s w hn hl hs hs2 hc).mono ?_
  rintro e w' ⟨rfl, rfl⟩
  rw [hr]; exact ⟨rfl, rfl⟩

theorem fit_none {us : List Int} {b off n cap : Nat} {s : Int} {w : World} (hr : fitGo s us 0 = none) (hn : us.length = n) (hl : n ≤ 8) (hs : 0 < s) (hs2 : s ≤ 64)
    (hc : AtB w b off (us.map (.int .u64))) :
    Calls Faeg.prog 47 #[.slice (some ⟨b, off, none⟩) n cap, .int .u8 s] w fun e w' =>
      e = .returned (.tuple #[.int .u16 0, .bool false]) ∧ w' = w := by
  refine (fit_any us b off n cap s w hn hl hs hs2 hc).mono ?_
  rintro e w' ⟨rfl, rfl⟩
  rw [hr]; exact ⟨rfl, rfl⟩

theorem fitIn_lt {x s : Int} : ∀ {n a r : Nat}, fitIn x s n a = some r → r < 64
  | 0, _, _, h => by simp [fitIn] at h
  | n + 1, a, r, h => by
    unfold fitIn at h
    split at h
    · split at h
      · simp at h; omega
      · exact fitIn_lt h
    · simp at h

theorem fitGo_lt {s : Int} : ∀ {us : List Int} {k r : Nat}, fitGo s us k = some r → k * 64 ≤ r ∧ r < (k + us.length) * 64
  | [], _, _, h => by simp [fitGo] at h
  | x :: us, k, r, h => by
    unfold fitGo at h
    split at h
    · rename_i a ha
      have := fitIn_lt ha
      simp at h
      simp only [List.length_cons]
      omega
    · have := fitGo_lt h
      simp only [List.length_cons]
      omega
end Go.Proofs.Ygcfae
