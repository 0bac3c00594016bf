/-
  Walks: law.digits, shadow.above, law.tooGreat, of any operand.
-/
import Derived.Test.YgctakPt14
namespace Go.Proofs.Ygctak
open Go.RowKit
set_option linter.unusedVariables false
set_option linter.unusedSimpArgs false
attribute [local go_sem ↓] Go.wp_at_zero Go.wp_at_succ
namespace Cx
open Ac Fl Sh

/-- An operand: empty, or its digits lie in memory. -/
def Opd (w : World) (a : Option Addr) (ds : List Int) : Prop := ds = [] ∨ ∃ b off, a = some ⟨b, off, none⟩ ∧ Dig w b off ds
theorem Opd.chg {w w2 : World} {a : Option Addr} {ds : List Int} (h : Opd w a ds) (hc : Chg [] w w2) : Opd w2 a ds := by
  rcases h with h | ⟨b, off, h1, h2⟩
  · exact .inl h
  · exact .inr ⟨b, off, h1, hc.dig h2 (by simp)⟩

/-- A digit above d. -/
def abv (d : Nat) (ds : List Int) : Bool := ds.any fun x => decide ((d : Int) < x)
theorem abv_none {d : Nat} {ds : List Int} (h : ∀ j, j < ds.length → ¬ (d : Int) < ds.getD j 0) : abv d ds = false := by
  unfold abv
  rw [List.any_eq_false]
  intro x hx
  obtain ⟨j, hj, rfl⟩ := List.getElem_of_mem hx
  have := h j hj
  rw [List.getD_eq_getElem?_getD, List.getElem?_eq_getElem hj] at this
  simpa using this
theorem abv_some {d : Nat} {ds : List Int} {j : Nat} (hj : j < ds.length) (h : (d : Int) < ds.getD j 0) : abv d ds = true := by
  unfold abv
  rw [List.any_eq_true]
  rw [List.getD_eq_getElem?_getD, List.getElem?_eq_getElem hj] at h
  exact ⟨ds[j], List.getElem_mem hj, by simpa using h⟩

theorem above_gen (a : Option Addr) (cap d : Nat) (ds : List Int) (w : World) (hd : d ≤ 255) (hl : ds.length ≤ 600) (hg : Opd w a ds) (hb : Byte ds) :
    Calls Takg.prog 56 #[.slice a ds.length cap, .int .u8 d] w fun e w' => e = .returned (.bool (abv d ds)) ∧ w' = w := by
  obtain ⟨B, hB⟩ : ∃ B, Hid (B = abv d ds) := ⟨_, hide rfl⟩
  have hB2 := hB
  unfold Hid at hB2
  rw [← hB2]
  have HG := hide hg
  have HB := hide hb
  obtain ⟨n, hn⟩ : ∃ n, Hid (n = ds.length) := ⟨_, hide rfl⟩
  have hn2 := hn
  unfold Hid at hn2
  rw [← hn2] at hl ⊢
  clear hB2 hn2 hg hb
  go_enter Takg.func56, Takg.ntmps56
  go_wp2_with fail
  go_loop [5] (fun i => ∃ m : Nat, i = .int .i64 m ∧ m ≤ n ∧ Hid (∀ j, j < m → ¬ (d : Int) < ds.getD j 0)) (fun i => n - (intOf i).toNat)
  case atStart => exact ⟨0, rfl, by omega, fun j hj => by omega⟩
  case round =>
    obtain ⟨m, rfl, hm, HI⟩ := hrel
    by_cases hlt : m < n
    · obtain ⟨b, off, ha, hdg⟩ : ∃ b off, a = some ⟨b, off, none⟩ ∧ Dig w b off ds := by
        rcases HG.out with h | h
        · have := hn.out; rw [h] at this; simp at this; omega
        · exact h
      subst ha
      have hc := hdg.2 m (by have := hn.out; omega)
      have hby := HB.out m (by have := hn.out; omega)
      obtain ⟨x, hx⟩ : ∃ x, Hid (x = ds.getD m 0) := ⟨_, hide rfl⟩
      have hx2 := hx
      unfold Hid at hx2
      rw [← hx2] at hc hby
      obtain ⟨x0, x1⟩ := hby
      by_cases hgt : (d : Int) < x
      · have HR : Hid (B = true) := by unfold Hid; rw [hB.out]; exact abv_some (j := m) (by have := hn.out; omega) (by rw [← hx2]; exact hgt)
        clear hx2 HI
        go_wp2_with fail
        go_ret
        exact ⟨by rw [HR.out]; rfl, rfl⟩
      · have HI2 : Hid (∀ j, j < m + 1 → ¬ (d : Int) < ds.getD j 0) := fun j hj => by
          by_cases e : j = m
          · rw [e, ← hx2]; exact hgt
          · exact HI.out j (by omega)
        clear hx2 HI
        go_wp2_with fail
        go_round
        case rel => exact ⟨m + 1, by go_num, by omega, HI2⟩
        case measure => simp [intOf]; omega
    · have hmn : m = n := by omega
      subst hmn
      have HR : Hid (B = false) := by unfold Hid; rw [hB.out]; exact abv_none (fun j hj => HI.out j (by have := hn.out; omega))
      go_wp2_with fail
      go_ret
      exact ⟨by rw [HR.out]; rfl, rfl⟩
theorem tooGreat_any (a : Option Addr) (cap d : Nat) (ds : List Int) (w : World) (hd : d ≤ 255) (hl : ds.length ≤ 600) (hg : Opd w a ds) (hb : Byte ds) :
    Calls Takg.prog 35 #[.slice a ds.length cap, .int .u8 d] w fun e w' => e = .returned (.bool (abv d ds)) ∧ w' = w := by
  obtain ⟨B, hB⟩ : ∃ B, Hid (B = abv d ds) := ⟨_, hide rfl⟩
  have hB2 := hB
  unfold Hid at hB2
  rw [← hB2]
  have HG := hide hg
  have HB := hide hb
  obtain ⟨n, hn⟩ : ∃ n, Hid (n = ds.length) := ⟨_, hide rfl⟩
  have hn2 := hn
  unfold Hid at hn2
  rw [← hn2] at hl ⊢
  clear hB2 hn2 hg hb
  go_enter Takg.func35, Takg.ntmps35
  go_wp2_with fail
  go_loop [5] (fun i => ∃ m : Nat, i = .int .i64 m ∧ m ≤ n ∧ Hid (∀ j, j < m → ¬ (d : Int) < ds.getD j 0)) (fun i => n - (intOf i).toNat)
  case atStart => exact ⟨0, rfl, by omega, fun j hj => by omega⟩
  case round =>
    obtain ⟨m, rfl, hm, HI⟩ := hrel
    by_cases hlt : m < n
    · obtain ⟨b, off, ha, hdg⟩ : ∃ b off, a = some ⟨b, off, none⟩ ∧ Dig w b off ds := by
        rcases HG.out with h | h
        · have := hn.out; rw [h] at this; simp at this; omega
        · exact h
      subst ha
      have hc := hdg.2 m (by have := hn.out; omega)
      have hby := HB.out m (by have := hn.out; omega)
      obtain ⟨x, hx⟩ : ∃ x, Hid (x = ds.getD m 0) := ⟨_, hide rfl⟩
      have hx2 := hx
      unfold Hid at hx2
      rw [← hx2] at hc hby
      obtain ⟨x0, x1⟩ := hby
      by_cases hgt : (d : Int) < x
      · have HR : Hid (B = true) := by unfold Hid; rw [hB.out]; exact abv_some (j := m) (by have := hn.out; omega) (by rw [← hx2]; exact hgt)
        clear hx2 HI
        go_wp2_with fail
        go_ret
        exact ⟨by rw [HR.out]; rfl, rfl⟩
      · have HI2 : Hid (∀ j, j < m + 1 → ¬ (d : Int) < ds.getD j 0) := fun j hj => by
          by_cases e : j = m
          · rw [e, ← hx2]; exact hgt
          · exact HI.out j (by omega)
        clear hx2 HI
        go_wp2_with fail
        go_round
        case rel => exact ⟨m + 1, by go_num, by omega, HI2⟩
        case measure => simp [intOf]; omega
    · have hmn : m = n := by omega
      subst hmn
      have HR : Hid (B = false) := by unfold Hid; rw [hB.out]; exact abv_none (fun j hj => HI.out j (by have := hn.out; omega))
      go_wp2_with fail
      go_ret
      exact ⟨by rw [HR.out]; rfl, rfl⟩

theorem digits_any (a : Option Addr) (n cap : Nat) (w : World) (hnc : n ≤ cap) (hc : cap ≤ 9223372036854775807) (ha : 513 < n → ∃ b off, a = some ⟨b, off, none⟩) :
    Calls Takg.prog 20 #[.slice a n cap, .int .i64 513] w fun e w' => ∃ cap', e = .returned (.slice a (min n 513) cap') ∧ w' = w := by
  by_cases h : 513 < n
  · obtain ⟨b, off, rfl⟩ := ha h
    have e : min n 513 = 513 := by omega
    rw [e]
    clear e ha
    go_enter Takg.func20, Takg.ntmps20
    go_wp2_with fail
    go_ret
    exact ⟨_, rfl, rfl⟩
  · have e : min n 513 = n := by omega
    rw [e]
    clear e ha
    go_enter Takg.func20, Takg.ntmps20
    go_wp2_with fail
    go_ret
    exact ⟨_, rfl, rfl⟩
end Cx
end Go.Proofs.Ygctak
