/-
  Walks: (*Acc).highest, field, Bit, anyBelow, of an accumulator that is not negative.
-/
import Derived.Test.YgctakDoorAcc5
import Derived.Test.YgctakDoorJn
namespace Go.Proofs.YgctakDoor
open Go.RowKit
set_option linter.unusedVariables false
set_option linter.unusedSimpArgs false
attribute [local go_sem ↓] Go.wp_at_zero Go.wp_at_succ
namespace Rd
open Ac Rn Fl Bt

theorem word_nat (z i : Nat) : word (z : Int) i = ((z / 2 ^ (64 * i) % 18446744073709551616 : Nat) : Int) := by
  unfold word
  rw [← Fl.ipow, ← Int.natCast_ediv]
  omega

set_option exponentiation.threshold 5000 in
theorem below_of_words (z m : Nat) (hz : z < 2 ^ (64 * 68)) (h : ∀ j, m < j → j < 68 → word (z : Int) j = 0) : ∀ d, d + (m + 1) ≤ 68 → z < 2 ^ (64 * (68 - d)) := by
  intro d
  induction d with
  | zero => intro _; exact hz
  | succ d ih =>
    intro hd
    have h1 := ih (by omega)
    obtain ⟨j, hj⟩ : ∃ j, 68 - d = j + 1 := ⟨67 - d, by omega⟩
    rw [hj] at h1
    have h2 := h j (by omega) (by omega)
    rw [word_nat] at h2
    rw [show 68 - (d + 1) = j by omega]
    have h3 : z / 2 ^ (64 * j) < 18446744073709551616 := by
      rw [Nat.div_lt_iff_lt_mul (Nat.two_pow_pos _), show (18446744073709551616 : Nat) = 2 ^ 64 from rfl, ← Nat.pow_add]
      rw [show 64 * (j + 1) = 64 + 64 * j by omega] at h1
      exact h1
    rw [Nat.mod_eq_of_lt h3] at h2
    have h4 : z / 2 ^ (64 * j) = 0 := by omega
    exact (Nat.div_eq_zero_iff_lt (Nat.two_pow_pos _)).1 h4

theorem highest_pure (z m u : Nat) (hz : z < 2 ^ (64 * 68)) (hm : m < 68) (h : ∀ j, m < j → j < 68 → word (z : Int) j = 0) (hu : word (z : Int) m = (u : Int)) (hu0 : u ≠ 0) : u < 2 ^ 64 ∧ z.log2 = 64 * m + u.log2 := by
  have h1 := below_of_words z m hz h (67 - m) (by omega)
  rw [show 68 - (67 - m) = m + 1 by omega] at h1
  rw [word_nat] at hu
  have h3 : z / 2 ^ (64 * m) < 18446744073709551616 := by
    rw [Nat.div_lt_iff_lt_mul (Nat.two_pow_pos _), show (18446744073709551616 : Nat) = 2 ^ 64 from rfl, ← Nat.pow_add]
    rw [show 64 * (m + 1) = 64 + 64 * m by omega] at h1
    exact h1
  rw [Nat.mod_eq_of_lt h3] at hu
  have hu2 : z / 2 ^ (64 * m) = u := by omega
  refine ⟨by omega, ?_⟩
  have hz0 : z ≠ 0 := by intro h; subst h; simp at hu2; omega
  have l1 := Nat.log2_self_le hu0
  have l2 : u < 2 ^ (u.log2 + 1) := Nat.lt_log2_self
  rw [Nat.log2_eq_iff hz0]
  constructor
  · rw [Nat.add_comm, Nat.pow_add]
    rw [← hu2] at l1
    exact (Nat.le_div_iff_mul_le (Nat.two_pow_pos _)).1 (by rw [hu2] at l1 ⊢; exact l1)
  · rw [show 64 * m + u.log2 + 1 = u.log2 + 1 + 64 * m by omega, Nat.pow_add]
    exact (Nat.div_lt_iff_lt_mul (Nat.two_pow_pos _)).1 (by rw [hu2]; exact l2)

/-- The place of the highest 1. -/
def hi (z : Nat) : Int := if z = 0 then -1 else (z.log2 : Int)
set_option exponentiation.threshold 5000 in
theorem lt_whole {z : Nat} (h : (z : Int) < half) : z < 2 ^ (64 * 68) := by
  have h2 := half_two
  have h3 := half_pos
  have h4 : (z : Int) < ((2 ^ (64 * 68) : Nat) : Int) := by rw [Fl.ipow, ← h2]; omega
  exact Int.ofNat_lt.1 h4

set_option maxHeartbeats 1000000 in
theorem highest_any (b o t : Nat) (p s : List Value) (z : Nat) (w : World) (hz : (z : Int) < half) (ha : At w b o t p (W (z : Int)) s) :
    Calls Takg.prog 19 #[.pointer (some ⟨b, o, none⟩)] w fun e w' => e = .returned (.int .i64 (hi z)) ∧ w' = w := by
  have hcell := fun j hj => ha.cell j hj
  have HC := hide hcell
  have hz2 := lt_whole hz
  have HP := hide (highest_pure z · · hz2)
  have HZ : Hid ((∀ j, j < 68 → word (z : Int) j = 0) → z = 0) := fun h => by
    have hf : Fits (z : Int) := ⟨by have := half_pos; omega, hz⟩
    have := fits_zero hf (by omega) h
    omega
  clear hcell ha hz hz2
  go_enter Takg.func19, Takg.ntmps19
  go_wp2_with fail
  go_loop [3] (fun i => ∃ k : Nat, i = .int .i64 ((k : Int) - 1) ∧ k ≤ 68 ∧ Hid (∀ j, k ≤ j → j < 68 → word (z : Int) j = 0)) (fun i => (intOf i + 1).toNat)
  case atStart => exact ⟨68, rfl, by omega, fun j h1 h2 => by omega⟩
  case round =>
    obtain ⟨k, rfl, hk, HW⟩ := hrel
    by_cases hk0 : k = 0
    · subst hk0
      have hz0 := HZ.out (fun j hj => HW.out j (by omega) hj)
      have HZ0 : Hid (hi z = -1) := by unfold Hid hi; rw [if_pos hz0]
      clear hz0
      go_wp2_with fail
      go_ret
      exact ⟨by rw [HZ0.out]; rfl, rfl⟩
    · obtain ⟨m, rfl⟩ : ∃ m, k = m + 1 := ⟨k - 1, by omega⟩
      rw [show (((m + 1 : Nat) : Int) - 1) = (m : Int) by omega]
      have k0 := HC.out m (by omega)
      have ub := word_bd (z : Int) m
      obtain ⟨u, hu⟩ : ∃ u : Nat, word (z : Int) m = (u : Int) := ⟨(word (z : Int) m).toNat, by omega⟩
      rw [hu] at k0 ub
      by_cases hu0 : u = 0
      · subst hu0
        have HW2 : Hid (∀ j, m ≤ j → j < 68 → word (z : Int) j = 0) := fun j h1 h2 => by
          by_cases e : j = m
          · subst e; exact hu
          · exact HW.out j (by omega) h2
        clear HW hu
        go_wp2_with fail
        go_round
        case rel => exact ⟨m, by go_num, by omega, HW2⟩
        case measure => simp [intOf]
      · have hne : ((u : Int) != 0) = true := by rw [bne_iff_ne]; omega
        obtain ⟨hu64, hlog⟩ := HP.out m u (by omega) (fun j h1 h2 => HW.out j (by omega) h2) hu hu0
        have hz0 : z ≠ 0 := by
          intro e; subst e
          simp [word] at hu
          omega
        have HL := hide (fun W : World => lengthA_any u W hu64 hu0)
        have hl64 : u.log2 < 64 := (Nat.log2_lt hu0).2 hu64
        have HLOG : Hid (hi z = 64 * (m : Int) + u.log2) := by unfold Hid hi; rw [if_neg hz0, hlog]; omega
        generalize u.log2 = l at *
        obtain ⟨ub0, ub1⟩ := ub
        clear hu hlog hz0 HW hu0 hu64
        go_wp2_with fail
        refine (HL.out _).mono ?_
        rintro e w' ⟨rfl, rfl⟩
        go_wp2_with fail
        go_ret
        refine ⟨?_, rfl⟩
        show Ending.returned (Value.int .i64 (64 * (m : Int) + ((l : Int) + 1) - 1)) = _
        rw [HLOG.out, show 64 * (m : Int) + ((l : Int) + 1) - 1 = 64 * (m : Int) + l by omega]
end Rd
end Go.Proofs.YgctakDoor
