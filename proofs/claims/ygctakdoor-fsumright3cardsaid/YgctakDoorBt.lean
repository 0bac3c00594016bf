/-
  Walks: acc.length, fbits.length, fbits.zeros (math/bits.Len64, TrailingZeros64).
-/
import Derived.Test.YgctakDoorLen
import Derived.Test.YgctakDoorAcc1
namespace Go.Proofs.YgctakDoor
open Go.RowKit
set_option linter.unusedVariables false
set_option linter.unusedSimpArgs false
attribute [local go_sem ↓] Go.wp_at_zero Go.wp_at_succ
namespace Bt

theorem bitLenAux_log2 : ∀ (f x : Nat), x < 2 ^ f → Lib.bitLenAux f x = if x = 0 then 0 else x.log2 + 1
  | 0, x, h => by
    have : x = 0 := by simpa using h
    subst this; rfl
  | f + 1, x, h => by
    simp only [Lib.bitLenAux]
    by_cases h0 : x = 0
    · rw [if_pos h0, if_pos h0]
    · rw [if_neg h0, if_neg h0, bitLenAux_log2 f (x / 2) (by rw [Nat.pow_succ] at h; omega)]
      by_cases h1 : x = 1
      · subst h1; rfl
      · rw [if_neg (by omega)]
        have : x.log2 = (x / 2).log2 + 1 := by rw [Nat.log2_def x, if_pos (by omega)]
        omega
theorem bitLen_log2 (x : Nat) (h : x < 2 ^ 64) (h0 : x ≠ 0) : Lib.bitLen x = x.log2 + 1 := by
  unfold Lib.bitLen
  rw [bitLenAux_log2 64 x h, if_neg h0]

theorem lengthA_any (x : Nat) (w : World) (h : x < 2 ^ 64) (h0 : x ≠ 0) : Calls Takg.prog 37 #[.int .u64 x] w fun e w' => e = .returned (.int .i64 ((x.log2 + 1 : Nat) : Int)) ∧ w' = w := by
  have HL := hide (Takg.bits_Len64 x w (by omega) (by omega))
  rw [Int.toNat_natCast, bitLen_log2 x h h0] at HL
  generalize x.log2 + 1 = l at *
  go_enter Takg.func37, Takg.ntmps37
  go_wp2_with fail
  refine HL.out.mono ?_
  rintro e w' ⟨rfl, rfl⟩
  go_wp2_with fail
  go_ret
  exact ⟨rfl, rfl⟩
theorem lengthF_any (x : Nat) (w : World) (h : x < 2 ^ 64) (h0 : x ≠ 0) : Calls Takg.prog 48 #[.int .u64 x] w fun e w' => e = .returned (.int .i64 ((x.log2 + 1 : Nat) : Int)) ∧ w' = w := by
  have HL := hide (Takg.bits_Len64 x w (by omega) (by omega))
  rw [Int.toNat_natCast, bitLen_log2 x h h0] at HL
  generalize x.log2 + 1 = l at *
  go_enter Takg.func48, Takg.ntmps48
  go_wp2_with fail
  refine HL.out.mono ?_
  rintro e w' ⟨rfl, rfl⟩
  go_wp2_with fail
  go_ret
  exact ⟨rfl, rfl⟩

/-! ### the lowest 1 -/
theorem low_one (x k m : Nat) (hx : x = 2 ^ k * (2 * m + 1)) (h : x < 2 ^ 64) : x &&& (2 ^ 64 - x) = 2 ^ k := by
  have hp : 0 < 2 ^ k := Nat.two_pow_pos k
  have hx1 : x = 2 ^ (k + 1) * m + 2 ^ k := by rw [hx, Nat.mul_add, Nat.mul_one, Nat.pow_succ, ← Nat.mul_assoc]
  have hpos : 0 < x := by omega
  have hk : k < 64 := by
    rcases Nat.lt_or_ge k 64 with h1 | h1
    · exact h1
    · have := Nat.pow_le_pow_right (n := 2) (by omega) h1
      have h2 : 2 ^ k * 1 ≤ 2 ^ k * (2 * m + 1) := Nat.mul_le_mul_left _ (by omega)
      omega
  have h2 : 2 ^ 64 - x = 2 ^ 64 - (x - 1 + 1) := by rw [Nat.sub_add_cancel hpos]
  apply Nat.eq_of_testBit_eq
  intro i
  rw [Nat.testBit_and, h2, Nat.testBit_two_pow_sub_succ (by omega), Nat.testBit_two_pow]
  rcases Nat.lt_trichotomy i k with h3 | h3 | h3
  · have hb : x.testBit i = false := by
      rw [Nat.testBit_eq_decide_div_mod_eq, decide_eq_false]
      obtain ⟨d, rfl⟩ : ∃ d, k = i + 1 + d := ⟨k - i - 1, by omega⟩
      have e : x = 2 ^ i * (2 * (2 ^ d * (2 * m + 1))) := by
        rw [hx, show i + 1 + d = i + (1 + d) by omega, Nat.pow_add, Nat.pow_add, Nat.pow_one, Nat.mul_assoc, Nat.mul_assoc]
      rw [e, Nat.mul_div_cancel_left _ (Nat.two_pow_pos i)]
      omega
    rw [hb, decide_eq_false (show ¬ k = i by omega)]; rfl
  · subst h3
    have b1 : x.testBit i = true := by
      rw [Nat.testBit_eq_decide_div_mod_eq, decide_eq_true_eq, hx, Nat.mul_div_cancel_left _ hp]
      omega
    have b2 : (x - 1).testBit i = false := by
      rw [Nat.testBit_eq_decide_div_mod_eq, decide_eq_false]
      have e : (x - 1) / 2 ^ i = 2 * m := by
        rw [Nat.div_eq_of_lt_le (k := 2 * m)]
        · rw [hx, Nat.mul_comm]; rw [Nat.mul_add] at *; omega
        · rw [hx, Nat.mul_comm (2 * m + 1)]; omega
      omega
    rw [b1, b2, decide_eq_true rfl, decide_eq_true hk]; rfl
  · have e1 : x / 2 ^ (k + 1) = m := by
      rw [hx1, Nat.mul_add_div (Nat.two_pow_pos _), Nat.div_eq_of_lt (by rw [Nat.pow_succ]; omega), Nat.add_zero]
    have e2 : (x - 1) / 2 ^ (k + 1) = m := by
      rw [hx1, Nat.add_sub_assoc hp, Nat.mul_add_div (Nat.two_pow_pos _), Nat.div_eq_of_lt (by rw [Nat.pow_succ]; omega), Nat.add_zero]
    obtain ⟨d, rfl⟩ : ∃ d, i = k + 1 + d := ⟨i - k - 1, by omega⟩
    have b : x.testBit (k + 1 + d) = (x - 1).testBit (k + 1 + d) := by
      rw [Nat.testBit_eq_decide_div_mod_eq, Nat.testBit_eq_decide_div_mod_eq, Nat.pow_add, ← Nat.div_div_eq_div_mul, ← Nat.div_div_eq_div_mul, e1, e2]
    rw [b, decide_eq_false (show ¬ k = k + 1 + d by omega)]
    cases (x - 1).testBit (k + 1 + d) <;> simp

theorem odd_part : ∀ x : Nat, x ≠ 0 → ∃ k m, x = 2 ^ k * (2 * m + 1)
  | x, h => by
    by_cases h1 : x % 2 = 1
    · exact ⟨0, x / 2, by omega⟩
    · obtain ⟨k, m, e⟩ := odd_part (x / 2) (by omega)
      refine ⟨k + 1, m, ?_⟩
      rw [Nat.pow_succ, Nat.mul_comm (2 ^ k) 2, Nat.mul_assoc, ← e]
      omega
  termination_by x => x

/-- The table. -/
def tab : List Nat := [0, 1, 56, 2, 57, 49, 28, 3, 61, 58, 42, 50, 38, 29, 17, 4, 62, 47, 59, 36, 45, 43, 51, 22, 53, 39, 33, 30, 24, 18, 12, 5, 63, 55, 48, 27, 60, 41, 37, 16, 46, 35, 44, 21, 52, 32, 23, 11, 54, 26, 40, 15, 34, 20, 31, 10, 25, 14, 19, 9, 13, 8, 7, 6]
theorem tab_at : ∀ k : Fin 64, 2 ^ k.val * 285870213051353865 % 18446744073709551616 / 288230376151711744 < 64 ∧ tab.getD (2 ^ k.val * 285870213051353865 % 18446744073709551616 / 288230376151711744) 0 = k.val := by decide +kernel

/-- The package-level variable holds the table. -/
def Tab (w : World) : Prop := 1 < w.heap.size ∧ ∀ j, j < 64 → w.cell? ⟨1, j, none⟩ = some (.int .u8 (tab.getD j 0 : Nat))
theorem Tab.chg {w w2 : World} (h : Tab w) {S : List Nat} (hc : Chg S w w2) (hn : 1 ∉ S) : Tab w2 :=
  ⟨Nat.lt_of_lt_of_le h.1 hc.size, fun j hj => by rw [World.cell?_of_block (w := w) (hc.block 1 h.1 hn)]; exact h.2 j hj⟩

theorem tz_any (x k m : Nat) (w : World) (hx : x = 2 ^ k * (2 * m + 1)) (h : x < 2 ^ 64) (ht : Tab w) :
    Calls Takg.prog 51 #[.int .u64 x] w fun e w' => e = .returned (.int .i64 (k : Int)) ∧ w' = w := by
  have hlow := low_one x k m hx h
  have hpos : 0 < x := by rw [hx]; exact Nat.mul_pos (Nat.two_pow_pos k) (by omega)
  have hk : k < 64 := by
    rcases Nat.lt_or_ge k 64 with h1 | h1
    · exact h1
    · have := Nat.pow_le_pow_right (n := 2) (by omega) h1
      have h2 : 2 ^ k * 1 ≤ 2 ^ k * (2 * m + 1) := Nat.mul_le_mul_left _ (by omega)
      omega
  have hkp : 2 ^ k < 2 ^ 64 := Nat.pow_lt_pow_right (by omega) hk
  obtain ⟨j1, j2⟩ := tab_at ⟨k, hk⟩
  simp only at j1 j2
  have e1 : IntKind.u64.wrap (-(x : Int)) = ((2 ^ 64 - x : Nat) : Int) := by rw [IntKind.wrap_u64]; omega
  have e2 : bits .and .u64 (x : Int) ((2 ^ 64 - x : Nat) : Int) = ((2 ^ k : Nat) : Int) := by
    rw [bits_and_u64_nat _ _ (by omega) (by omega), hlow]
  obtain ⟨N, hN⟩ : ∃ N, N = 2 ^ 64 - x := ⟨_, rfl⟩
  obtain ⟨A, hA⟩ : ∃ A, A = 2 ^ k := ⟨_, rfl⟩
  obtain ⟨B, hB⟩ : ∃ B, B = A * 285870213051353865 % 18446744073709551616 := ⟨_, rfl⟩
  obtain ⟨j, hj⟩ : ∃ j, j = B / 288230376151711744 := ⟨_, rfl⟩
  rw [← hN] at e1 e2
  rw [← hA] at e2 j1 j2
  rw [← hB, ← hj] at j1 j2
  have e3 : IntKind.u64.wrap ((A : Int) * 285870213051353865) = (B : Int) := by rw [IntKind.wrap_u64]; omega
  have e4 : (B : Int) / 288230376151711744 = (j : Int) := by omega
  have hc := ht.2 j j1
  rw [j2] at hc
  have hx0 : ((x : Int) == 0) = false := by rw [beq_eq_false_iff_ne]; omega
  have hx1 : (x : Int) ≤ 18446744073709551615 := by omega
  have hk8 : (k : Int) ≤ 63 := by omega
  clear hlow hkp hN hA hB hj j2 hx
  go_enter Takg.func51, Takg.ntmps51
  go_wp2_with fail
  go_ret
  exact ⟨rfl, rfl⟩
end Bt
end Go.Proofs.YgctakDoor
