/-
  Walk: (*Acc).Round.
-/
import Derived.Test.YgctakDoorRd2
namespace Go.Proofs.YgctakDoor
open Go.RowKit
set_option linter.unusedVariables false
set_option linter.unusedSimpArgs false
attribute [local go_sem ↓] Go.wp_at_zero Go.wp_at_succ

theorem Chg.news {S T : List Nat} {a b c : World} (h : Chg T a b) (k : Chg S b c) (hs : ∀ x, x ∈ S → x ∈ T ∨ a.heap.size ≤ x) : Chg T a c :=
  ⟨k.os.trans h.os, k.tape.trans h.tape, k.output.trans h.output, Nat.le_trans h.size k.size, fun i hi hn => (k.block i (Nat.lt_of_lt_of_le hi h.size) (fun hx => by
    rcases hs i hx with h1 | h1
    · exact hn h1
    · omega)).trans (h.block i hi hn)⟩

namespace Rd
open Ac Rn Fl Bt Jn

theorem round_bit (y l : Nat) (hl : 1 ≤ l) : cu y l = y / 2 ^ l + if (y / 2 ^ (l - 1) % 2 = 1 ∧ (y / 2 ^ l % 2 = 1 ∨ y % 2 ^ (l - 1) ≠ 0)) then 1 else 0 := by
  unfold cu
  congr 1
  obtain ⟨k, rfl⟩ : ∃ k, l = k + 1 := ⟨l - 1, by omega⟩
  rw [show k + 1 - 1 = k by omega]
  have e : y % 2 ^ (k + 1) = y % 2 ^ k + 2 ^ k * (y / 2 ^ k % 2) := by rw [Nat.pow_succ, Nat.mod_mul]
  have hm := Nat.mod_lt y (Nat.two_pow_pos k)
  rw [e]
  generalize y / 2 ^ (k + 1) % 2 = odd at *
  have hp : 2 ^ (k + 1) = 2 ^ k * 2 := Nat.pow_succ 2 k
  rw [hp]
  generalize y % 2 ^ k = r at *
  generalize 2 ^ k = H at *
  have hb : y / H % 2 = 0 ∨ y / H % 2 = 1 := by omega
  rcases hb with hb | hb
  · rw [hb, Nat.mul_zero, Nat.add_zero]
    rw [if_neg (by omega), if_neg (by omega)]
  · rw [hb, Nat.mul_one]
    by_cases h2 : odd = 1 ∨ r ≠ 0
    · rw [if_pos (by omega), if_pos ⟨rfl, h2⟩]
    · rw [if_neg (by omega), if_neg (fun h => h2 h.2)]

/-- What Round meets of n units. -/
theorem round_pure (n y L : Nat) (hn : n ≠ 0) (hy : y = n * 2 ^ 1074) (hL : L = n.log2 - 52) :
    y.log2 = n.log2 + 1074 ∧ y / 2 ^ (L + 1074) % 2 ^ 53 = n / 2 ^ L ∧ n / 2 ^ L < 2 ^ 53 ∧
    cu n L = n / 2 ^ L + (if (y / 2 ^ (L + 1073) % 2 = 1 ∧ (n / 2 ^ L % 2 = 1 ∨ y % 2 ^ (L + 1073) ≠ 0)) then 1 else 0) ∧ cu n L ≠ 0 ∧ cu n L ≤ 2 ^ 53 := by
  have hlog : y.log2 = n.log2 + 1074 := by rw [hy]; exact log2_mul_pow n 1074 hn
  have hlt : n < 2 ^ 53 * 2 ^ L := by
    rw [← Nat.pow_add, hL]
    exact Nat.lt_of_lt_of_le Nat.lt_log2_self (Nat.pow_le_pow_right (by omega) (by omega))
  have hq : n / 2 ^ L < 2 ^ 53 := (Nat.div_lt_iff_lt_mul (Nat.two_pow_pos L)).2 hlt
  have hdiv : y / 2 ^ (L + 1074) = n / 2 ^ L := by
    rw [hy, Nat.pow_add]; exact Nat.mul_div_mul_right _ _ (Nat.two_pow_pos 1074)
  have hge : 2 ^ L ≤ n := by
    refine Nat.le_trans ?_ (Nat.log2_self_le hn)
    exact Nat.pow_le_pow_right (by omega) (by omega)
  have hq0 : 1 ≤ n / 2 ^ L := (Nat.le_div_iff_mul_le (Nat.two_pow_pos L)).2 (by omega)
  have hcu : cu n L = cu y (L + 1074) := by rw [hy]; exact (cu_scale n L 1074).symm
  have hrb := round_bit y (L + 1074) (by omega)
  rw [hdiv, show L + 1074 - 1 = L + 1073 by omega] at hrb
  refine ⟨hlog, by rw [hdiv, Nat.mod_eq_of_lt hq], hq, by rw [hcu, hrb], ?_, ?_⟩
  · unfold cu; omega
  · unfold cu; split <;> omega

theorem is_of (neg : Bool) (n : Nat) (N : Int) (r : Nat) (hN : N = sg neg n) (h0 : n ≠ 0) (hf : Finite r) (hr : r < 2 ^ 64) (hv : V r = sg neg ((cu n (n.log2 - 52) * 2 ^ (n.log2 - 52) : Nat) : Int)) : Is r N := by
  refine ⟨hf, hr, ?_, fun h => ?_⟩
  · rw [hv, hN, RN_sg, rnN_cu]
  · exfalso
    rw [hN] at h
    cases neg <;> simp [sg] at h <;> omega
end Rd
end Go.Proofs.YgctakDoor
