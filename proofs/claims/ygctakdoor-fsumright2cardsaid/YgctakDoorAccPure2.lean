/-
  Words of integers: borrows, a number put at a place, the bits of a number. No Go in sight.
-/
import Derived.Test.YgctakDoorAccPure
set_option linter.unusedVariables false
set_option linter.unusedSimpArgs false
namespace Go.Proofs.YgctakDoor.Ac

/-- The borrow into word i of x - y. -/
def borrow (x y : Int) (i : Nat) : Int := -((x % 2 ^ (64 * i) - y % 2 ^ (64 * i)) / 2 ^ (64 * i))

theorem borrow_zero (x y : Int) : borrow x y 0 = 0 := by simp [borrow]

theorem borrow_next (x y : Int) (i : Nat) : borrow x y (i + 1) = -((word x i - word y i - borrow x y i) / 18446744073709551616) := by
  unfold borrow word
  rw [pow_next]
  have hB := pow_pos (64 * i)
  generalize (2 : Int) ^ (64 * i) = B at *
  rw [emod_two x B hB, emod_two y B hB, ediv_two hB (by decide)]
  congr 2
  rw [show x % B + B * (x / B % 18446744073709551616) - (y % B + B * (y / B % 18446744073709551616)) = (x % B - y % B) + B * (x / B % 18446744073709551616 - y / B % 18446744073709551616) by rw [Int.mul_sub]; omega]
  rw [Int.add_mul_ediv_left _ _ (by omega)]
  omega

theorem word_sub (x y : Int) (i : Nat) : word (x - y) i = (word x i - word y i - borrow x y i) % 18446744073709551616 := by
  unfold borrow word
  have hB := pow_pos (64 * i)
  generalize (2 : Int) ^ (64 * i) = B at *
  have h2 := Int.emod_add_mul_ediv x B
  have h3 := Int.emod_add_mul_ediv y B
  have : (x - y) / B = (x % B - y % B) / B + (x / B - y / B) := by
    conv => lhs; rw [← h2, ← h3]
    rw [show x % B + B * (x / B) - (y % B + B * (y / B)) = (x % B - y % B) + B * (x / B - y / B) by rw [Int.mul_sub]; omega]
    rw [Int.add_mul_ediv_left _ _ (by omega)]
  rw [this]
  omega

theorem borrow_bd (x y : Int) (i : Nat) : 0 ≤ borrow x y i ∧ borrow x y i ≤ 1 := by
  unfold borrow
  have hB := pow_pos (64 * i)
  generalize (2 : Int) ^ (64 * i) = B at *
  have h1 := Int.emod_nonneg x (show B ≠ 0 by omega)
  have h2 := Int.emod_lt_of_pos x hB
  have h3 := Int.emod_nonneg y (show B ≠ 0 by omega)
  have h4 := Int.emod_lt_of_pos y hB
  have h5 : (x % B - y % B) / B < 1 := Int.ediv_lt_of_lt_mul hB (by omega)
  have h6 : -1 ≤ (x % B - y % B) / B := Int.le_ediv_of_mul_le hB (by omega)
  omega

/-! ### a number of one word at place 64 * q + s -/
theorem put_low (lo : Int) (q s i : Nat) (h : i < q) : word (lo * 2 ^ (64 * q + s)) i = 0 := by
  rw [Nat.add_comm, Int.pow_add, ← Int.mul_assoc]
  exact word_below _ q i h
theorem put_at (lo : Int) (q s : Nat) : word (lo * 2 ^ (64 * q + s)) q = lo * 2 ^ s % 18446744073709551616 := by
  rw [Nat.add_comm, Int.pow_add, ← Int.mul_assoc, word_up _ q q (Nat.le_refl q), Nat.sub_self]
  simp [word]
theorem put_next (lo : Int) (q s : Nat) (h0 : 0 ≤ lo) (h1 : lo ≤ 18446744073709551615) (hs : s < 64) : word (lo * 2 ^ (64 * q + s)) (q + 1) = lo / 2 ^ (64 - s) := by
  rw [Nat.add_comm (64 * q) s, Int.pow_add, ← Int.mul_assoc, word_up _ q (q + 1) (by omega), show q + 1 - q = 1 by omega]
  unfold word
  have e : (2 : Int) ^ (64 * 1) = 2 ^ (64 - s) * 2 ^ s := by rw [← Int.pow_add]; congr 1; omega
  rw [e, Int.mul_ediv_mul_of_pos_left _ _ (pow_pos _)]
  apply Int.emod_eq_of_lt
  · exact Int.ediv_nonneg h0 (Int.le_of_lt (pow_pos _))
  · apply Int.ediv_lt_of_lt_mul (pow_pos _)
    have := pow_pos (64 - s)
    have h3 : (18446744073709551616 : Int) * 1 ≤ 18446744073709551616 * 2 ^ (64 - s) := Int.mul_le_mul_of_nonneg_left (by omega) (by decide)
    omega
theorem put_high (lo : Int) (q s i : Nat) (h0 : 0 ≤ lo) (h1 : lo ≤ 18446744073709551615) (hs : s < 64) (h : q + 2 ≤ i) : word (lo * 2 ^ (64 * q + s)) i = 0 := by
  rw [Nat.add_comm (64 * q) s, Int.pow_add, ← Int.mul_assoc, word_up _ q i (by omega)]
  unfold word
  have e : lo * 2 ^ s / 2 ^ (64 * (i - q)) = 0 := by
    apply Int.ediv_eq_zero_of_lt (Int.mul_nonneg h0 (Int.le_of_lt (pow_pos _)))
    have h2 : (2 : Int) ^ (64 * (i - q)) = 2 ^ (64 * (i - q) - s) * 2 ^ s := by rw [← Int.pow_add]; congr 1; omega
    rw [h2]
    apply Int.mul_lt_mul_of_pos_right _ (pow_pos _)
    have h3 : (2 : Int) ^ (64 * (i - q) - s) = 2 ^ (64 * (i - q) - s - 64) * 2 ^ 64 := by rw [← Int.pow_add]; congr 1; omega
    rw [h3]
    have h4 := Int.mul_le_mul_of_nonneg_right (show (1 : Int) ≤ 2 ^ (64 * (i - q) - s - 64) from pow_pos _) (show (0 : Int) ≤ 2 ^ 64 by decide)
    omega
  rw [e]; rfl

theorem carry_low (z X : Int) (q : Nat) (h : ∀ i, i < q → word X i = 0) : carry z X q = 0 ∧ ∀ i, i < q → word (z + X) i = word z i := by
  have key : ∀ i, i ≤ q → carry z X i = 0 := by
    intro i
    induction i with
    | zero => intro _; exact carry_zero _ _
    | succ i ih =>
      intro hi
      rw [carry_next, ih (by omega), h i (by omega)]
      have := word_bd z i
      omega
  refine ⟨key q (Nat.le_refl q), fun i hi => ?_⟩
  rw [word_add, key i (by omega), h i hi]
  have := word_bd z i
  omega
theorem carry_high (z X : Int) (k : Nat) (hc : carry z X k = 0) (h : ∀ i, k ≤ i → word X i = 0) : ∀ i, k ≤ i → carry z X i = 0 ∧ word (z + X) i = word z i := by
  have key : ∀ d, carry z X (k + d) = 0 := by
    intro d
    induction d with
    | zero => exact hc
    | succ d ih =>
      rw [← Nat.add_assoc, carry_next, ih, h _ (by omega)]
      have := word_bd z (k + d)
      omega
  intro i hi
  obtain ⟨d, rfl⟩ : ∃ d, i = k + d := ⟨i - k, by omega⟩
  refine ⟨key d, ?_⟩
  rw [word_add, key d, h _ hi]
  have := word_bd z (k + d)
  omega
theorem borrow_low (z X : Int) (q : Nat) (h : ∀ i, i < q → word X i = 0) : borrow z X q = 0 ∧ ∀ i, i < q → word (z - X) i = word z i := by
  have key : ∀ i, i ≤ q → borrow z X i = 0 := by
    intro i
    induction i with
    | zero => intro _; exact borrow_zero _ _
    | succ i ih =>
      intro hi
      rw [borrow_next, ih (by omega), h i (by omega)]
      have := word_bd z i
      omega
  refine ⟨key q (Nat.le_refl q), fun i hi => ?_⟩
  rw [word_sub, key i (by omega), h i hi]
  have := word_bd z i
  omega
theorem borrow_high (z X : Int) (k : Nat) (hc : borrow z X k = 0) (h : ∀ i, k ≤ i → word X i = 0) : ∀ i, k ≤ i → borrow z X i = 0 ∧ word (z - X) i = word z i := by
  have key : ∀ d, borrow z X (k + d) = 0 := by
    intro d
    induction d with
    | zero => exact hc
    | succ d ih =>
      rw [← Nat.add_assoc, borrow_next, ih, h _ (by omega)]
      have := word_bd z (k + d)
      omega
  intro i hi
  obtain ⟨d, rfl⟩ : ∃ d, i = k + d := ⟨i - k, by omega⟩
  refine ⟨key d, ?_⟩
  rw [word_sub, key d, h _ hi]
  have := word_bd z (k + d)
  omega

end Go.Proofs.YgctakDoor.Ac
