/-
  Sums; bits turned round; what Reverse leaves. No Go in sight.
-/
import Derived.Test.YgctakFt2
import Derived.Test.YgctakPt10
set_option linter.unusedVariables false
set_option linter.unusedSimpArgs false
namespace Go.Proofs.Ygctak.Ft
open Fl Sh

/-- The sum of the first n. -/
def sm (f : Nat → Int) : Nat → Int
  | 0 => 0
  | n + 1 => sm f n + f n

theorem sm_congr {f g : Nat → Int} : ∀ {n : Nat}, (∀ m, m < n → f m = g m) → sm f n = sm g n
  | 0, _ => rfl
  | n + 1, h => by simp only [sm]; rw [sm_congr (fun m hm => h m (by omega)), h n (by omega)]
theorem sm_add (f g : Nat → Int) : ∀ n, sm (fun m => f m + g m) n = sm f n + sm g n
  | 0 => rfl
  | n + 1 => by simp only [sm]; rw [sm_add f g n]; omega
theorem sm_sub (f g : Nat → Int) : ∀ n, sm (fun m => f m - g m) n = sm f n - sm g n
  | 0 => rfl
  | n + 1 => by simp only [sm]; rw [sm_sub f g n]; omega
theorem sm_mul (c : Int) (f : Nat → Int) : ∀ n, sm (fun m => c * f m) n = c * sm f n
  | 0 => by simp [sm]
  | n + 1 => by simp only [sm]; rw [sm_mul c f n, Int.mul_add]
theorem sm_neg (f : Nat → Int) : ∀ n, sm (fun m => -f m) n = -sm f n
  | 0 => rfl
  | n + 1 => by simp only [sm]; rw [sm_neg f n]; omega
theorem sm_zero (n : Nat) : sm (fun _ => 0) n = 0 := by
  induction n with
  | zero => rfl
  | succ n ih => simp only [sm]; omega
theorem sm_two (f : Nat → Int) : ∀ n, sm f (2 * n) = sm (fun m => f (2 * m)) n + sm (fun m => f (2 * m + 1)) n
  | 0 => rfl
  | n + 1 => by
    rw [show 2 * (n + 1) = 2 * n + 1 + 1 by omega]
    simp only [sm]
    rw [sm_two f n]; omega
theorem sm_le {f : Nat → Int} {g : Nat → Nat} : ∀ {n : Nat}, (∀ m, m < n → (f m).natAbs ≤ g m) → (sm f n).natAbs ≤ (sm (fun m => (g m : Int)) n).toNat
  | 0, _ => by simp [sm]
  | n + 1, h => by
    have h1 := sm_le (f := f) (g := g) (n := n) (fun m hm => h m (by omega))
    have h2 := h n (by omega)
    have h3 : 0 ≤ sm (fun m => (g m : Int)) n := by
      clear h h1 h2
      induction n with
      | zero => exact Int.le_refl _
      | succ n ih => simp only [sm]; omega
    simp only [sm]
    omega
theorem sm_bound {f : Nat → Int} {B : Nat} : ∀ {n : Nat}, (∀ m, m < n → (f m).natAbs ≤ B) → (sm f n).natAbs ≤ n * B
  | 0, _ => by simp [sm]
  | n + 1, h => by
    have h1 := sm_bound (f := f) (B := B) (n := n) (fun m hm => h m (by omega))
    have h2 := h n (by omega)
    simp only [sm]
    rw [Nat.add_mul, Nat.one_mul]
    generalize n * B = Q at *
    omega
theorem sm_append (f : Nat → Int) (n : Nat) : ∀ k, sm f (n + k) = sm f n + sm (fun m => f (n + m)) k
  | 0 => by simp [sm]
  | k + 1 => by rw [← Nat.add_assoc]; simp only [sm]; rw [sm_append f n k]; omega
theorem sm_swap (f : Nat → Nat → Int) (n : Nat) : ∀ k, sm (fun i => sm (fun j => f i j) k) n = sm (fun j => sm (fun i => f i j) n) k
  | 0 => by simp only [sm]; exact sm_zero n
  | k + 1 => by
    simp only [sm]
    rw [sm_add (fun i => sm (fun j => f i j) k) (fun i => f i k) n, sm_swap f n k]

/-! ### the bits turned round -/
def rev : Nat → Nat → Nat
  | 0, _ => 0
  | s + 1, b => b % 2 * 2 ^ s + rev s (b / 2)
theorem rev_lt : ∀ s b, rev s b < 2 ^ s
  | 0, b => by simp [rev]
  | s + 1, b => by
    simp only [rev]
    have := rev_lt s (b / 2)
    rw [Nat.pow_succ]
    have h : b % 2 = 0 ∨ b % 2 = 1 := by omega
    rcases h with h | h <;> rw [h] <;> omega
theorem rvGo_rev (i : Nat) : ∀ (f b j : Nat), rvGo i f b j = j * 2 ^ f + rev f (i / 2 ^ b)
  | 0, b, j => by simp [rvGo, rev]
  | f + 1, b, j => by
    simp only [rvGo, rev]
    rw [rvGo_rev i f (b + 1) _, Nat.pow_succ 2 b, ← Nat.div_div_eq_div_mul, Nat.pow_succ 2 f, Nat.add_mul]
    have : 2 * j * 2 ^ f = j * (2 ^ f * 2) := by grind
    omega
theorem rvi_rev (k i : Nat) : rvi k i = rev k i := by
  unfold rvi
  rw [rvGo_rev]
  simp
/-- From the top: the highest bit comes lowest. -/
theorem rev_top : ∀ (s b c : Nat), b < 2 ^ s → c < 2 → rev (s + 1) (c * 2 ^ s + b) = 2 * rev s b + c
  | 0, b, c, hb, hc => by
    have : b = 0 := by simpa using hb
    subst this
    simp only [rev, Nat.pow_zero, Nat.mul_one, Nat.add_zero]
    omega
  | s + 1, b, c, hb, hc => by
    have e1 : (c * 2 ^ (s + 1) + b) % 2 = b % 2 := by rw [Nat.pow_succ, ← Nat.mul_assoc]; omega
    have e2 : (c * 2 ^ (s + 1) + b) / 2 = c * 2 ^ s + b / 2 := by rw [Nat.pow_succ, ← Nat.mul_assoc]; omega
    have hb2 : b / 2 < 2 ^ s := by rw [Nat.pow_succ] at hb; omega
    rw [show rev (s + 1 + 1) (c * 2 ^ (s + 1) + b) = (c * 2 ^ (s + 1) + b) % 2 * 2 ^ (s + 1) + rev (s + 1) ((c * 2 ^ (s + 1) + b) / 2) from rfl, e1, e2, rev_top s (b / 2) c hb2 hc, show rev (s + 1) b = b % 2 * 2 ^ s + rev s (b / 2) from rfl, Nat.pow_succ]
    have : b % 2 * (2 ^ s * 2) = 2 * (b % 2 * 2 ^ s) := by grind
    omega
theorem rev_rev : ∀ (s b : Nat), b < 2 ^ s → rev s (rev s b) = b
  | 0, b, hb => by
    have : b = 0 := by simpa using hb
    subst this; rfl
  | s + 1, b, hb => by
    have hb2 : b / 2 < 2 ^ s := by rw [Nat.pow_succ] at hb; omega
    rw [show rev (s + 1) b = b % 2 * 2 ^ s + rev s (b / 2) from rfl, rev_top s _ _ (rev_lt s _) (by omega), rev_rev s _ hb2]
    omega

/-! ### Reverse -/
theorem getD_set (x : List P) (i j : Nat) (v : P) (hi : i < x.length) : (x.set i v).getD j p0 = if j = i then v else x.getD j p0 := by
  rw [List.getD_eq_getElem?_getD, List.getD_eq_getElem?_getD]
  by_cases h : j = i
  · subst h; rw [List.getElem?_set_self hi, if_pos rfl]; rfl
  · rw [List.getElem?_set_ne (Ne.symm h), if_neg h]
theorem rvL_get (k : Nat) (x0 : List P) (hl : x0.length = 2 ^ k) : ∀ (f i : Nat) (x : List P), x.length = 2 ^ k → f + i = 2 ^ k → (∀ j, j < 2 ^ k → x.getD j p0 = if j < i ∨ rev k j < i then x0.getD (rev k j) p0 else x0.getD j p0) →
    ∀ j, j < 2 ^ k → (rvL k f i x).getD j p0 = x0.getD (rev k j) p0
  | 0, i, x, hx, hf, h, j, hj => by
    simp only [rvL]
    rw [h j hj, if_pos (by omega)]
  | f + 1, i, x, hx, hf, h, j, hj => by
    simp only [rvL]
    have hr := rev_lt k i
    have hi : i < 2 ^ k := by omega
    refine rvL_get k x0 hl f (i + 1) _ (by split; rw [swp_length, hx]; exact hx) (by omega) ?_ j hj
    intro m hm
    rw [rvi_rev]
    have hrr : rev k (rev k i) = i := rev_rev k i hi
    have hrm : rev k (rev k m) = m := rev_rev k m hm
    by_cases hlt : i < rev k i
    · rw [if_pos hlt]
      unfold swp
      rw [getD_set _ _ _ _ (by rw [List.length_set, hx]; exact hr), getD_set _ _ _ _ (by rw [hx]; exact hi)]
      by_cases h1 : m = rev k i
      · subst h1
        rw [if_pos rfl, hrr, if_pos (by omega), h i hi, if_neg (by omega)]
      · rw [if_neg h1]
        by_cases h2 : m = i
        · subst h2
          rw [if_pos rfl, if_pos (by omega), h _ hr, if_neg (by omega)]
        · rw [if_neg h2, h m hm]
          have h3 : rev k m ≠ i := fun e => h1 (by rw [← e, hrm])
          by_cases h4 : m < i ∨ rev k m < i
          · rw [if_pos h4, if_pos (by omega)]
          · rw [if_neg h4, if_neg (by omega)]
    · rw [if_neg hlt, h m hm]
      by_cases h2 : m = i
      · subst h2
        by_cases h4 : rev k m = m
        · rw [if_neg (by omega), if_pos (by omega), h4]
        · rw [if_pos (by omega), if_pos (by omega)]
      · by_cases h3 : rev k m = i
        · have e : m = rev k i := by rw [← h3, hrm]
          rw [if_pos (by omega), if_pos (by omega)]
        · by_cases h4 : m < i ∨ rev k m < i
          · rw [if_pos h4, if_pos (by omega)]
          · rw [if_neg h4, if_neg (by omega)]
theorem rvs_get (k : Nat) (x : List P) (hl : x.length = 2 ^ k) (j : Nat) (hj : j < 2 ^ k) : (rvs k x).getD j p0 = x.getD (rev k j) p0 := by
  unfold rvs
  exact rvL_get k x hl x.length 0 x hl (by omega) (fun m hm => by rw [if_neg (by omega)]) j hj

/-- The smaller tables lie in the great one. -/
theorem tab_small : ∀ k : Fin 11, k.val = 0 ∨ tab k.val = (List.range (2 ^ (k.val - 1))).map fun i => WT.getD (i * 2 ^ (10 - k.val)) (0, 0) := by decide +kernel
end Go.Proofs.Ygctak.Ft
