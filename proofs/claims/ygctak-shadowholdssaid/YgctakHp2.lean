/-
  Floats: a quotient by a power of two is right but for the last unit; every word is below 2^64.
-/
import Derived.Test.YgctakHp1
open Ieee
namespace Go.Proofs.Ygctak
set_option linter.unusedVariables false
set_option linter.unusedSimpArgs false
namespace Fl

theorem log_le {m a : Nat} (h0 : m ≠ 0) (hm : m < 2 ^ 53) : (m * 2 ^ a).log2 ≤ 52 + a := by
  have h1 : m * 2 ^ a < 2 ^ (53 + a) := by
    rw [Nat.pow_add]; exact Nat.mul_lt_mul_of_pos_right hm (Nat.two_pow_pos a)
  have h2 : m * 2 ^ a ≠ 0 := Nat.mul_ne_zero h0 (Nat.ne_of_gt (Nat.two_pow_pos a))
  have := (Nat.log2_lt h2).2 h1
  omega

theorem half_close {t a1 a2 : Nat} (h1 : 2 * a1 ≤ 2 * a2 + 2 * t) (h2 : 2 * a2 ≤ 2 * a1 + 2 * t) : a1 ≤ a2 + t ∧ a2 ≤ a1 + t := by omega
theorem zle (A B C : Nat) : 0 * A ≤ 0 * B + C := by rw [Nat.zero_mul]; exact Nat.zero_le _
set_option exponentiation.threshold 3000 in
/-- 'nearest' of a number of 53 digits: right, or off by half a unit at the least place. -/
theorem nearest_fine (neg : Bool) (mag m a : Nat) (place : Int) (E S : Nat) (hmag : mag = m * 2 ^ a) (hm : m < 2 ^ 53) (hE : E ≤ 1023) (hS : place + 2148 = S) (hX : mag * 2 ^ S ≤ 2 ^ (E + 2148)) :
    ∃ R : Nat, Finite (double.nearest neg mag place) ∧ V (double.nearest neg mag place) = (if neg then -(R : Int) else (R : Int)) ∧
      R * 2 ^ 1074 ≤ mag * 2 ^ S + 2 ^ 1073 ∧ mag * 2 ^ S ≤ R * 2 ^ 1074 + 2 ^ 1073 := by
  by_cases h0 : mag = 0
  · rw [h0]
    have : double.nearest neg 0 place = double.word neg 0 := by simp [Format.nearest]
    rw [this]
    obtain ⟨h1, h2⟩ := V_word neg 0 (by omega)
    refine ⟨0, h1, ?_, zle _ _ _, zle _ _ _⟩
    rw [h2]; simp [valR]
  obtain ⟨last, hlast⟩ : ∃ l : Int, l = max (place + mag.log2 - 52) (-1074) := ⟨_, rfl⟩
  obtain ⟨L, hL⟩ : ∃ L : Nat, last + 1074 = L := ⟨(last + 1074).toNat, by omega⟩
  have hlow : 2 ^ mag.log2 ≤ mag := Nat.log2_self_le h0
  have hhigh : mag < 2 ^ (mag.log2 + 1) := Nat.lt_log2_self
  have hlog : mag.log2 + S ≤ E + 2148 := by
    apply pow_le_of
    rw [Nat.pow_add]
    exact Nat.le_trans (Nat.mul_le_mul_right _ hlow) hX
  have hlga : mag.log2 ≤ 52 + a := by rw [hmag]; exact log_le (fun h => h0 (by rw [hmag, h, Nat.zero_mul])) hm
  obtain ⟨lg, hlg⟩ : ∃ lg, lg = mag.log2 := ⟨_, rfl⟩
  rw [← hlg] at hlow hhigh hlog hlast hlga
  have hLE : L ≤ E + 1074 := by omega
  -- the digits kept
  have key : ∃ kept : Nat, double.nearest neg mag place = double.word neg (min (L * 2 ^ 52 + kept) (2047 * 2 ^ 52)) ∧ kept ≤ 2 ^ 53 ∧ (L = 0 ∨ 2 ^ 52 ≤ kept) ∧ kept * 2 ^ L ≤ 2 ^ (E + 1074) ∧
      kept * 2 ^ L * 2 ^ 1074 ≤ mag * 2 ^ S + 2 ^ 1073 ∧ mag * 2 ^ S ≤ kept * 2 ^ L * 2 ^ 1074 + 2 ^ 1073 := by
    have hnear : double.nearest neg mag place = double.word neg (min (L * 2 ^ 52 + Toward.even.cut neg (mag <<< (place - last).toNat) (last - place).toNat) (2047 * 2 ^ 52)) := by
      unfold Format.nearest
      rw [if_neg h0]
      simp only [least, bin, infR, frac, ← hlg]
      have e1 : max (place + (lg : Int) - ((52 : Nat) : Int)) (-1074) = last := by rw [hlast]; rfl
      rw [e1, show (last - -1074).toNat = L by omega]
    by_cases hpl : last ≤ place
    · -- nothing is dropped
      obtain ⟨u, hu⟩ : ∃ u : Nat, place - last = u := ⟨(place - last).toNat, by omega⟩
      obtain ⟨r, hr, _, _, hr0, _, _⟩ := cut_spec neg (mag <<< u) 0
      have hrr := hr0 rfl
      rw [hnear, show (place - last).toNat = u by omega, show (last - place).toNat = 0 by omega, hr, hrr, Nat.shiftLeft_eq]
      have hSL : S = u + L + 1074 := by omega
      have e1 : mag * 2 ^ S = mag * 2 ^ u * 2 ^ L * 2 ^ 1074 := by rw [pow_split S (u + L) 1074 hSL, Nat.pow_add 2 u L, ← Nat.mul_assoc, ← Nat.mul_assoc]
      refine ⟨mag * 2 ^ u, rfl, ?_, ?_, ?_, ?_, ?_⟩
      · have h1 : mag * 2 ^ u ≤ 2 ^ (lg + 1) * 2 ^ u := Nat.mul_le_mul_right _ (by omega)
        rw [← Nat.pow_add] at h1
        exact Nat.le_trans h1 (Nat.pow_le_pow_right (by omega) (by omega))
      · by_cases hL0 : L = 0
        · exact .inl hL0
        · refine .inr ?_
          have h1 : 2 ^ lg * 2 ^ u ≤ mag * 2 ^ u := Nat.mul_le_mul_right _ hlow
          rw [← Nat.pow_add] at h1
          exact Nat.le_trans (Nat.pow_le_pow_right (by omega) (by omega)) h1
      · have e2 : 2 ^ (E + 2148) = 2 ^ (E + 1074) * 2 ^ 1074 := pow_split (E + 2148) (E + 1074) 1074 (by omega)
        rw [e1, e2] at hX
        exact Nat.le_of_mul_le_mul_right hX (Nat.two_pow_pos 1074)
      · rw [e1]; exact Nat.le_add_right _ _
      · rw [e1]; exact Nat.le_add_right _ _
    · obtain ⟨d, hd⟩ : ∃ d : Nat, last - place = d + 1 := ⟨(last - place).toNat - 1, by omega⟩
      obtain ⟨r, hr, hr1, hr2, _, hup, hdn⟩ := cut_spec neg mag (d + 1)
      rw [hnear, show (place - last).toNat = 0 by omega, show (last - place).toNat = d + 1 by omega, Nat.shiftLeft_zero, hr]
      have hSd : S + (d + 1) = L + 1074 := by omega
      have hexp : r * 2 ^ (d + 1) * 2 ^ S = r * 2 ^ L * 2 ^ 1074 := by
        rw [Nat.mul_assoc, ← pow_split (d + 1 + S) (d + 1) S rfl, Nat.mul_assoc, ← pow_split (L + 1074) L 1074 rfl, Nat.add_comm (d + 1) S, hSd]
      have hU : 2 ^ (d + 1) * 2 ^ S = 2 * (2 ^ d * 2 ^ S) := by rw [Nat.pow_succ, Nat.mul_comm (2 ^ d) 2, Nat.mul_assoc]
      refine ⟨r, rfl, ?_, ?_, ?_, ?_⟩
      · apply hup
        rw [← Nat.pow_add]
        exact Nat.le_trans (Nat.le_of_lt hhigh) (Nat.pow_le_pow_right (by omega) (by omega))
      · by_cases hL0 : L = 0
        · exact .inl hL0
        · refine .inr (hdn _ ?_)
          rw [← Nat.pow_add]
          exact Nat.le_trans (Nat.pow_le_pow_right (by omega) (by omega)) hlow
      · have h1 : r ≤ 2 ^ (E + 1074 - L) := by
          apply hup
          rw [← Nat.pow_add]
          have h2 : mag * 2 ^ S ≤ 2 ^ (E + 1074 - L + (d + 1)) * 2 ^ S := by
            rw [← Nat.pow_add]
            exact Nat.le_trans hX (Nat.pow_le_pow_right (by omega) (by omega))
          exact Nat.le_of_mul_le_mul_right h2 (Nat.two_pow_pos _)
        have h3 := Nat.mul_le_mul_right (2 ^ L) h1
        rw [← Nat.pow_add] at h3
        exact Nat.le_trans h3 (Nat.pow_le_pow_right (by omega) (by omega))
      · by_cases hL0 : L = 0
        · have hpw : 2 ^ d * 2 ^ S = 2 ^ 1073 := (pow_split 1073 d S (by omega)).symm
          rw [hpw] at hU
          have h1 := Nat.mul_le_mul_right (2 ^ S) hr1
          rw [Nat.add_mul, Nat.mul_assoc, Nat.mul_assoc 2 mag, hexp, hU] at h1
          have h2 := Nat.mul_le_mul_right (2 ^ S) hr2
          rw [Nat.add_mul, Nat.mul_assoc, Nat.mul_assoc 2 (r * 2 ^ (d + 1)), hexp, hU] at h2
          exact half_close h1 h2
        · have hda : d + 1 ≤ a := by omega
          have hN : mag = m * 2 ^ (a - (d + 1)) * 2 ^ (d + 1) := by rw [hmag, Nat.mul_assoc, ← Nat.pow_add]; congr 2; omega
          have hrN : r = m * 2 ^ (a - (d + 1)) := Nat.le_antisymm (hup _ (by rw [hN]; exact Nat.le_refl _)) (hdn _ (by rw [hN]; exact Nat.le_refl _))
          have e2 : mag * 2 ^ S = r * 2 ^ L * 2 ^ 1074 := by rw [← hexp, hrN, ← hN]
          rw [e2]
          exact ⟨Nat.le_add_right _ _, Nat.le_add_right _ _⟩
  obtain ⟨kept, k1, k2, k3, k4, k5, k6⟩ := key
  have hrung : L * 2 ^ 52 + kept < 2047 * 2 ^ 52 := by
    have hb : kept * 2 ^ L ≤ 2 ^ 2097 := Nat.le_trans k4 (pow_mono (E + 1074) 2097 (by omega))
    by_cases hL1 : L ≤ 2044
    · omega
    · have hkk : 2 ^ 52 ≤ kept := by omega
      have h1 : 2 ^ 52 * 2 ^ L ≤ 2 ^ 2097 := Nat.le_trans (Nat.mul_le_mul_right _ hkk) hb
      rw [← pow_split (52 + L) 52 L rfl] at h1
      have h2 := pow_le_of (a := 52 + L) (b := 2097) h1
      have hL2 : L = 2045 := by omega
      have h3 : kept ≤ 2 ^ 52 := by
        rw [pow_split 2097 52 L (by omega)] at hb
        exact Nat.le_of_mul_le_mul_right hb (Nat.two_pow_pos L)
      omega
  rw [Nat.min_eq_left (Nat.le_of_lt hrung)] at k1
  obtain ⟨f1, f2⟩ := V_word neg _ hrung
  rw [valR_kept L kept k2 k3] at f2
  rw [k1]
  exact ⟨kept * 2 ^ L, f1, f2, k5, k6⟩

/-- A word. -/
theorem word_lt (neg : Bool) (R : Nat) (h : R < 2 ^ 63) : double.word neg R < 2 ^ 64 := by
  unfold Format.word
  rw [sgnW]
  split <;> omega
theorem write_lt (d : Datum) : double.write d < 2 ^ 64 := by
  cases d with
  | number neg mag place =>
    show double.nearest neg mag place < 2 ^ 64
    unfold Format.nearest
    split
    · exact word_lt _ _ (by decide)
    · refine word_lt _ _ (Nat.lt_of_le_of_lt (Nat.min_le_right _ _) ?_)
      rw [infR]; decide
  | infinity neg => exact word_lt _ _ (by rw [infR]; decide)
  | nan neg fr =>
    refine word_lt _ _ ?_
    rw [infR, bin]
    have := Nat.mod_lt fr (show 0 < 2 ^ 52 by decide)
    omega
theorem map_lt {o : Option Datum} : (o.map double.write).getD 0 < 2 ^ 64 := by
  cases o with
  | none => decide
  | some d => exact write_lt d
theorem bits_lt (x y : Nat) : (floatBits .add .f64 x y).getD 0 < 2 ^ 64 ∧ (floatBits .sub .f64 x y).getD 0 < 2 ^ 64 ∧ (floatBits .mul .f64 x y).getD 0 < 2 ^ 64 ∧ (floatBits .quo .f64 x y).getD 0 < 2 ^ 64 :=
  ⟨map_lt, map_lt, map_lt, map_lt⟩
end Fl
end Go.Proofs.Ygctak
