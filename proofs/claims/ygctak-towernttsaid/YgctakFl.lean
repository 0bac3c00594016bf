/-
  The doubles as integers: V x is the value of x in units of 2^-1074. No Go in sight.
-/
import Derived.Laws.FloatArith
set_option linter.unusedVariables false
set_option linter.unusedSimpArgs false
namespace Go.Proofs.Ygctak.Fl
open Ieee

theorem frac : double.fractionBits = 52 := rfl
theorem least : double.leastPlace = -1074 := by decide
theorem bin : double.binade = 2 ^ 52 := rfl
theorem infR : double.infRung = 2047 * 2 ^ 52 := rfl
theorem sgnW : double.signWeight = 2 ^ 63 := rfl

/-- The value of a finite double, in units of 2^-1074; of another word, 0. -/
def V (x : Nat) : Int := match double.read x with
  | .number s m p => signed s m (p + 1074).toNat
  | _ => 0
def Finite (x : Nat) : Prop := ∃ s m p, double.read x = .number s m p

/-- The value of a rung. -/
def valR (R : Nat) : Nat := if R < 2 ^ 52 then R else (2 ^ 52 + R % 2 ^ 52) * 2 ^ (R / 2 ^ 52 - 1)

theorem read_word (neg : Bool) (R : Nat) (h : R < 2047 * 2 ^ 52) :
    double.read (double.word neg R) = if R < 2 ^ 52 then .number neg R (-1074) else .number neg (2 ^ 52 + R % 2 ^ 52) (-1074 + (R / 2 ^ 52 - 1 : Nat)) := by
  have h63 : R < 2 ^ 63 := by omega
  have hd : double.word neg R / 2 ^ 63 % 2 = neg.toNat ∧ double.word neg R % 2 ^ 63 = R := by
    cases neg <;> simp [Format.word, sgnW] <;> omega
  unfold Format.read
  simp only [sgnW, bin, infR, least, hd.1, hd.2]
  have hneg : (neg.toNat == 1) = neg := by cases neg <;> rfl
  rw [hneg]
  by_cases h1 : R < 2 ^ 52
  · rw [if_pos h1, if_pos h1]
  · rw [if_neg h1, if_neg h1, if_pos h]

theorem V_word (neg : Bool) (R : Nat) (h : R < 2047 * 2 ^ 52) : Finite (double.word neg R) ∧ V (double.word neg R) = if neg then -(valR R : Int) else (valR R : Int) := by
  have hr := read_word neg R h
  unfold Finite V valR
  rw [hr]
  by_cases h1 : R < 2 ^ 52
  · simp only [if_pos h1]
    refine ⟨⟨_, _, _, rfl⟩, ?_⟩
    simp [signed]
  · simp only [if_neg h1]
    refine ⟨⟨_, _, _, rfl⟩, ?_⟩
    simp only [signed, Nat.shiftLeft_eq]
    rw [show (-1074 + ((R / 2 ^ 52 - 1 : Nat) : Int) + 1074).toNat = R / 2 ^ 52 - 1 by omega]

theorem valR_kept (e kept : Nat) (h1 : kept ≤ 2 ^ 53) (h2 : e = 0 ∨ 2 ^ 52 ≤ kept) : valR (e * 2 ^ 52 + kept) = kept * 2 ^ e := by
  unfold valR
  by_cases hk : kept < 2 ^ 52
  · have he : e = 0 := by omega
    subst he
    rw [if_pos (by omega)]; omega
  · rw [if_neg (by omega)]
    by_cases hk2 : kept = 2 ^ 53
    · subst hk2
      rw [show (e * 2 ^ 52 + 2 ^ 53) % 2 ^ 52 = 0 by omega, show (e * 2 ^ 52 + 2 ^ 53) / 2 ^ 52 - 1 = e + 1 by omega, show 2 ^ (e + 1) = 2 ^ e * 2 from Nat.pow_succ 2 e]
      generalize 2 ^ e = A
      omega
    · rw [show (e * 2 ^ 52 + kept) % 2 ^ 52 = kept - 2 ^ 52 by omega, show (e * 2 ^ 52 + kept) / 2 ^ 52 - 1 = e by omega, show 2 ^ 52 + (kept - 2 ^ 52) = kept by omega]

theorem cut_spec (neg : Bool) (n drop : Nat) : ∃ r, Toward.even.cut neg n drop = r ∧ 2 * (r * 2 ^ drop) ≤ 2 * n + 2 ^ drop ∧ 2 * n ≤ 2 * (r * 2 ^ drop) + 2 ^ drop ∧ (drop = 0 → r = n) ∧
    (∀ N, n ≤ N * 2 ^ drop → r ≤ N) ∧ (∀ N, N * 2 ^ drop ≤ n → N ≤ r) := by
  refine ⟨_, rfl, ?_⟩
  unfold Toward.cut
  simp only [Nat.shiftLeft_eq, Nat.one_mul]
  by_cases hd : drop ≤ n.log2 + 2
  · rw [Nat.min_eq_left hd]
    have hg := Nat.two_pow_pos drop
    generalize hG : 2 ^ drop = G at *
    have h1 := Nat.div_add_mod n G
    have h2 := Nat.mod_lt n hg
    generalize n / G = q at *
    generalize n % G = m at *
    have hGG : drop = 0 → G = 1 := fun h => by subst h; simpa using hG.symm
    have hr : ∀ b : Bool, (q + b.toNat) * G = G * q + (if b then G else 0) := fun b => by
      rw [Nat.add_mul, Nat.mul_comm]; cases b <;> simp
    have up : ∀ N, n ≤ N * G → q ≤ N ∧ (0 < m → q < N) := fun N hN => by
      constructor
      · by_cases h : q ≤ N
        · exact h
        · have : (N + 1) * G ≤ q * G := Nat.mul_le_mul_right _ (by omega)
          rw [Nat.add_mul, Nat.mul_comm q G] at this; omega
      · intro hm
        by_cases h : q < N
        · exact h
        · have : N * G ≤ q * G := Nat.mul_le_mul_right _ (by omega)
          rw [Nat.mul_comm q G] at this; omega
    have dn : ∀ N, N * G ≤ n → N ≤ q := fun N hN => by
      by_cases h : N ≤ q
      · exact h
      · have : (q + 1) * G ≤ N * G := Nat.mul_le_mul_right _ (by omega)
        rw [Nat.add_mul, Nat.mul_comm q G] at this; omega
    rw [hr]
    cases hb : (decide (G < 2 * m) || (G == 2 * m && q % 2 == 1)) with
    | false =>
      simp at hb
      simp only [Bool.false_eq_true, if_false, Bool.toNat_false, Nat.add_zero]
      refine ⟨by omega, by omega, fun h => ?_, fun N hN => (up N hN).1, dn⟩
      have := hGG h
      subst this
      omega
    | true =>
      simp at hb
      simp only [if_true, Bool.toNat_true]
      refine ⟨by omega, by omega, fun h => ?_, fun N hN => ?_, fun N hN => ?_⟩
      · have := hGG h
        subst this
        omega
      · have := (up N hN).2 (by omega); omega
      · have := dn N hN; omega
  · rw [Nat.min_eq_right (by omega)]
    have hlog : n < 2 ^ (n.log2 + 1) := Nat.lt_log2_self
    have hp : 2 ^ (n.log2 + 2) = 2 * 2 ^ (n.log2 + 1) := by rw [show n.log2 + 2 = n.log2 + 1 + 1 from rfl, Nat.pow_succ, Nat.mul_comm]
    have hle : 2 ^ (n.log2 + 2) ≤ 2 ^ drop := Nat.pow_le_pow_right (by omega) (by omega)
    rw [hp] at *
    generalize 2 ^ (n.log2 + 1) = A at *
    generalize 2 ^ drop = G at *
    have hq : n / (2 * A) = 0 := Nat.div_eq_of_lt (by omega)
    have hm : n % (2 * A) = n := Nat.mod_eq_of_lt (by omega)
    rw [hq, hm]
    have hb : (decide (2 * A < 2 * n) || (2 * A == 2 * n && 0 % 2 == 1)) = false := by simp; omega
    rw [hb]
    simp only [Bool.toNat_false, Nat.add_zero, Nat.zero_mul, Nat.mul_zero]
    refine ⟨by omega, by omega, fun h => by omega, fun N _ => Nat.zero_le _, fun N hN => ?_⟩
    by_cases h : N ≤ 0
    · exact h
    · have : 1 * G ≤ N * G := Nat.mul_le_mul_right _ (by omega)
      omega
theorem pow_le_of {a b : Nat} (h : 2 ^ a ≤ 2 ^ b) : a ≤ b := by
  by_cases hh : a ≤ b
  · exact hh
  · have := Nat.pow_lt_pow_right (a := 2) (by omega) (show b < a by omega)
    omega

theorem pow_split (a b c : Nat) (h : a = b + c) : 2 ^ a = 2 ^ b * 2 ^ c := by rw [h, Nat.pow_add]

theorem pow_mono (a b : Nat) (h : a ≤ b) : 2 ^ a ≤ 2 ^ b := Nat.pow_le_pow_right (by omega) h

/-- What 'nearest' gives: a number R units of 2^-1074, off by at most U units of 2^-2148. -/
theorem nearest_spec (neg : Bool) (mag : Nat) (place : Int) (E S : Nat) (hE : E ≤ 1023) (hS : place + 2148 = S) (hX : mag * 2 ^ S ≤ 2 ^ (E + 2148)) :
    ∃ R U : Nat, Finite (double.nearest neg mag place) ∧ V (double.nearest neg mag place) = (if neg then -(R : Int) else (R : Int)) ∧ R ≤ 2 ^ (E + 1074) ∧
      R * 2 ^ 1074 ≤ mag * 2 ^ S + U ∧ mag * 2 ^ S ≤ R * 2 ^ 1074 + U ∧ (2 ^ 53 * U ≤ mag * 2 ^ S ∨ (U = 2 ^ 1073 ∧ place < -1074)) := by
  by_cases h0 : mag = 0
  · subst h0
    have : double.nearest neg 0 place = double.word neg 0 := by simp [Format.nearest]
    rw [this]
    obtain ⟨h1, h2⟩ := V_word neg 0 (by omega)
    refine ⟨0, 0, h1, ?_, Nat.zero_le _, by omega, by omega, .inl (by omega)⟩
    rw [h2]; simp [valR]
  obtain ⟨last, hlast⟩ : ∃ l : Int, l = max (place + mag.log2 - 52) (-1074) := ⟨_, rfl⟩
  obtain ⟨L, hL⟩ : ∃ L : Nat, last + 1074 = L := ⟨(last + 1074).toNat, by omega⟩
  have hlow : 2 ^ mag.log2 ≤ mag := Nat.log2_self_le h0
  have hhigh : mag < 2 ^ (mag.log2 + 1) := Nat.lt_log2_self
  have hlog : mag.log2 + S ≤ E + 2148 := by
    apply pow_le_of
    rw [Nat.pow_add]
    exact Nat.le_trans (Nat.mul_le_mul_right _ hlow) hX
  obtain ⟨lg, hlg⟩ : ∃ lg, lg = mag.log2 := ⟨_, rfl⟩
  rw [← hlg] at hlow hhigh hlog hlast
  have hLE : L ≤ E + 1074 := by omega
  -- the digits kept
  have key : ∃ kept U : Nat, double.nearest neg mag place = double.word neg (min (L * 2 ^ 52 + kept) (2047 * 2 ^ 52)) ∧ kept ≤ 2 ^ 53 ∧ (L = 0 ∨ 2 ^ 52 ≤ kept) ∧ kept * 2 ^ L ≤ 2 ^ (E + 1074) ∧
      kept * 2 ^ L * 2 ^ 1074 ≤ mag * 2 ^ S + U ∧ mag * 2 ^ S ≤ kept * 2 ^ L * 2 ^ 1074 + U ∧ (2 ^ 53 * U ≤ mag * 2 ^ S ∨ (U = 2 ^ 1073 ∧ place < -1074)) := by
    have hnear : double.nearest neg mag place = double.word neg (min (L * 2 ^ 52 + Toward.even.cut neg (mag <<< (place - last).toNat) (last - place).toNat) (2047 * 2 ^ 52)) := by
      unfold Format.nearest
      rw [if_neg h0]
      simp only [least, bin, infR, frac, ← hlg]
      have e1 : max (place + (lg : Int) - ((52 : Nat) : Int)) (-1074) = last := by rw [hlast]; rfl
      rw [e1, show (last - -1074).toNat = L by omega]
    by_cases hpl : last ≤ place
    · -- nothing is dropped
      obtain ⟨u, hu⟩ : ∃ u : Nat, place - last = u := ⟨(place - last).toNat, by omega⟩
      obtain ⟨r, hr, _, _, hr0, _, _⟩ := cut_spec neg (mag <<< u) 0
      have hrr := hr0 rfl
      rw [hnear, show (place - last).toNat = u by omega, show (last - place).toNat = 0 by omega, hr, hrr, Nat.shiftLeft_eq]
      have hSL : S = u + L + 1074 := by omega
      have e1 : mag * 2 ^ S = mag * 2 ^ u * 2 ^ L * 2 ^ 1074 := by rw [pow_split S (u + L) 1074 hSL, Nat.pow_add 2 u L, ← Nat.mul_assoc, ← Nat.mul_assoc]
      refine ⟨mag * 2 ^ u, 0, rfl, ?_, ?_, ?_, ?_, ?_, .inl (by rw [Nat.mul_zero]; exact Nat.zero_le _)⟩
      · have h1 : mag * 2 ^ u ≤ 2 ^ (lg + 1) * 2 ^ u := Nat.mul_le_mul_right _ (by omega)
        rw [← Nat.pow_add] at h1
        exact Nat.le_trans h1 (Nat.pow_le_pow_right (by omega) (by omega))
      · by_cases hL0 : L = 0
        · exact .inl hL0
        · refine .inr ?_
          have h1 : 2 ^ lg * 2 ^ u ≤ mag * 2 ^ u := Nat.mul_le_mul_right _ hlow
          rw [← Nat.pow_add] at h1
          exact Nat.le_trans (Nat.pow_le_pow_right (by omega) (by omega)) h1
      · have e2 : 2 ^ (E + 2148) = 2 ^ (E + 1074) * 2 ^ 1074 := pow_split (E + 2148) (E + 1074) 1074 (by omega)
        rw [e1, e2] at hX
        exact Nat.le_of_mul_le_mul_right hX (Nat.two_pow_pos 1074)
      · rw [e1]; exact Nat.le_add_right _ _
      · rw [e1]; exact Nat.le_add_right _ _
    · obtain ⟨d, hd⟩ : ∃ d : Nat, last - place = d + 1 := ⟨(last - place).toNat - 1, by omega⟩
      obtain ⟨r, hr, hr1, hr2, _, hup, hdn⟩ := cut_spec neg mag (d + 1)
      rw [hnear, show (place - last).toNat = 0 by omega, show (last - place).toNat = d + 1 by omega, Nat.shiftLeft_zero, hr]
      have hSd : S + (d + 1) = L + 1074 := by omega
      have hexp : r * 2 ^ (d + 1) * 2 ^ S = r * 2 ^ L * 2 ^ 1074 := by
        rw [Nat.mul_assoc, ← pow_split (d + 1 + S) (d + 1) S rfl, Nat.mul_assoc, ← pow_split (L + 1074) L 1074 rfl, Nat.add_comm (d + 1) S, hSd]
      have hU : 2 ^ (d + 1) * 2 ^ S = 2 * (2 ^ d * 2 ^ S) := by rw [Nat.pow_succ, Nat.mul_comm (2 ^ d) 2, Nat.mul_assoc]
      refine ⟨r, 2 ^ d * 2 ^ S, rfl, ?_, ?_, ?_, ?_, ?_, ?_⟩
      · apply hup
        rw [← Nat.pow_add]
        exact Nat.le_trans (Nat.le_of_lt hhigh) (Nat.pow_le_pow_right (by omega) (by omega))
      · by_cases hL0 : L = 0
        · exact .inl hL0
        · refine .inr (hdn _ ?_)
          rw [← Nat.pow_add]
          exact Nat.le_trans (Nat.pow_le_pow_right (by omega) (by omega)) hlow
      · have h1 : r ≤ 2 ^ (E + 1074 - L) := by
          apply hup
          rw [← Nat.pow_add]
          have h2 : mag * 2 ^ S ≤ 2 ^ (E + 1074 - L + (d + 1)) * 2 ^ S := by
            rw [← Nat.pow_add]
            exact Nat.le_trans hX (Nat.pow_le_pow_right (by omega) (by omega))
          exact Nat.le_of_mul_le_mul_right h2 (Nat.two_pow_pos _)
        have h3 := Nat.mul_le_mul_right (2 ^ L) h1
        rw [← Nat.pow_add] at h3
        exact Nat.le_trans h3 (Nat.pow_le_pow_right (by omega) (by omega))
      · have h1 := Nat.mul_le_mul_right (2 ^ S) hr1
        rw [Nat.add_mul, Nat.mul_assoc, Nat.mul_assoc 2 mag, hexp, hU] at h1
        omega
      · have h1 := Nat.mul_le_mul_right (2 ^ S) hr2
        rw [Nat.add_mul, Nat.mul_assoc, Nat.mul_assoc 2 (r * 2 ^ (d + 1)), hexp, hU] at h1
        omega
      · by_cases hL0 : L = 0
        · refine .inr ⟨?_, by omega⟩
          exact (pow_split 1073 d S (by omega)).symm
        · refine .inl ?_
          have h1 : 2 ^ lg * 2 ^ S ≤ mag * 2 ^ S := Nat.mul_le_mul_right _ hlow
          refine Nat.le_trans ?_ h1
          rw [← Nat.pow_add, ← Nat.pow_add, ← Nat.pow_add]
          exact Nat.pow_le_pow_right (by omega) (by omega)
  obtain ⟨kept, U, k1, k2, k3, k4, k5, k6, k7⟩ := key
  have hrung : L * 2 ^ 52 + kept < 2047 * 2 ^ 52 := by
    have hb : kept * 2 ^ L ≤ 2 ^ 2097 := Nat.le_trans k4 (pow_mono (E + 1074) 2097 (by omega))
    by_cases hL1 : L ≤ 2044
    · omega
    · have hkk : 2 ^ 52 ≤ kept := by omega
      have h1 : 2 ^ 52 * 2 ^ L ≤ 2 ^ 2097 := Nat.le_trans (Nat.mul_le_mul_right _ hkk) hb
      rw [← pow_split (52 + L) 52 L rfl] at h1
      have h2 := pow_le_of (a := 52 + L) (b := 2097) h1
      have hL2 : L = 2045 := by omega
      have h3 : kept ≤ 2 ^ 52 := by
        rw [pow_split 2097 52 L (by omega)] at hb
        exact Nat.le_of_mul_le_mul_right hb (Nat.two_pow_pos L)
      omega
  rw [Nat.min_eq_left (Nat.le_of_lt hrung)] at k1
  obtain ⟨f1, f2⟩ := V_word neg _ hrung
  rw [valR_kept L kept k2 k3] at f2
  rw [k1]
  exact ⟨kept * 2 ^ L, U, f1, f2, k4, k5, k6, k7⟩

end Go.Proofs.Ygctak.Fl
