/-
  The words of doubles and the rounding RN: what '+', '-' and '2 *' give, exactly.
-/
import Derived.Test.YgctakDoorFl2
import Derived.Test.YgctakDoorRn
set_option linter.unusedVariables false
set_option linter.unusedSimpArgs false
namespace Go.Proofs.YgctakDoor.Rn
open Ieee Fl

/-- n / 2^d as a whole number, ties to even. -/
def cu (n d : Nat) : Nat := n / 2 ^ d + if 2 ^ d < 2 * (n % 2 ^ d) ∨ (2 ^ d = 2 * (n % 2 ^ d) ∧ n / 2 ^ d % 2 = 1) then 1 else 0

theorem rnN_cu (n : Nat) : rnN n = cu n (n.log2 - 52) * 2 ^ (n.log2 - 52) := rfl

theorem cut_cu (neg : Bool) (n d : Nat) : Toward.even.cut neg n d = cu n d := by
  unfold Toward.cut cu
  simp only [Nat.shiftLeft_eq, Nat.one_mul]
  have hb : ∀ (G q m : Nat), (decide (G < 2 * m) || (G == 2 * m && q % 2 == 1)).toNat = if G < 2 * m ∨ (G = 2 * m ∧ q % 2 = 1) then 1 else 0 := by
    intro G q m
    by_cases h : G < 2 * m ∨ (G = 2 * m ∧ q % 2 = 1)
    · rw [if_pos h]
      have : (decide (G < 2 * m) || (G == 2 * m && q % 2 == 1)) = true := by simpa using h
      rw [this]; rfl
    · rw [if_neg h]
      have : (decide (G < 2 * m) || (G == 2 * m && q % 2 == 1)) = false := by
        rw [Bool.eq_false_iff]; intro h2; exact h (by simpa using h2)
      rw [this]; rfl
  by_cases hd : d ≤ n.log2 + 2
  · rw [Nat.min_eq_left hd, hb]
  · rw [Nat.min_eq_right (by omega), hb]
    have hlog : n < 2 ^ (n.log2 + 1) := Nat.lt_log2_self
    have hp : 2 ^ (n.log2 + 2) = 2 * 2 ^ (n.log2 + 1) := by rw [show n.log2 + 2 = n.log2 + 1 + 1 from rfl, Nat.pow_succ, Nat.mul_comm]
    have hle : 2 ^ (n.log2 + 2) ≤ 2 ^ d := Nat.pow_le_pow_right (by omega) (by omega)
    rw [hp] at hle ⊢
    generalize 2 ^ (n.log2 + 1) = A at *
    generalize 2 ^ d = G at *
    rw [Nat.div_eq_of_lt (show n < 2 * A by omega), Nat.mod_eq_of_lt (show n < 2 * A by omega), Nat.div_eq_of_lt (show n < G by omega), Nat.mod_eq_of_lt (show n < G by omega), if_neg (by omega), if_neg (by omega)]

theorem cu_scale (n d t : Nat) : cu (n * 2 ^ t) (d + t) = cu n d := by
  unfold cu
  have ht := p2 t
  rw [Nat.pow_add, Nat.mul_div_mul_right _ _ ht, Nat.mul_mod_mul_right]
  generalize 2 ^ t = T at *
  generalize 2 ^ d = G at *
  generalize n % G = m at *
  generalize n / G = q at *
  have h1 : G * T < 2 * (m * T) ↔ G < 2 * m := by
    rw [← Nat.mul_assoc]; exact Nat.mul_lt_mul_right ht
  have h2 : G * T = 2 * (m * T) ↔ G = 2 * m := by
    rw [← Nat.mul_assoc]; exact ⟨fun h => Nat.eq_of_mul_eq_mul_right ht h, fun h => by rw [h]⟩
  simp only [h1, h2]

theorem cu_zero (n : Nat) : cu n 0 = n := by
  unfold cu
  simp only [Nat.pow_zero, Nat.div_one, Nat.mod_one, Nat.mul_zero]
  rw [if_neg (by omega), Nat.add_zero]

theorem cu_exact (n d : Nat) : cu (n * 2 ^ d) d = n := by
  have := cu_scale n 0 d
  rw [Nat.zero_add, cu_zero] at this
  exact this

theorem log2_mul_pow (n t : Nat) (h : n ≠ 0) : (n * 2 ^ t).log2 = n.log2 + t := by
  have h1 := Nat.log2_self_le h
  have h2 : n < 2 ^ (n.log2 + 1) := Nat.lt_log2_self
  have hne : n * 2 ^ t ≠ 0 := Nat.mul_ne_zero h (by have := p2 t; omega)
  rw [Nat.log2_eq_iff hne]
  constructor
  · rw [Nat.pow_add]; exact Nat.mul_le_mul_right _ h1
  · rw [show n.log2 + t + 1 = n.log2 + 1 + t by omega, Nat.pow_add]
    exact Nat.mul_lt_mul_of_pos_right h2 (p2 t)

/-- 'nearest' hangs on the number alone: n' units of 2^-2148. -/
theorem nearest_eq (neg : Bool) (mag : Nat) (place : Int) (S : Nat) (hS : place + 2148 = S) (h0 : mag ≠ 0) :
    double.nearest neg mag place = double.word neg (min (((mag * 2 ^ S).log2 - 1126) * 2 ^ 52 + cu (mag * 2 ^ S) ((mag * 2 ^ S).log2 - 1126 + 1074)) (2047 * 2 ^ 52)) := by
  rw [log2_mul_pow _ _ h0]
  obtain ⟨last, hlast⟩ : ∃ l : Int, l = max (place + mag.log2 - 52) (-1074) := ⟨_, rfl⟩
  obtain ⟨lg, hlg⟩ : ∃ lg, lg = mag.log2 := ⟨_, rfl⟩
  obtain ⟨L, hL⟩ : ∃ L : Nat, last + 1074 = L := ⟨(last + 1074).toNat, by omega⟩
  have hLe : lg + S - 1126 = L := by omega
  have hnear : double.nearest neg mag place = double.word neg (min (L * 2 ^ 52 + Toward.even.cut neg (mag <<< (place - last).toNat) (last - place).toNat) (2047 * 2 ^ 52)) := by
    unfold Format.nearest
    rw [if_neg h0]
    simp only [least, bin, infR, frac, ← hlg]
    have e1 : max (place + (lg : Int) - ((52 : Nat) : Int)) (-1074) = last := by rw [hlast, ← hlg]; rfl
    rw [e1, show (last - -1074).toNat = L by omega]
  have ek : cu (mag * 2 ^ (place - last).toNat) (last - place).toNat = cu (mag * 2 ^ S) (L + 1074) := by
    by_cases hpl : last ≤ place
    · obtain ⟨u, hu⟩ : ∃ u : Nat, place - last = u := ⟨(place - last).toNat, by omega⟩
      rw [show (place - last).toNat = u by omega, show (last - place).toNat = 0 by omega, cu_zero, show S = u + (L + 1074) by omega, Nat.pow_add, ← Nat.mul_assoc, cu_exact]
    · obtain ⟨d, hd⟩ : ∃ d : Nat, last - place = d := ⟨(last - place).toNat, by omega⟩
      rw [show (place - last).toNat = 0 by omega, show (last - place).toNat = d by omega, Nat.pow_zero, Nat.mul_one, show L + 1074 = d + S by omega, cu_scale]
  rw [hnear, ← hlg, hLe, cut_cu, Nat.shiftLeft_eq, ek]

theorem rnN_le {n e : Nat} (h : n ≤ 2 ^ e) : rnN n ≤ 2 ^ e := by
  have h1 := RN_le (z := (n : Int)) (f := (2 ^ e : Nat)) ⟨1, e, by rw [Int.one_mul, ipow], by decide⟩ (by simpa using h)
  unfold RN at h1
  rw [if_neg (by omega)] at h1
  simpa using h1

theorem zmul {n A B : Nat} (h : n = 0) (e : B = n * A) : B = 0 := by subst h; rw [e, Nat.zero_mul]
theorem dbl {a A : Nat} (h : a ≤ A) : 2 * a ≤ 2 ^ 1 * A := by omega
/-- What 'nearest' gives of n units of 2^-1074. -/
theorem nearest_rn (neg : Bool) (mag : Nat) (place : Int) (S n : Nat) (hS : place + 2148 = S) (hn : mag * 2 ^ S = n * 2 ^ 1074) (h : n ≤ 2 ^ 2097) :
    Finite (double.nearest neg mag place) ∧ V (double.nearest neg mag place) = sg neg (rnN n : Int) ∧ double.nearest neg mag place < 2 ^ 64 := by
  by_cases h0 : mag = 0
  · subst h0
    have hn0 : n = 0 := by
      have hn' : n * 2 ^ 1074 = 0 := hn.symm.trans (Nat.zero_mul _)
      rcases Nat.mul_eq_zero.1 hn' with h | h
      · exact h
      · exact absurd h (Nat.ne_of_gt (p2 1074))
    subst hn0
    have : double.nearest neg 0 place = double.word neg 0 := by simp [Format.nearest]
    rw [this]
    obtain ⟨h1, h2⟩ := V_word neg 0 (by omega)
    refine ⟨h1, ?_, ?_⟩
    · rw [h2]; simp [valR, sg, show rnN 0 = 0 by decide]
    · simp only [Format.word, sgnW]; split <;> omega
  · have hnz : n ≠ 0 := by
      intro h2
      have hn' : mag * 2 ^ S = 0 := zmul h2 hn
      rcases Nat.mul_eq_zero.1 hn' with h | h
      · exact h0 h
      · have := p2 S; omega
    rw [nearest_eq neg mag place S hS h0, hn, log2_mul_pow n 1074 hnz, show n.log2 + 1074 - 1126 = n.log2 - 52 by omega, cu_scale n (n.log2 - 52) 1074]
    obtain ⟨L, hL⟩ : ∃ L, L = n.log2 - 52 := ⟨_, rfl⟩
    have hr : rnN n = cu n L * 2 ^ L := by rw [hL]; rfl
    rw [← hL]
    have hlt : n < 2 ^ 53 * 2 ^ L := by
      rw [← Nat.pow_add, hL]
      exact Nat.lt_of_lt_of_le Nat.lt_log2_self (Nat.pow_le_pow_right (by omega) (by omega))
    have hge : L = 0 ∨ 2 ^ 52 * 2 ^ L ≤ n := by
      by_cases h : L = 0
      · exact .inl h
      · right
        rw [← Nat.pow_add]
        exact Nat.le_trans (Nat.pow_le_pow_right (by omega) (by omega)) (Nat.log2_self_le hnz)
    have hq : n / 2 ^ L < 2 ^ 53 := (Nat.div_lt_iff_lt_mul (p2 L)).2 hlt
    have k2 : cu n L ≤ 2 ^ 53 := by unfold cu; split <;> omega
    have k3 : L = 0 ∨ 2 ^ 52 ≤ cu n L := by
      rcases hge with h | h
      · exact .inl h
      · have := (Nat.le_div_iff_mul_le (p2 L)).2 h
        right; unfold cu; omega
    have k4 : cu n L * 2 ^ L ≤ 2 ^ 2097 := hr ▸ rnN_le (e := 2097) h
    generalize cu n L = kept at *
    have hrung : L * 2 ^ 52 + kept < 2047 * 2 ^ 52 := by
      by_cases hL1 : L ≤ 2044
      · omega
      · have hkk : 2 ^ 52 ≤ kept := by omega
        have h1 : 2 ^ 52 * 2 ^ L ≤ 2 ^ 2097 := Nat.le_trans (Nat.mul_le_mul_right _ hkk) k4
        rw [← pow_split (52 + L) 52 L rfl] at h1
        have h2 := pow_le_of (a := 52 + L) (b := 2097) h1
        have hL2 : L = 2045 := by omega
        have h3 : kept ≤ 2 ^ 52 := by
          rw [pow_split 2097 52 L (by omega)] at k4
          exact Nat.le_of_mul_le_mul_right k4 (p2 L)
        omega
    rw [Nat.min_eq_left (Nat.le_of_lt hrung)]
    obtain ⟨f1, f2⟩ := V_word neg _ hrung
    rw [valR_kept L kept k2 k3, ← hr] at f2
    refine ⟨f1, f2, ?_⟩
    simp only [Format.word, sgnW]; split <;> omega

theorem RN_sg (neg : Bool) (n : Nat) : RN (sg neg n) = sg neg (rnN n : Int) := by
  have h : RN (n : Int) = rnN n := by unfold RN; rw [if_neg (by omega), Int.natAbs_natCast]
  cases neg
  · exact h
  · show RN (-(n : Int)) = -(rnN n : Int)
    rw [RN_neg, h]

/-- A sum of two numbers on the grid, exactly. -/
theorem sum_rn (x y : Datum) (s t : Bool) (m n : Nat) (i j : Int) (hx : x = .number s m i) (hy : y = .number t n j) (hi : -1074 ≤ i) (hj : -1074 ≤ j) (X Y : Int)
    (hX : X = sg s ((m * 2 ^ (i + 1074).toNat : Nat) : Int)) (hY : Y = sg t ((n * 2 ^ (j + 1074).toNat : Nat) : Int)) (h : (X + Y).natAbs ≤ 2 ^ 2097) :
    ∃ r, (x.sum y).map double.write = some r ∧ Finite r ∧ V r = RN (X + Y) ∧ r < 2 ^ 64 := by
  subst hx hy
  obtain ⟨base, hbase⟩ : ∃ b : Int, b = min i j := ⟨_, rfl⟩
  obtain ⟨c, hc⟩ : ∃ c : Nat, base + 1074 = c := ⟨(base + 1074).toNat, by omega⟩
  obtain ⟨u, hu⟩ : ∃ u : Nat, i - base = u := ⟨(i - base).toNat, by omega⟩
  obtain ⟨v, hv⟩ : ∃ v : Nat, j - base = v := ⟨(j - base).toNat, by omega⟩
  obtain ⟨total, htot⟩ : ∃ z, z = signed s m u + signed t n v := ⟨_, rfl⟩
  have hXY : X + Y = total * 2 ^ c := by
    have e1 : ((m * 2 ^ (i + 1074).toNat : Nat) : Int) = ((m * 2 ^ u : Nat) : Int) * 2 ^ c := by
      rw [show (i + 1074).toNat = u + c by omega, Nat.pow_add, ← Nat.mul_assoc, Int.natCast_mul _ (2 ^ c), Int.natCast_pow]; rfl
    have e2 : ((n * 2 ^ (j + 1074).toNat : Nat) : Int) = ((n * 2 ^ v : Nat) : Int) * 2 ^ c := by
      rw [show (j + 1074).toNat = v + c by omega, Nat.pow_add, ← Nat.mul_assoc, Int.natCast_mul _ (2 ^ c), Int.natCast_pow]; rfl
    rw [hX, hY, e1, e2, sg_scale, sg_scale, htot, signed_eq, signed_eq, Int.add_mul]
  have hsum : (Datum.number s m i).sum (Datum.number t n j) = some (.number (if total = 0 then s && t else total < 0) total.natAbs base) := by
    simp only [Datum.sum, ← hbase]
    rw [show (i - base).toNat = u by omega, show (j - base).toNat = v by omega, ← htot]
  rw [hsum]
  have hnat : total.natAbs * 2 ^ c = (X + Y).natAbs := by
    rw [hXY, Int.natAbs_mul, Int.natAbs_pow]; rfl
  obtain ⟨neg, hneg⟩ : ∃ b : Bool, b = (if total = 0 then s && t else decide (total < 0)) := ⟨_, rfl⟩
  rw [← hneg]
  obtain ⟨h1, h2, h3⟩ := nearest_rn neg total.natAbs base (c + 1074) (X + Y).natAbs (by omega) (by rw [Nat.pow_add, ← Nat.mul_assoc, hnat]) h
  refine ⟨_, rfl, h1, ?_, h3⟩
  show V (double.nearest neg total.natAbs base) = _
  rw [h2, ← RN_sg]
  congr 1
  have e3 : sg neg (total.natAbs : Int) = total := by
    rw [hneg]
    by_cases hz : total = 0
    · rw [hz]; simp [sg]
    · rw [if_neg hz]
      by_cases hl : total < 0
      · simp [sg, hl]; omega
      · simp [sg, hl]; omega
  rw [← hnat, Int.natCast_mul, sg_scale, e3, Fl.ipow, hXY]

theorem add_rn (x y : Nat) (hx : Finite x) (hy : Finite y) (h : (V x + V y).natAbs ≤ 2 ^ 2097) :
    ∃ r, double.add x y = some r ∧ Finite r ∧ V r = RN (V x + V y) ∧ r < 2 ^ 64 := by
  obtain ⟨s, m, i, hr, hi, hvx⟩ := finite_read hx
  obtain ⟨t, n, j, hq, hj, hvy⟩ := finite_read hy
  exact sum_rn _ _ s t m n i j hr hq hi hj _ _ hvx hvy h

theorem sub_rn (x y : Nat) (hx : Finite x) (hy : Finite y) (h : (V x - V y).natAbs ≤ 2 ^ 2097) :
    ∃ r, double.sub x y = some r ∧ Finite r ∧ V r = RN (V x - V y) ∧ r < 2 ^ 64 := by
  obtain ⟨s, m, i, hr, hi, hvx⟩ := finite_read hx
  obtain ⟨t, n, j, hq, hj, hvy⟩ := finite_read hy
  have hneg : -V y = sg (!t) ((n * 2 ^ (j + 1074).toNat : Nat) : Int) := by rw [hvy]; cases t <;> simp [sg]
  rw [Int.sub_eq_add_neg] at *
  exact sum_rn (double.read x) (double.read y).opposite s (!t) m n i j hr (by rw [hq]; rfl) hi hj _ _ hvx hneg h

/-- A finite double is representable. -/
theorem V_F {x : Nat} (h : Finite x) : F (V x) := by
  obtain ⟨s, m, p, hr, hp, hv⟩ := finite_read h
  have hm : m ≤ 2 ^ 53 := by
    unfold Format.read at hr
    simp only [least] at hr
    split at hr
    · rename_i h1
      cases hr
      rw [bin] at h1
      omega
    · split at hr
      · injection hr with h1 h2 h3
        rw [bin] at h2
        have := Nat.mod_lt (x % double.signWeight) (show 0 < 2 ^ 52 by decide)
        omega
      · split at hr <;> cases hr
  refine ⟨sg s m, (p + 1074).toNat, ?_, by rw [sg_abs]; exact hm⟩
  rw [hv, Int.natCast_mul, sg_scale, Fl.ipow]

/-- 2 * x. -/
theorem mul2_rn (x : Nat) (hx : Finite x) (h : (V x).natAbs ≤ 2 ^ 2096) :
    ∃ r, double.mul 4611686018427387904 x = some r ∧ Finite r ∧ V r = 2 * V x ∧ r < 2 ^ 64 := by
  obtain ⟨s, m, i, hr, hi, hvx⟩ := finite_read hx
  obtain ⟨u, hu⟩ : ∃ u : Nat, i + 1074 = u := ⟨(i + 1074).toNat, by omega⟩
  rw [show (i + 1074).toNat = u by omega] at hvx
  have h2 : double.read 4611686018427387904 = .number false (2 ^ 52) (-51) := by decide +kernel
  have hprod : double.mul 4611686018427387904 x = some (double.write (.number (false ^^ s) (2 ^ 52 * m) (-51 + i))) := by
    unfold Format.mul
    rw [hr, h2]
    rfl
  have hn : m * 2 ^ u = (V x).natAbs := by rw [hvx, sg_abs]
  obtain ⟨h1, h3, h4⟩ := nearest_rn s (2 ^ 52 * m) (-51 + i) (u + 1023) (2 * (m * 2 ^ u)) (by omega) (by
    rw [pow_split 1074 51 1023 (by omega), Nat.pow_add]
    generalize 2 ^ 1023 = A
    generalize 2 ^ u = B
    rw [show 2 ^ 52 * m * (B * A) = 2 ^ 52 * (m * B * A) by simp only [Nat.mul_assoc], show 2 * (m * B) * (2 ^ 51 * A) = 2 ^ 52 * (m * B * A) by
      rw [show 2 ^ 52 = 2 * 2 ^ 51 by decide]; generalize 2 ^ 51 = C; simp only [Nat.mul_assoc, Nat.mul_comm, Nat.mul_left_comm]]) (by
    rw [hn, pow_split 2097 1 2096 (by omega)]
    obtain ⟨A, hA⟩ : ∃ A, A = 2 ^ 2096 := ⟨_, rfl⟩
    rw [← hA] at h ⊢
    exact dbl h)
  have hb : (false ^^ s) = s := by cases s <;> rfl
  rw [hb] at hprod
  refine ⟨_, hprod, h1, ?_, h4⟩
  show V (double.nearest s (2 ^ 52 * m) (-51 + i)) = _
  rw [h3, ← RN_sg, hn]
  have e : sg s ((2 * (V x).natAbs : Nat) : Int) = 2 * V x := by
    rw [hvx, sg_abs]
    cases s <;> simp [sg] <;> omega
  rw [e]
  apply RN_id
  obtain ⟨k, p, e1, e2⟩ := V_F hx
  exact ⟨k, p + 1, by rw [e1, Int.pow_succ, ← Int.mul_assoc k, Int.mul_comm 2 (k * 2 ^ p)], e2⟩

end Go.Proofs.YgctakDoor.Rn
