/-
  The way back and its division: the doubles lie within 1/8 of the convolution.
-/
import Derived.Test.YgctakFt11
set_option linter.unusedVariables false
set_option linter.unusedSimpArgs false
set_option exponentiation.threshold 3000
namespace Go.Proofs.Ygctak.Ft
open Fl Sh

/-- The bound of the way back. -/
def eb (k : Nat) : Nat := eN 17045913600 k 0 (ep k)
theorem eb_ok : ∀ k : Fin 11, okN 17045913600 k.val 0 (ep k.val) = true ∧ eb k.val ≤ 2 ^ k.val * 2 ^ 46 := by decide +kernel

theorem back_near {k d : Nat} {xs ys : List Int} (h1 : 1 ≤ k) (h2 : k ≤ 10) (hd : d ≤ 255) (hx : Digs d xs) (hy : Digs d ys) (lx : xs.length ≤ 512) (ly : ys.length ≤ 512) (m i : Nat) (hi : i < 2 ^ k) :
    Near (eb k * WU) (zf (bws k d ((tab k).map conj) k 1 (rvs k (tms (fwd k d xs) (fwd k d ys) m))) i) (((2 ^ k : Nat) : Int) * UU * cv xs ys k i, 0) := by
  have hl := (tab_keep k h1 (by omega)).1
  have hlen : (tms (fwd k d xs) (fwd k d ys) m).length = 2 ^ k := by rw [tms_length, fwd_length]
  have h0 : At (Gb xs ys k) (-1) k 0 (ep k) (zf (rvs k (tms (fwd k d xs) (fwd k d ys) m))) := by
    intro b j hb hj
    have hj0 : j = 0 := by simpa using hj
    subst hj0
    rw [Nat.sub_zero] at hb ⊢
    have hz : zf (rvs k (tms (fwd k d xs) (fwd k d ys) m)) (b * 2 ^ 0 + 0) = zf (tms (fwd k d xs) (fwd k d ys) m) (rev k b) := by
      unfold zf
      rw [Nat.pow_zero, Nat.mul_one, Nat.add_zero, rvs_get k _ hlen b hb]
    rw [hz]
    have hR : Rs (Gb xs ys k) (-1) (2 ^ 0) (2 ^ k) (rev k b) ((2 ^ (10 - 0) : Nat) : Int) 0 0 = Gb xs ys k (rev k b) 0 := by
      unfold Rs
      simp only [Nat.pow_zero, sm]
      rw [show (-1 : Int) * (((0 : Nat) : Int) * ((0 : Nat) : Int) * ((2 ^ (10 - 0) : Nat) : Int)) + 0 = 0 by simp, Nat.zero_mul, Nat.add_zero, Int.zero_add, Int.zero_add]
    rw [hR]
    exact tms_near h1 h2 hd hx hy lx ly m _ (rev_lt k b)
  have := bws_at (d := d) (Gb_fam hd hx hy lx ly k (2 ^ k)) h1 h2 (by omega) (by omega) hl k 0 (ep k) _ (by rw [rvs_length, hlen]) (by omega) h0 (eb_ok ⟨k, by omega⟩).1
  rw [Nat.zero_add k] at this
  have h3 := this 0 i (by rw [Nat.sub_self]; decide) hi
  rw [Nat.sub_self, Nat.zero_mul, Nat.zero_add i] at h3
  rw [← Gb_end xs ys k i h2]
  exact h3

/-! ### the division -/
theorem read_pow : ∀ k : Fin 11, Ieee.double.read (dbl ((2 ^ k.val : Nat) : Int)) = .number false (2 ^ 52) ((k.val : Int) - 52) := by decide +kernel

theorem quo_V (x k : Nat) (hk : k ≤ 10) (hx : Finite x) (hb : (V x).natAbs ≤ 2 ^ 100 * UU) : Finite (fquo x (dbl ((2 ^ k : Nat) : Int))) ∧ 2 ^ 53 * (((2 ^ k : Nat) : Int) * V (fquo x (dbl ((2 ^ k : Nat) : Int))) - V x).natAbs ≤ (V x).natAbs + 2 ^ 53 * 2 ^ k := by
  obtain ⟨s, m, i, hr⟩ := hx
  have hp := read_place hr
  have hr2 := read_pow ⟨k, by omega⟩
  simp only at hr2
  have hm : m < 2 ^ 53 := by
    unfold Ieee.Format.read at hr
    simp only [least] at hr
    split at hr
    · rename_i h1
      cases hr
      rw [bin] at h1
      omega
    · split at hr
      · injection hr with h1 h2 h3
        rw [bin] at h2
        have := Nat.mod_lt (x % Ieee.double.signWeight) (show 0 < 2 ^ 52 by decide)
        omega
      · split at hr <;> cases hr
  have hlog : m.log2 ≤ 52 := by
    by_cases h0 : m = 0
    · subst h0; decide
    · have := (Nat.log2_lt h0).2 hm
      omega
  obtain ⟨mo, hmo⟩ : ∃ mo, mo = 106 - m.log2 := ⟨_, rfl⟩
  have hmo2 : 54 ≤ mo := by omega
  -- what is written
  have hq : fquo x (dbl ((2 ^ k : Nat) : Int)) = Ieee.double.nearest s (2 * (m * 2 ^ (mo - 52))) (i - ((k : Int) - 52) - mo - 1) := by
    unfold fquo
    have : floatBits .quo .f64 x (dbl ((2 ^ k : Nat) : Int)) = some (Ieee.double.nearest s (2 * (m * 2 ^ (mo - 52))) (i - ((k : Int) - 52) - mo - 1)) := by
      show Ieee.double.div x (dbl ((2 ^ k : Nat) : Int)) = _
      unfold Ieee.Format.div
      rw [hr, hr2]
      simp only [Ieee.Datum.quotient]
      rw [if_neg (by decide)]
      have hl2 : (2 ^ 52 : Nat).log2 = 52 := by decide
      have hmm : Ieee.double.fractionBits + 2 + (2 ^ 52 : Nat).log2 - m.log2 = mo := by rw [frac, hl2, hmo]
      rw [hmm, Nat.shiftLeft_eq]
      have e1 : m * 2 ^ mo = 2 ^ 52 * (m * 2 ^ (mo - 52)) := by
        rw [show 2 ^ mo = 2 ^ 52 * 2 ^ (mo - 52) by rw [← Nat.pow_add, show 52 + (mo - 52) = mo by omega]]; grind
      rw [e1, Nat.mul_div_cancel_left _ (by decide), Nat.mul_mod_right]
      have hsx : (s ^^ false) = s := by cases s <;> rfl
      rw [hsx]
      rfl
    rw [this]; rfl
  obtain ⟨S, hS⟩ : ∃ S : Nat, i - ((k : Int) - 52) - mo - 1 + 2148 = S := ⟨(i - ((k : Int) - 52) - mo - 1 + 2148).toNat, by omega⟩
  obtain ⟨u, hu⟩ : ∃ u : Nat, i + 1074 = u := ⟨(i + 1074).toNat, by omega⟩
  have hV := V_of hr u hu
  have hVn : (V x).natAbs = m * 2 ^ u := by rw [hV]; generalize m * 2 ^ u = n; cases s <;> simp
  -- the exact quotient
  have hexact : 2 * (m * 2 ^ (mo - 52)) * 2 ^ S * 2 ^ k = m * 2 ^ u * UU := by
    rw [UU_eq]
    have e1 : 2 * (m * 2 ^ (mo - 52)) * 2 ^ S * 2 ^ k = m * (2 * 2 ^ (mo - 52) * 2 ^ S * 2 ^ k) := by grind
    have e2 : 2 * 2 ^ (mo - 52) * 2 ^ S * 2 ^ k = 2 ^ (u + 1074) := by
      rw [show 2 * 2 ^ (mo - 52) = 2 ^ (mo - 52 + 1) by rw [Nat.pow_succ, Nat.mul_comm], ← Nat.pow_add, ← Nat.pow_add]
      congr 1; omega
    rw [e1, e2, Nat.pow_add, Nat.mul_assoc]
  have hX : 2 * (m * 2 ^ (mo - 52)) * 2 ^ S ≤ 2 ^ (100 + 2148) := by
    rw [pow_UU2]
    have h1 : 2 * (m * 2 ^ (mo - 52)) * 2 ^ S ≤ 2 * (m * 2 ^ (mo - 52)) * 2 ^ S * 2 ^ k := Nat.le_mul_of_pos_right _ (Nat.two_pow_pos k)
    rw [hexact] at h1
    refine Nat.le_trans h1 ?_
    rw [← hVn, ← Nat.mul_assoc]
    exact Nat.mul_le_mul_right _ hb
  obtain ⟨R, U, f, v, _, n1, n2, n3⟩ := nearest_spec s (2 * (m * 2 ^ (mo - 52))) _ 100 S (by omega) hS hX
  rw [← hq] at f v
  refine ⟨f, ?_⟩
  have hU : 2 ^ 53 * U * 2 ^ k ≤ (V x).natAbs * UU + 2 ^ 53 * 2 ^ k * UU := by
    rcases n3 with n3 | ⟨n3, _⟩
    · have := Nat.mul_le_mul_right (2 ^ k) n3
      rw [hexact, ← hVn] at this
      omega
    · have h9 : U ≤ UU := by rw [n3, UU_eq]; exact pow_mono 1073 1074 (by omega)
      have := Nat.mul_le_mul_left (2 ^ 53 * 2 ^ k) h9
      have e : 2 ^ 53 * 2 ^ k * U = 2 ^ 53 * U * 2 ^ k := by grind
      rw [e] at this
      omega
  -- both sides times U
  have hA : (2 ^ 1074 : Nat) = UU := UU_eq.symm
  rw [hA] at n1 n2
  have d1 : (2 ^ k * R * UU : Nat) ≤ (V x).natAbs * UU + U * 2 ^ k ∧ (V x).natAbs * UU ≤ 2 ^ k * R * UU + U * 2 ^ k := by
    have a1 := Nat.mul_le_mul_right (2 ^ k) n1
    have a2 := Nat.mul_le_mul_right (2 ^ k) n2
    rw [Nat.add_mul, hexact, ← hVn] at a1
    rw [Nat.add_mul, hexact, ← hVn] at a2
    have e : R * UU * 2 ^ k = 2 ^ k * R * UU := by grind
    rw [e] at a1 a2
    exact ⟨a1, a2⟩
  have habs : (((2 ^ k : Nat) : Int) * V (fquo x (dbl ((2 ^ k : Nat) : Int))) - V x).natAbs = (((2 ^ k * R : Nat) : Int) - ((V x).natAbs : Int)).natAbs := by
    rw [v, hVn, hV]
    have e : ((2 ^ k * R : Nat) : Int) = ((2 ^ k : Nat) : Int) * R := Int.natCast_mul _ _
    cases s
    · simp only [Bool.false_eq_true, if_false]; rw [e]
    · simp only [if_true]
      have : ((2 ^ k : Nat) : Int) * -(R : Int) - -((m * 2 ^ u : Nat) : Int) = -(((2 ^ k * R : Nat) : Int) - ((m * 2 ^ u : Nat) : Int)) := by rw [e]; grind
      rw [this, Int.natAbs_neg]
  rw [habs]
  have hfin : 2 ^ 53 * (((2 ^ k * R : Nat) : Int) - ((V x).natAbs : Int)).natAbs * UU ≤ ((V x).natAbs + 2 ^ 53 * 2 ^ k) * UU := by
    have s1 : (((2 ^ k * R : Nat) : Int) - ((V x).natAbs : Int)).natAbs * UU = (((2 ^ k * R * UU : Nat) : Int) - (((V x).natAbs * UU : Nat) : Int)).natAbs := by
      rw [Int.natCast_mul (2 ^ k * R) UU, Int.natCast_mul (V x).natAbs UU, ← Int.sub_mul, Int.natAbs_mul]; rfl
    rw [Nat.mul_assoc, s1, Nat.add_mul]
    have e4 : 2 ^ 53 * U * 2 ^ k = 2 ^ 53 * (U * 2 ^ k) := Nat.mul_assoc _ _ _
    rw [e4] at hU
    generalize 2 ^ k * R * UU = A at *
    generalize (V x).natAbs * UU = B at *
    generalize U * 2 ^ k = C at *
    generalize 2 ^ 53 * 2 ^ k * UU = D at *
    omega
  exact Nat.le_of_mul_le_mul_right hfin UU_pos

/-- The convolution's sums are not negative and not great. -/
theorem cv_bd {d : Nat} {xs ys : List Int} (hd : d ≤ 255) (hx : Digs d xs) (hy : Digs d ys) (lx : xs.length ≤ 512) (ly : ys.length ≤ 512) (k i : Nat) : (cv xs ys k i).natAbs ≤ 17045913600 := by
  have hw := Gb_w hd hx hy lx ly k
  have := wsum (w := fun n => dg xs (n / 2 ^ k) * dg ys (n % 2 ^ k)) (g := fun n => if (((n / 2 ^ k + n % 2 ^ k : Nat) : Int) - i) % ((2 ^ k : Nat) : Int) = 0 then 1 else 0) (B := 1) hw (fun n _ => by split <;> simp)
  unfold cv
  rw [← s2_flat xs ys k (fun n => if ((n : Int) - i) % ((2 ^ k : Nat) : Int) = 0 then 1 else 0)]
  simpa using this

theorem eighth {U W K e C q : Nat} {v x c : Int} (hW : U = 2 ^ 50 * W) (hU : 2 ^ 100 ≤ U) (hK : 1 ≤ K) (hK2 : K ≤ 1024) (hc : c.natAbs ≤ 2 ^ 34) (he : e ≤ K * 2 ^ 46) (h1 : (x - K * U * c).natAbs ≤ e * W) (h2 : 2 ^ 53 * ((K : Int) * v - x).natAbs ≤ x.natAbs + 2 ^ 53 * K) : 8 * (v - U * c).natAbs ≤ U := by
  have e0 : (K : Int) * (v - U * c) = ((K : Int) * v - x) + (x - K * U * c) := by grind
  have s := abs_scale K (v - U * c)
  have s2 : ((K : Int) * U * c).natAbs ≤ K * U * 2 ^ 34 := by
    rw [Int.natAbs_mul, Int.natAbs_mul]
    exact Nat.mul_le_mul_left _ hc
  have h3 : e * W ≤ K * 2 ^ 46 * W := Nat.mul_le_mul_right _ he
  have e1 : 16 * (K * 2 ^ 46 * W) = K * U := by rw [hW]; grind
  have h4 : K * (8 * (v - U * c).natAbs) ≤ K * U := by
    have e2 : K * (8 * (v - U * c).natAbs) = 8 * (K * (v - U * c).natAbs) := by grind
    rw [e2, ← s, e0]
    have hKU : 2 ^ 100 ≤ K * U := Nat.le_trans hU (Nat.le_mul_of_pos_left _ hK)
    have e3 : K * U * 2 ^ 34 = 2 ^ 34 * (K * U) := Nat.mul_comm _ _
    rw [e3] at s2
    generalize (K : Int) * U * c = g at *
    generalize K * U = q at *
    generalize K * 2 ^ 46 * W = r at *
    generalize e * W = f at *
    generalize (K : Int) * v = kv at *
    omega
  exact Nat.le_of_mul_le_mul_left h4 (by omega)

theorem UU_big : 2 ^ 100 ≤ UU := by rw [UU_eq]; exact pow_mono 100 1074 (by omega)

theorem big_bd {U W K e : Nat} {v c : Int} (hW : U = 2 ^ 50 * W) (hK2 : K ≤ 1024) (he : e ≤ K * 2 ^ 46) (g1 : c.natAbs ≤ 17045913600) (g2 : (v - (K : Int) * U * c).natAbs ≤ e * W) : v.natAbs ≤ 2 ^ 100 * U := by
  have a1 : ((K : Int) * U * c).natAbs ≤ K * U * 17045913600 := by
    rw [Int.natAbs_mul, Int.natAbs_mul]; exact Nat.mul_le_mul_left _ g1
  have a2 : K * U ≤ 1024 * U := Nat.mul_le_mul_right _ hK2
  have a3 : e * W ≤ K * 2 ^ 46 * W := Nat.mul_le_mul_right _ he
  have a4 : K * W ≤ 1024 * W := Nat.mul_le_mul_right _ hK2
  have a5 : K * 2 ^ 46 * W = 2 ^ 46 * (K * W) := by grind
  have a6 : ((K : Int) * U * c).natAbs ≤ 17045913600 * (K * U) := by rw [Nat.mul_comm]; exact a1
  rw [a5] at a3
  clear a1 a5 g1 he
  generalize (K : Int) * U * c = q at *
  generalize e * W = f at *
  generalize K * U = g at *
  generalize K * W = h at *
  omega

/-- What shadow.Run computes. -/
theorem run_near {k d : Nat} {xs ys : List Int} (h1 : 1 ≤ k) (h2 : k ≤ 10) (hd : d ≤ 255) (hx : Digs d xs) (hy : Digs d ys) (lx : xs.length ≤ 512) (ly : ys.length ≤ 512) (i : Nat) (hi : i < 2 ^ k) :
    Finite (zf (shRun k d xs ys) i).1 ∧ Finite (zf (shRun k d xs ys) i).2 ∧ 8 * (V (zf (shRun k d xs ys) i).1 - UU * cv xs ys k i).natAbs ≤ UU ∧ 8 * (V (zf (shRun k d xs ys) i).2).natAbs ≤ UU := by
  have nb := back_near h1 h2 hd hx hy lx ly (most (k + 1) d) i hi
  have hz : zf (shRun k d xs ys) i = (fquo (zf (bws k d ((tab k).map conj) k 1 (rvs k (tms (fwd k d xs) (fwd k d ys) (most (k + 1) d)))) i).1 (dbl ((2 ^ k : Nat) : Int)), fquo (zf (bws k d ((tab k).map conj) k 1 (rvs k (tms (fwd k d xs) (fwd k d ys) (most (k + 1) d)))) i).2 (dbl ((2 ^ k : Nat) : Int))) := by
    unfold zf shRun dvs
    rw [List.getD_eq_getElem?_getD, List.getElem?_map, List.getElem?_range (by rw [bws_length, rvs_length, tms_length, fwd_length]; exact hi)]
    rfl
  rw [hz]
  generalize zf (bws k d ((tab k).map conj) k 1 (rvs k (tms (fwd k d xs) (fwd k d ys) (most (k + 1) d)))) i = z at *
  have hc := cv_bd hd hx hy lx ly k i
  have hk1 : 1 ≤ 2 ^ k := Nat.two_pow_pos k
  have hk2 : 2 ^ k ≤ 1024 := Nat.pow_le_pow_right (n := 2) (by omega) h2
  have he := (eb_ok ⟨k, by omega⟩).2
  simp only at he
  have hbig : ∀ {v c : Int}, c.natAbs ≤ 17045913600 → (v - ((2 ^ k : Nat) : Int) * UU * c).natAbs ≤ eb k * WU → v.natAbs ≤ 2 ^ 100 * UU := fun g1 g2 => big_bd WU_UU hk2 he g1 g2
  obtain ⟨f1, q1⟩ := quo_V z.1 k h2 nb.f1 (hbig hc nb.d1)
  have n2 : (V z.2 - ((2 ^ k : Nat) : Int) * UU * 0).natAbs ≤ eb k * WU := by rw [Int.mul_zero]; exact nb.d2
  obtain ⟨f2, q2⟩ := quo_V z.2 k h2 nb.f2 (hbig (c := 0) (by decide) n2)
  refine ⟨f1, f2, ?_, ?_⟩
  · exact eighth (C := 0) (q := 0) WU_UU UU_big hk1 hk2 (by omega) he nb.d1 q1
  · have := eighth (C := 0) (q := 0) (c := 0) WU_UU UU_big hk1 hk2 (by decide) he n2 q2
    rw [Int.mul_zero, Int.sub_zero] at this
    exact this
end Go.Proofs.Ygctak.Ft
