/-
  The errors of a product and of a butterfly in doubles.
-/
import Derived.Test.YgctakFt3
set_option linter.unusedVariables false
set_option linter.unusedSimpArgs false
set_option exponentiation.threshold 3000
namespace Go.Proofs.Ygctak.Ft
open Fl Sh

/-- 1.0, in units of 2^-1074. -/
@[irreducible] def UU : Nat := 2 ^ 1074
/-- What an underflow may cost. -/
@[irreducible] def KK : Nat := 2 ^ 1126
theorem UU_eq : UU = 2 ^ 1074 := by unfold UU; rfl
theorem KK_eq : KK = 2 ^ 1126 := by unfold KK; rfl
theorem UU_pos : 0 < UU := by rw [UU_eq]; exact Nat.two_pow_pos 1074
theorem UU_int : (2 : Int) ^ 1074 = (UU : Int) := by rw [UU_eq]; exact (Fl.ipow 1074).symm
theorem pow_UU (E : Nat) : 2 ^ (E + 1074) = 2 ^ E * UU := by rw [UU_eq, Nat.pow_add]
theorem UU2 : 2 ^ 2148 = UU * UU := (UU_eq ▸ pow_split 2148 1074 1074 (by omega) : 2 ^ 2148 = UU * UU)
theorem pow_UU2 (E : Nat) : 2 ^ (E + 2148) = 2 ^ E * (UU * UU) := by rw [← UU2]; exact Nat.pow_add 2 E 2148
theorem KK_small : 2 ^ 60 * KK ≤ UU * UU := by
  rw [← UU2, KK_eq, ← pow_split 1186 60 1126 (by omega)]
  exact pow_mono 1186 2148 (by omega)

/-- A product of two doubles. -/
theorem fmul_err {x y M : Nat} (hx : Finite x) (hy : Finite y) (h : (V x * V y).natAbs ≤ 2 ^ 120 * (UU * UU)) :
    ∃ r, floatBits .mul .f64 x y = some r ∧ Finite r ∧ (V r).natAbs ≤ 2 ^ 120 * UU ∧ 2 ^ 53 * ((UU : Int) * V r - V x * V y).natAbs ≤ (V x * V y).natAbs + KK := by
  obtain ⟨r, U, h1, h2, h3, h4, h5⟩ := mul_spec x y 120 hx hy (by omega) (by rw [pow_UU2]; exact h)
  rw [pow_UU] at h3
  refine ⟨r, h1, h2, h3, ?_⟩
  rw [UU_int, Int.mul_comm] at h4
  rcases h5 with h5 | h5
  · exact Nat.le_trans (Nat.mul_le_mul_left _ h4) (by omega)
  · have e : 2 ^ 53 * U = KK := by rw [h5, KK_eq, ← pow_split 1126 53 1073 (by omega)]
    have := Nat.mul_le_mul_left (2 ^ 53) h4
    rw [e] at this
    omega
theorem fadd_err {x y : Nat} (hx : Finite x) (hy : Finite y) (h : (V x + V y).natAbs ≤ 2 ^ 130 * UU) :
    ∃ r, floatBits .add .f64 x y = some r ∧ Finite r ∧ 2 ^ 53 * (V r - (V x + V y)).natAbs ≤ (V x + V y).natAbs := by
  obtain ⟨r, h1, h2, _, h3⟩ := add_spec x y 130 hx hy (by omega) (by rw [pow_UU]; exact h)
  exact ⟨r, h1, h2, h3⟩
theorem fsub_err {x y : Nat} (hx : Finite x) (hy : Finite y) (h : (V x - V y).natAbs ≤ 2 ^ 130 * UU) :
    ∃ r, floatBits .sub .f64 x y = some r ∧ Finite r ∧ 2 ^ 53 * (V r - (V x - V y)).natAbs ≤ (V x - V y).natAbs := by
  obtain ⟨r, h1, h2, _, h3⟩ := sub_spec x y 130 hx hy (by omega) (by rw [pow_UU]; exact h)
  exact ⟨r, h1, h2, h3⟩

theorem abs_scale (U : Nat) (x : Int) : ((U : Int) * x).natAbs = U * x.natAbs := by rw [Int.natAbs_mul]; rfl

/-- Two products and their sum. -/
theorem two_prod {U K : Nat} {p q A B R : Int} (h1 : 2 ^ 53 * ((U : Int) * A - p).natAbs ≤ p.natAbs + K) (h2 : 2 ^ 53 * ((U : Int) * B - q).natAbs ≤ q.natAbs + K) (h3 : 2 ^ 53 * (R - (A + B)).natAbs ≤ (A + B).natAbs) :
    2 ^ 53 * ((U : Int) * R - (p + q)).natAbs ≤ 3 * (p.natAbs + q.natAbs) + 4 * K := by
  have e : (U : Int) * R - (p + q) = (U : Int) * (R - (A + B)) + ((U : Int) * A - p) + ((U : Int) * B - q) := by grind
  have s1 := abs_scale U (R - (A + B))
  have s2 := abs_scale U (A + B)
  have e2 : (U : Int) * (A + B) = (p + q) + ((U : Int) * A - p) + ((U : Int) * B - q) := by grind
  have h4 : 2 ^ 53 * (U * (R - (A + B)).natAbs) ≤ U * (A + B).natAbs := by
    have := Nat.mul_le_mul_left U h3
    rw [← Nat.mul_assoc, Nat.mul_comm U (2 ^ 53), Nat.mul_assoc] at this
    exact this
  rw [e]
  rw [e2] at s2
  generalize (U : Int) * A - p = a at *
  generalize (U : Int) * B - q = b at *
  generalize (U : Int) * (R - (A + B)) = c at *
  generalize U * (A + B).natAbs = d at *
  generalize U * (R - (A + B)).natAbs = f at *
  omega

theorem in_range {a b : Int} {u : Nat} (h1 : a.natAbs ≤ 2 ^ 120 * u) (h2 : b.natAbs ≤ 2 ^ 120 * u) : (a + b).natAbs ≤ 2 ^ 130 * u ∧ (a - b).natAbs ≤ 2 ^ 130 * u := by omega

/-- tw.Mul of two complex doubles whose parts are at most X and Y. -/
theorem cmul_err {x y : Nat × Nat} {X Y : Nat} (x1 : Finite x.1) (x2 : Finite x.2) (y1 : Finite y.1) (y2 : Finite y.2) (hx1 : (V x.1).natAbs ≤ X) (hx2 : (V x.2).natAbs ≤ X) (hy1 : (V y.1).natAbs ≤ Y) (hy2 : (V y.2).natAbs ≤ Y) (hXY : X * Y ≤ 2 ^ 120 * (UU * UU)) :
    Finite (cmul x y).1 ∧ Finite (cmul x y).2 ∧
    2 ^ 53 * ((UU : Int) * V (cmul x y).1 - (V x.1 * V y.1 - V x.2 * V y.2)).natAbs ≤ 3 * ((V x.1 * V y.1).natAbs + (V x.2 * V y.2).natAbs) + 4 * KK ∧
    2 ^ 53 * ((UU : Int) * V (cmul x y).2 - (V x.1 * V y.2 + V x.2 * V y.1)).natAbs ≤ 3 * ((V x.1 * V y.2).natAbs + (V x.2 * V y.1).natAbs) + 4 * KK := by
  have pb : ∀ {a b : Int}, a.natAbs ≤ X → b.natAbs ≤ Y → (a * b).natAbs ≤ 2 ^ 120 * (UU * UU) := fun ha hb => by
    rw [Int.natAbs_mul]; exact Nat.le_trans (Nat.mul_le_mul ha hb) hXY
  obtain ⟨ac, a1, a2, a3, a4⟩ := fmul_err (M := 0) x1 y1 (pb hx1 hy1)
  obtain ⟨bd, b1, b2, b3, b4⟩ := fmul_err (M := 0) x2 y2 (pb hx2 hy2)
  obtain ⟨ad, c1, c2, c3, c4⟩ := fmul_err (M := 0) x1 y2 (pb hx1 hy2)
  obtain ⟨bc, d1, d2, d3, d4⟩ := fmul_err (M := 0) x2 y1 (pb hx2 hy1)
  obtain ⟨re, e1, e2, e3⟩ := fsub_err a2 b2 (in_range a3 b3).2
  obtain ⟨im, f1, f2, f3⟩ := fadd_err c2 d2 (in_range c3 d3).1
  have hc : cmul x y = (re, im) := by unfold cmul cMulBits; simp [a1, b1, c1, d1, e1, f1]
  rw [hc]
  refine ⟨e2, f2, ?_, ?_⟩
  · have h := two_prod (U := UU) (K := KK) (p := V x.1 * V y.1) (q := -(V x.2 * V y.2)) (A := V ac) (B := -V bd) (R := V re) a4 (by
      have : (UU : Int) * -V bd - -(V x.2 * V y.2) = -((UU : Int) * V bd - V x.2 * V y.2) := by grind
      rw [this, Int.natAbs_neg, Int.natAbs_neg]; exact b4) (by rw [← Int.sub_eq_add_neg]; exact e3)
    rw [← Int.sub_eq_add_neg, Int.natAbs_neg] at h
    exact h
  · exact two_prod (U := UU) (K := KK) c4 d4 f3

/-- u + b where U*b is near e. -/
theorem sum_err {U Q M : Nat} {u b e R : Int} (hQ : Q = U * U) (hu : u.natAbs ≤ M * U) (he : 16384 * e.natAbs ≤ 23171 * (M * Q)) (hb : 2 ^ 53 * ((U : Int) * b - e).natAbs ≤ 5 * (M * Q)) (hR : 2 ^ 53 * (R - (u + b)).natAbs ≤ (u + b).natAbs) :
    2 ^ 50 * ((U : Int) * R - ((U : Int) * u + e)).natAbs ≤ M * Q := by
  have h0 : (U : Int) * R - ((U : Int) * u + e) = (U : Int) * (R - (u + b)) + ((U : Int) * b - e) := by grind
  have s1 := abs_scale U (R - (u + b))
  have s2 := abs_scale U (u + b)
  have s3 := abs_scale U u
  have e2 : (U : Int) * (u + b) = (U : Int) * u + e + ((U : Int) * b - e) := by grind
  have h4 : 2 ^ 53 * (U * (R - (u + b)).natAbs) ≤ U * (u + b).natAbs := by
    have := Nat.mul_le_mul_left U hR
    rw [← Nat.mul_assoc, Nat.mul_comm U (2 ^ 53), Nat.mul_assoc] at this
    exact this
  have h5 : U * u.natAbs ≤ M * Q := by
    have := Nat.mul_le_mul_left U hu
    rw [hQ]
    have e3 : U * (M * U) = M * (U * U) := by grind
    omega
  rw [h0]
  rw [e2] at s2
  generalize (U : Int) * b - e = a at *
  generalize (U : Int) * (R - (u + b)) = c at *
  generalize U * (u + b).natAbs = d at *
  generalize U * (R - (u + b)).natAbs = f at *
  generalize (U : Int) * u = g at *
  generalize U * u.natAbs = g2 at *
  generalize M * Q = T at *
  omega

/-- A butterfly. -/
structure Bfly (M : Nat) (u v r : Nat × Nat) (o : Nat × Nat) (s : Int) : Prop where
  f1 : Finite o.1
  f2 : Finite o.2
  e1 : 2 ^ 50 * ((UU : Int) * V o.1 - ((UU : Int) * V u.1 + s * (V v.1 * V r.1 - V v.2 * V r.2))).natAbs ≤ M * (UU * UU)
  e2 : 2 ^ 50 * ((UU : Int) * V o.2 - ((UU : Int) * V u.2 + s * (V v.1 * V r.2 + V v.2 * V r.1))).natAbs ≤ M * (UU * UU)

theorem butterfly {M : Nat} {u v r : Nat × Nat} (hM : 1 ≤ M) (hM2 : M ≤ 2 ^ 60) (u1 : Finite u.1) (u2 : Finite u.2) (v1 : Finite v.1) (v2 : Finite v.2) (r1 : Finite r.1) (r2 : Finite r.2)
    (bu1 : (V u.1).natAbs ≤ M * UU) (bu2 : (V u.2).natAbs ≤ M * UU) (bv1 : (V v.1).natAbs ≤ M * UU) (bv2 : (V v.2).natAbs ≤ M * UU) (br1 : (V r.1).natAbs ≤ UU) (br2 : (V r.2).natAbs ≤ UU) (bs : 16384 * ((V r.1).natAbs + (V r.2).natAbs) ≤ 23171 * UU) :
    Bfly M u v r (cadd u (cmul v r)) 1 ∧ Bfly M u v r (csub u (cmul v r)) (-1) := by
  have hXY : M * UU * UU ≤ 2 ^ 120 * (UU * UU) := by
    rw [Nat.mul_assoc]; exact Nat.mul_le_mul_right _ (Nat.le_trans hM2 (by decide))
  obtain ⟨c1, c2, c3, c4⟩ := cmul_err v1 v2 r1 r2 bv1 bv2 br1 br2 hXY
  generalize cmul v r = b at *
  -- the exact products
  obtain ⟨p1, _⟩ := prod_le (x1 := V r.1) (x2 := V r.2) bv1 bv2
  obtain ⟨_, p2⟩ := prod_le (x1 := V r.1) (x2 := V r.2) bv1 bv2
  have hK := KK_small
  have hQ : 0 < UU * UU := Nat.mul_pos UU_pos UU_pos
  have q0 : 16384 * (((V r.1).natAbs + (V r.2).natAbs) * (M * UU)) ≤ 23171 * (M * (UU * UU)) := by
    have := Nat.mul_le_mul_right (M * UU) bs
    have e : 23171 * UU * (M * UU) = 23171 * (M * (UU * UU)) := by grind
    rw [Nat.mul_assoc, e] at this
    exact this
  have hMQ : UU * UU ≤ M * (UU * UU) := Nat.le_mul_of_pos_left _ hM
  have aa : ∀ {a1 a2 b1 b2 : Int}, a1.natAbs ≤ M * UU → a2.natAbs ≤ M * UU → (a1 * b1).natAbs + (a2 * b2).natAbs ≤ (b1.natAbs + b2.natAbs) * (M * UU) := fun h1 h2 => by
    rw [Int.natAbs_mul, Int.natAbs_mul, Nat.add_mul]
    have k1 := Nat.mul_le_mul_right (Int.natAbs ‹_›) h1
    exact Nat.add_le_add (by rw [Nat.mul_comm]; exact Nat.mul_le_mul_left _ h1) (by rw [Nat.mul_comm]; exact Nat.mul_le_mul_left _ h2)
  have g1 := aa (b1 := V r.1) (b2 := V r.2) bv1 bv2
  have g2 : (V v.1 * V r.2).natAbs + (V v.2 * V r.1).natAbs ≤ ((V r.1).natAbs + (V r.2).natAbs) * (M * UU) := by
    have := aa (b1 := V r.2) (b2 := V r.1) bv1 bv2
    rw [Nat.add_comm (V r.1).natAbs]; exact this
  have k1 : 16384 * (V v.1 * V r.1 - V v.2 * V r.2).natAbs ≤ 23171 * (M * (UU * UU)) := by
    have : (V v.1 * V r.1 - V v.2 * V r.2).natAbs ≤ (V v.1 * V r.1).natAbs + (V v.2 * V r.2).natAbs := by omega
    omega
  have k2 : 16384 * (V v.1 * V r.2 + V v.2 * V r.1).natAbs ≤ 23171 * (M * (UU * UU)) := by
    have : (V v.1 * V r.2 + V v.2 * V r.1).natAbs ≤ (V v.1 * V r.2).natAbs + (V v.2 * V r.1).natAbs := by omega
    omega
  have m1 : 2 ^ 53 * ((UU : Int) * V b.1 - (V v.1 * V r.1 - V v.2 * V r.2)).natAbs ≤ 5 * (M * (UU * UU)) := by omega
  have m2 : 2 ^ 53 * ((UU : Int) * V b.2 - (V v.1 * V r.2 + V v.2 * V r.1)).natAbs ≤ 5 * (M * (UU * UU)) := by omega
  -- the sums are in range
  have bb : ∀ {z e : Int}, 16384 * e.natAbs ≤ 23171 * (M * (UU * UU)) → 2 ^ 53 * ((UU : Int) * z - e).natAbs ≤ 5 * (M * (UU * UU)) → z.natAbs ≤ 2 * M * UU := by
    intro z e h1 h2
    have h3 : UU * z.natAbs ≤ UU * (2 * M * UU) := by
      rw [← abs_scale, show UU * (2 * M * UU) = 2 * (M * (UU * UU)) by grind]
      have : ((UU : Int) * z).natAbs ≤ e.natAbs + ((UU : Int) * z - e).natAbs := by omega
      omega
    exact Nat.le_of_mul_le_mul_left h3 UU_pos
  have b1 := bb k1 m1
  have b2 := bb k2 m2
  have big : ∀ {a c : Int}, a.natAbs ≤ M * UU → c.natAbs ≤ 2 * M * UU → (a + c).natAbs ≤ 2 ^ 130 * UU ∧ (a - c).natAbs ≤ 2 ^ 130 * UU := by
    intro a c h1 h2
    have h3 : 3 * M * UU ≤ 2 ^ 130 * UU := Nat.mul_le_mul_right _ (by omega)
    have h4 : 3 * M * UU = M * UU + 2 * M * UU := by grind
    omega
  obtain ⟨a1, x1, x2, x3⟩ := fadd_err u1 c1 (big bu1 b1).1
  obtain ⟨a2, y1, y2, y3⟩ := fadd_err u2 c2 (big bu2 b2).1
  obtain ⟨d1, z1, z2, z3⟩ := fsub_err u1 c1 (big bu1 b1).2
  obtain ⟨d2, w1, w2, w3⟩ := fsub_err u2 c2 (big bu2 b2).2
  have ha : cadd u b = (a1, a2) := by unfold cadd cSumBits; simp [x1, y1]
  have hs : csub u b = (d1, d2) := by unfold csub cSumBits; simp [z1, w1]
  rw [ha, hs]
  refine ⟨⟨x2, y2, ?_, ?_⟩, ⟨z2, w2, ?_, ?_⟩⟩
  · rw [Int.one_mul]; exact sum_err rfl bu1 k1 m1 x3
  · rw [Int.one_mul]; exact sum_err rfl bu2 k2 m2 y3
  · have e : (-1 : Int) * (V v.1 * V r.1 - V v.2 * V r.2) = -(V v.1 * V r.1 - V v.2 * V r.2) := by omega
    rw [e]
    refine sum_err (b := -V b.1) rfl bu1 (by rw [Int.natAbs_neg]; exact k1) ?_ (by rw [← Int.sub_eq_add_neg]; exact z3)
    have e2 : (UU : Int) * -V b.1 - -(V v.1 * V r.1 - V v.2 * V r.2) = -((UU : Int) * V b.1 - (V v.1 * V r.1 - V v.2 * V r.2)) := by grind
    rw [e2, Int.natAbs_neg]; exact m1
  · have e : (-1 : Int) * (V v.1 * V r.2 + V v.2 * V r.1) = -(V v.1 * V r.2 + V v.2 * V r.1) := by omega
    rw [e]
    refine sum_err (b := -V b.2) rfl bu2 (by rw [Int.natAbs_neg]; exact k2) ?_ (by rw [← Int.sub_eq_add_neg]; exact w3)
    have e2 : (UU : Int) * -V b.2 - -(V v.1 * V r.2 + V v.2 * V r.1) = -((UU : Int) * V b.2 - (V v.1 * V r.2 + V v.2 * V r.1)) := by grind
    rw [e2, Int.natAbs_neg]; exact m2
end Go.Proofs.Ygctak.Ft
