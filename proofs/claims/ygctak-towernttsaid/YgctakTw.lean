/-
  Complex doubles; tw.Mul, tw.Conj, tw.Base.
-/
import Derived.Test.YgctakRows
import Derived.Test.YgctakMem2
import Derived.Test.YgctakFl2
import Derived.WalkLawsBesides
import Derived.Laws.ComplexArith
import Derived.RegionTactic
import Derived.BigRegion
import Derived.Deep.RegionWith
import Derived.Deep.DrawnRows
import Derived.Deep.DeepCutAuto
import Derived.Deep.CutBlock
namespace Go.Proofs.Ygctak
open Go.RowKit
set_option linter.unusedVariables false
set_option linter.unusedSimpArgs false
attribute [local go_sem ↓] Go.wp_at_zero Go.wp_at_succ
namespace Fl

/-- Finite, and at most 2^E in magnitude. -/
def Fin (E : Nat) (x : Nat) : Prop := Finite x ∧ (V x).natAbs ≤ 2 ^ (E + 1074)
def Fc (E : Nat) (z : Nat × Nat) : Prop := Fin E z.1 ∧ Fin E z.2

theorem Fin.mono {E F x : Nat} (h : Fin E x) (hf : E ≤ F) : Fin F x := ⟨h.1, Nat.le_trans h.2 (pow_mono _ _ (by omega))⟩
theorem Fc.mono {E F : Nat} {z : Nat × Nat} (h : Fc E z) (hf : E ≤ F) : Fc F z := ⟨h.1.mono hf, h.2.mono hf⟩

theorem Fin.mul {E F x y : Nat} (hx : Fin E x) (hy : Fin F y) (h : E + F ≤ 1023) : ∃ r, floatBits .mul .f64 x y = some r ∧ Fin (E + F) r := by
  have hb : (V x * V y).natAbs ≤ 2 ^ (E + F + 2148) := by
    rw [Int.natAbs_mul, pow_split (E + F + 2148) (E + 1074) (F + 1074) (by omega)]
    exact Nat.mul_le_mul hx.2 hy.2
  obtain ⟨r, _, h1, h2, h3, _⟩ := mul_spec x y (E + F) hx.1 hy.1 h hb
  exact ⟨r, h1, h2, h3⟩
theorem Fin.add {E x y : Nat} (hx : Fin E x) (hy : Fin E y) (h : E + 1 ≤ 1023) : ∃ r, floatBits .add .f64 x y = some r ∧ Fin (E + 1) r := by
  have hb : (V x + V y).natAbs ≤ 2 ^ (E + 1 + 1074) := by
    have h1 := hx.2
    have h2 := hy.2
    have h3 : 2 ^ (E + 1 + 1074) = 2 ^ (E + 1074) * 2 ^ 1 := pow_split (E + 1 + 1074) (E + 1074) 1 (by omega)
    rw [h3]
    generalize 2 ^ (E + 1074) = A at *
    omega
  obtain ⟨r, h1, h2, h3, _⟩ := add_spec x y (E + 1) hx.1 hy.1 h hb
  exact ⟨r, h1, h2, h3⟩
theorem Fin.sub {E x y : Nat} (hx : Fin E x) (hy : Fin E y) (h : E + 1 ≤ 1023) : ∃ r, floatBits .sub .f64 x y = some r ∧ Fin (E + 1) r := by
  have hb : (V x - V y).natAbs ≤ 2 ^ (E + 1 + 1074) := by
    have h1 := hx.2
    have h2 := hy.2
    have h3 : 2 ^ (E + 1 + 1074) = 2 ^ (E + 1074) * 2 ^ 1 := pow_split (E + 1 + 1074) (E + 1074) 1 (by omega)
    rw [h3]
    generalize 2 ^ (E + 1074) = A at *
    omega
  obtain ⟨r, h1, h2, h3, _⟩ := sub_spec x y (E + 1) hx.1 hy.1 h hb
  exact ⟨r, h1, h2, h3⟩

/-- tw.Mul, plainly. -/
def cmul (x y : Nat × Nat) : Nat × Nat := (cMulBits x.1 x.2 y.1 y.2).getD (0, 0)
def cadd (x y : Nat × Nat) : Nat × Nat := (cSumBits .add .f64 x.1 x.2 y.1 y.2).getD (0, 0)
def csub (x y : Nat × Nat) : Nat × Nat := (cSumBits .sub .f64 x.1 x.2 y.1 y.2).getD (0, 0)

theorem cmul_fin {E F : Nat} {x y : Nat × Nat} (hx : Fc E x) (hy : Fc F y) (h : E + F + 1 ≤ 1023) : cMulBits x.1 x.2 y.1 y.2 = some (cmul x y) ∧ Fc (E + F + 1) (cmul x y) := by
  obtain ⟨ac, a1, a2⟩ := hx.1.mul hy.1 (by omega)
  obtain ⟨bd, b1, b2⟩ := hx.2.mul hy.2 (by omega)
  obtain ⟨ad, c1, c2⟩ := hx.1.mul hy.2 (by omega)
  obtain ⟨bc, d1, d2⟩ := hx.2.mul hy.1 (by omega)
  obtain ⟨re, e1, e2⟩ := a2.sub b2 h
  obtain ⟨im, f1, f2⟩ := c2.add d2 h
  have : cMulBits x.1 x.2 y.1 y.2 = some (re, im) := by unfold cMulBits; simp [a1, b1, c1, d1, e1, f1]
  unfold cmul
  rw [this]
  exact ⟨rfl, e2, f2⟩
theorem cadd_fin {E : Nat} {x y : Nat × Nat} (hx : Fc E x) (hy : Fc E y) (h : E + 1 ≤ 1023) : cSumBits .add .f64 x.1 x.2 y.1 y.2 = some (cadd x y) ∧ Fc (E + 1) (cadd x y) := by
  obtain ⟨re, e1, e2⟩ := hx.1.add hy.1 h
  obtain ⟨im, f1, f2⟩ := hx.2.add hy.2 h
  have : cSumBits .add .f64 x.1 x.2 y.1 y.2 = some (re, im) := by unfold cSumBits; simp [e1, f1]
  unfold cadd
  rw [this]
  exact ⟨rfl, e2, f2⟩
theorem csub_fin {E : Nat} {x y : Nat × Nat} (hx : Fc E x) (hy : Fc E y) (h : E + 1 ≤ 1023) : cSumBits .sub .f64 x.1 x.2 y.1 y.2 = some (csub x y) ∧ Fc (E + 1) (csub x y) := by
  obtain ⟨re, e1, e2⟩ := hx.1.sub hy.1 h
  obtain ⟨im, f1, f2⟩ := hx.2.sub hy.2 h
  have : cSumBits .sub .f64 x.1 x.2 y.1 y.2 = some (re, im) := by unfold cSumBits; simp [e1, f1]
  unfold csub
  rw [this]
  exact ⟨rfl, e2, f2⟩

theorem Mul_any (a b c d p q : Nat) (w : World) (h : cMulBits a b c d = some (p, q)) :
    Calls Takg.prog 59 #[.complex .f64 a b, .complex .f64 c d] w fun e w' => e = .returned (.complex .f64 p q) ∧ w' = w := by
  unfold cMulBits at h
  obtain ⟨ac, h1, h⟩ := bind_some h
  obtain ⟨bd, h2, h⟩ := bind_some h
  obtain ⟨re, h3, h⟩ := bind_some h
  obtain ⟨ad, h4, h⟩ := bind_some h
  obtain ⟨bc, h5, h⟩ := bind_some h
  obtain ⟨im, h6, h⟩ := bind_some h
  cases h
  have r1 := fun w => run_float_arith (P := Takg.prog) w .mul 122 .f64 a c ac h1
  have r2 := fun w => run_float_arith (P := Takg.prog) w .mul 122 .f64 b d bd h2
  have r3 := fun w => run_float_arith (P := Takg.prog) w .sub 122 .f64 ac bd p h3
  have r4 := fun w => run_float_arith (P := Takg.prog) w .mul 122 .f64 a d ad h4
  have r5 := fun w => run_float_arith (P := Takg.prog) w .mul 122 .f64 b c bc h5
  have r6 := fun w => run_float_arith (P := Takg.prog) w .add 122 .f64 ad bc q h6
  clear h1 h2 h3 h4 h5 h6
  go_enter Takg.func59, Takg.ntmps59
  go_wp2
  go_ret
  exact ⟨rfl, rfl⟩
end Fl
end Go.Proofs.Ygctak
