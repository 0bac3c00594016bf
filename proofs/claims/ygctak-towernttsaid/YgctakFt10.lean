/-
  The products, the way back, the convolution.
-/
import Derived.Test.YgctakFt9
set_option linter.unusedVariables false
set_option linter.unusedSimpArgs false
set_option exponentiation.threshold 3000
namespace Go.Proofs.Ygctak.Ft
open Fl Sh

theorem sm_flat (f : Nat → Int) (M : Nat) : ∀ N, sm f (N * M) = sm (fun p => sm (fun q => f (p * M + q)) M) N
  | 0 => by simp [sm]
  | N + 1 => by rw [Nat.add_mul, Nat.one_mul, sm_append, sm_flat f M N]; rfl

/-- The family of the way back. -/
def Gb (xs ys : List Int) (k : Nat) : Nat → Int → Int × Int :=
  Gf (2 ^ k * 2 ^ k) (fun _ n => dg xs (n / 2 ^ k) * dg ys (n % 2 ^ k)) (fun i n => (((n / 2 ^ k + n % 2 ^ k) * i * 2 ^ (10 - k) : Nat) : Int))

/-- A double sum. -/
def s2 (xs ys : List Int) (k : Nat) (g : Nat → Int) : Int := sm (fun p => sm (fun q => dg xs p * dg ys q * g (p + q)) (2 ^ k)) (2 ^ k)

theorem s2_flat (xs ys : List Int) (k : Nat) (g : Nat → Int) : sm (fun n => dg xs (n / 2 ^ k) * dg ys (n % 2 ^ k) * g (n / 2 ^ k + n % 2 ^ k)) (2 ^ k * 2 ^ k) = s2 xs ys k g := by
  rw [sm_flat]
  unfold s2
  refine sm_congr fun p hp => sm_congr fun q hq => ?_
  have e1 : (p * 2 ^ k + q) / 2 ^ k = p := by rw [Nat.mul_comm, Nat.mul_add_div (Nat.two_pow_pos k), Nat.div_eq_of_lt hq, Nat.add_zero]
  have e2 : (p * 2 ^ k + q) % 2 ^ k = q := by rw [Nat.mul_comm, Nat.mul_add_mod, Nat.mod_eq_of_lt hq]
  rw [e1, e2]

theorem Gb_eq (xs ys : List Int) (k i : Nat) (p : Int) : Gb xs ys k i p = (SC * s2 xs ys k (fun n => (ww (((n * i * 2 ^ (10 - k) : Nat) : Int) + p)).1), SC * s2 xs ys k (fun n => (ww (((n * i * 2 ^ (10 - k) : Nat) : Int) + p)).2)) := by
  unfold Gb Gf
  rw [s2_flat xs ys k (fun n => (ww (((n * i * 2 ^ (10 - k) : Nat) : Int) + p)).1), s2_flat xs ys k (fun n => (ww (((n * i * 2 ^ (10 - k) : Nat) : Int) + p)).2)]

theorem dg_S {d : Nat} {xs : List Int} (hd : d ≤ 255) (h : Digs d xs) (hl : xs.length ≤ 512) (n : Nat) : 0 ≤ sm (dg xs) n ∧ sm (dg xs) n ≤ 130560 := by
  have := dg_sum hd h n
  have : min n xs.length ≤ 512 := by omega
  omega

theorem Gb_w {d : Nat} {xs ys : List Int} (hd : d ≤ 255) (hx : Digs d xs) (hy : Digs d ys) (lx : xs.length ≤ 512) (ly : ys.length ≤ 512) (k : Nat) : sm (fun n => ((dg xs (n / 2 ^ k) * dg ys (n % 2 ^ k)).natAbs : Int)) (2 ^ k * 2 ^ k) ≤ ((17045913600 : Nat) : Int) := by
  have e : sm (fun n => ((dg xs (n / 2 ^ k) * dg ys (n % 2 ^ k)).natAbs : Int)) (2 ^ k * 2 ^ k) = sm (fun n => dg xs (n / 2 ^ k) * dg ys (n % 2 ^ k) * (fun _ => 1) (n / 2 ^ k + n % 2 ^ k)) (2 ^ k * 2 ^ k) := sm_congr fun n _ => by
    have a := dg_bd hd hx (n / 2 ^ k)
    have b := dg_bd hd hy (n % 2 ^ k)
    have := Int.mul_nonneg a.1 b.1
    simp only [Int.mul_one]
    omega
  rw [e, s2_flat xs ys k (fun _ => 1)]
  have e2 : s2 xs ys k (fun _ => 1) = sm (dg ys) (2 ^ k) * sm (dg xs) (2 ^ k) := by
    unfold s2
    rw [← sm_mul]
    refine sm_congr fun p _ => ?_
    rw [Int.mul_comm, ← sm_mul]
    exact sm_congr fun q _ => by grind
  rw [e2]
  obtain ⟨a1, a2⟩ := dg_S hd hx lx (2 ^ k)
  obtain ⟨b1, b2⟩ := dg_S hd hy ly (2 ^ k)
  have := Int.mul_le_mul b2 a2 a1 (by omega)
  omega

theorem Gb_fam {d : Nat} {xs ys : List Int} (hd : d ≤ 255) (hx : Digs d xs) (hy : Digs d ys) (lx : xs.length ≤ 512) (ly : ys.length ≤ 512) (k N : Nat) : Fam (Gb xs ys k) rb (-1) N 17045913600 :=
  (Gf_fam (fun i _ => Gb_w hd hx hy lx ly k)).2

/-- The product of two transforms is near the transform of the products. -/
theorem FA_mul {d : Nat} {xs ys : List Int} (hd : d ≤ 255) (hx : Digs d xs) (hy : Digs d ys) (lx : xs.length ≤ 512) (ly : ys.length ≤ 512) (k j : Nat) :
    2 ^ 49 * ((FA xs k j).1 * (FA ys k j).1 - (FA xs k j).2 * (FA ys k j).2 - UU * (Gb xs ys k j 0).1).natAbs ≤ 17045913600 * (UU * UU) ∧
    2 ^ 49 * ((FA xs k j).1 * (FA ys k j).2 + (FA xs k j).2 * (FA ys k j).1 - UU * (Gb xs ys k j 0).2).natAbs ≤ 17045913600 * (UU * UU) := by
  obtain ⟨st, hst⟩ : ∃ st, st = 2 ^ (10 - k) := ⟨_, rfl⟩
  have prod : ∀ (u v : Nat → Int), sm (fun m => dg xs m * u m) (2 ^ k) * sm (fun m => dg ys m * v m) (2 ^ k) = sm (fun p => sm (fun q => dg xs p * dg ys q * (u p * v q)) (2 ^ k)) (2 ^ k) := by
    intro u v
    rw [Int.mul_comm, ← sm_mul]
    refine sm_congr fun p _ => ?_
    rw [Int.mul_comm, ← sm_mul]
    exact sm_congr fun q _ => by grind
  have flat : ∀ (g : Nat → Nat → Int), sm (fun p => sm (fun q => dg xs p * dg ys q * g p q) (2 ^ k)) (2 ^ k) = sm (fun n => dg xs (n / 2 ^ k) * dg ys (n % 2 ^ k) * g (n / 2 ^ k) (n % 2 ^ k)) (2 ^ k * 2 ^ k) := by
    intro g
    rw [sm_flat]
    refine sm_congr fun p hp => sm_congr fun q hq => ?_
    have e1 : (p * 2 ^ k + q) / 2 ^ k = p := by rw [Nat.mul_comm, Nat.mul_add_div (Nat.two_pow_pos k), Nat.div_eq_of_lt hq, Nat.add_zero]
    have e2 : (p * 2 ^ k + q) % 2 ^ k = q := by rw [Nat.mul_comm, Nat.mul_add_mod, Nat.mod_eq_of_lt hq]
    rw [e1, e2]
  have hw := Gb_w hd hx hy lx ly k
  rw [Gb_eq]
  unfold FA s2
  simp only
  rw [← hst]
  have fin : ∀ (g : Nat → Nat → Int), (∀ p q, (g p q).natAbs ≤ 2 ^ 75) → 2 ^ 49 * (((SC * SC : Nat) : Int) * sm (fun p => sm (fun q => dg xs p * dg ys q * g p q) (2 ^ k)) (2 ^ k)).natAbs ≤ 17045913600 * (UU * UU) := by
    intro g hg
    rw [flat, abs_scale]
    have h1 := wsum (w := fun n => dg xs (n / 2 ^ k) * dg ys (n % 2 ^ k)) (g := fun n => g (n / 2 ^ k) (n % 2 ^ k)) hw (fun n _ => hg _ _)
    have h2 : UU * UU = 2 ^ 49 * (SC * SC) * 2 ^ 75 := by rw [SC_UU]; grind
    rw [h2]
    have h3 := Nat.mul_le_mul_left (2 ^ 49 * (SC * SC)) h1
    have e3 : 2 ^ 49 * (SC * SC) * (17045913600 * 2 ^ 75) = 17045913600 * (2 ^ 49 * (SC * SC) * 2 ^ 75) := by grind
    rw [e3] at h3
    rw [← Nat.mul_assoc]
    exact h3
  have ph : ∀ p q : Nat, (((p + q) * j * st : Nat) : Int) + 0 = (p : Int) * j * st + (q : Int) * j * st := fun p q => by push_cast; grind
  constructor
  · have e : (SC : Int) * sm (fun m => dg xs m * (ww (m * j * st)).1) (2 ^ k) * (SC * sm (fun m => dg ys m * (ww (m * j * st)).1) (2 ^ k)) - SC * sm (fun m => dg xs m * (ww (m * j * st)).2) (2 ^ k) * (SC * sm (fun m => dg ys m * (ww (m * j * st)).2) (2 ^ k)) - UU * (SC * sm (fun p => sm (fun q => dg xs p * dg ys q * (ww ((((p + q) * j * st : Nat) : Int) + 0)).1) (2 ^ k)) (2 ^ k)) =
        ((SC * SC : Nat) : Int) * sm (fun p => sm (fun q => dg xs p * dg ys q * ((ww ((p : Int) * j * st)).1 * (ww ((q : Int) * j * st)).1 - (ww ((p : Int) * j * st)).2 * (ww ((q : Int) * j * st)).2 - 2 ^ 62 * (ww ((p : Int) * j * st + (q : Int) * j * st)).1)) (2 ^ k)) (2 ^ k) := by
      have e1 := prod (fun m => (ww (m * j * st)).1) (fun m => (ww (m * j * st)).1)
      have e2 := prod (fun m => (ww (m * j * st)).2) (fun m => (ww (m * j * st)).2)
      have e3 : sm (fun p => sm (fun q => dg xs p * dg ys q * ((ww ((p : Int) * j * st)).1 * (ww ((q : Int) * j * st)).1 - (ww ((p : Int) * j * st)).2 * (ww ((q : Int) * j * st)).2 - 2 ^ 62 * (ww ((p : Int) * j * st + (q : Int) * j * st)).1)) (2 ^ k)) (2 ^ k) =
          sm (fun p => sm (fun q => dg xs p * dg ys q * ((ww ((p : Int) * j * st)).1 * (ww ((q : Int) * j * st)).1)) (2 ^ k)) (2 ^ k) - sm (fun p => sm (fun q => dg xs p * dg ys q * ((ww ((p : Int) * j * st)).2 * (ww ((q : Int) * j * st)).2)) (2 ^ k)) (2 ^ k) - 2 ^ 62 * sm (fun p => sm (fun q => dg xs p * dg ys q * (ww ((((p + q) * j * st : Nat) : Int) + 0)).1) (2 ^ k)) (2 ^ k) := by
        rw [← sm_mul, ← sm_sub, ← sm_sub]
        refine sm_congr fun p _ => ?_
        rw [← sm_mul, ← sm_sub, ← sm_sub]
        refine sm_congr fun q _ => ?_
        rw [ph]; grind
      rw [e3, ← e1, ← e2, SC_int, Int.natCast_mul]
      grind
    rw [e]
    exact fin (fun p q => (ww ((p : Int) * j * st)).1 * (ww ((q : Int) * j * st)).1 - (ww ((p : Int) * j * st)).2 * (ww ((q : Int) * j * st)).2 - 2 ^ 62 * (ww ((p : Int) * j * st + (q : Int) * j * st)).1) fun p q => (w_mul _ _).1
  · have e : (SC : Int) * sm (fun m => dg xs m * (ww (m * j * st)).1) (2 ^ k) * (SC * sm (fun m => dg ys m * (ww (m * j * st)).2) (2 ^ k)) + SC * sm (fun m => dg xs m * (ww (m * j * st)).2) (2 ^ k) * (SC * sm (fun m => dg ys m * (ww (m * j * st)).1) (2 ^ k)) - UU * (SC * sm (fun p => sm (fun q => dg xs p * dg ys q * (ww ((((p + q) * j * st : Nat) : Int) + 0)).2) (2 ^ k)) (2 ^ k)) =
        ((SC * SC : Nat) : Int) * sm (fun p => sm (fun q => dg xs p * dg ys q * ((ww ((p : Int) * j * st)).1 * (ww ((q : Int) * j * st)).2 + (ww ((p : Int) * j * st)).2 * (ww ((q : Int) * j * st)).1 - 2 ^ 62 * (ww ((p : Int) * j * st + (q : Int) * j * st)).2)) (2 ^ k)) (2 ^ k) := by
      have e1 := prod (fun m => (ww (m * j * st)).1) (fun m => (ww (m * j * st)).2)
      have e2 := prod (fun m => (ww (m * j * st)).2) (fun m => (ww (m * j * st)).1)
      have e3 : sm (fun p => sm (fun q => dg xs p * dg ys q * ((ww ((p : Int) * j * st)).1 * (ww ((q : Int) * j * st)).2 + (ww ((p : Int) * j * st)).2 * (ww ((q : Int) * j * st)).1 - 2 ^ 62 * (ww ((p : Int) * j * st + (q : Int) * j * st)).2)) (2 ^ k)) (2 ^ k) =
          sm (fun p => sm (fun q => dg xs p * dg ys q * ((ww ((p : Int) * j * st)).1 * (ww ((q : Int) * j * st)).2)) (2 ^ k)) (2 ^ k) + sm (fun p => sm (fun q => dg xs p * dg ys q * ((ww ((p : Int) * j * st)).2 * (ww ((q : Int) * j * st)).1)) (2 ^ k)) (2 ^ k) - 2 ^ 62 * sm (fun p => sm (fun q => dg xs p * dg ys q * (ww ((((p + q) * j * st : Nat) : Int) + 0)).2) (2 ^ k)) (2 ^ k) := by
        rw [← sm_mul, ← sm_add, ← sm_sub]
        refine sm_congr fun p _ => ?_
        rw [← sm_mul, ← sm_add, ← sm_sub]
        refine sm_congr fun q _ => ?_
        rw [ph]; grind
      rw [e3, ← e1, ← e2, SC_int, Int.natCast_mul]
      grind
    rw [e]
    exact fin (fun p q => (ww ((p : Int) * j * st)).1 * (ww ((q : Int) * j * st)).2 + (ww ((p : Int) * j * st)).2 * (ww ((q : Int) * j * st)).1 - 2 ^ 62 * (ww ((p : Int) * j * st + (q : Int) * j * st)).2) fun p q => (w_mul _ _).2
end Go.Proofs.Ygctak.Ft
