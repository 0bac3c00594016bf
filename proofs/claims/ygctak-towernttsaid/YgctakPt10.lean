/-
  Walks: shadow.run.
-/
import Derived.Test.YgctakPt9
namespace Go.Proofs.Ygctak
open Go.RowKit
set_option linter.unusedVariables false
set_option linter.unusedSimpArgs false
attribute [local go_sem ↓] Go.wp_at_zero Go.wp_at_succ
attribute [local go_sem] Fl.run_store_complex Fl.run_store_float
namespace Sh
open Ac Fl

/-- f forward stages from t on. -/
def fws (k d : Nat) (T : List (Nat × Nat)) : Nat → Nat → List P → List P
  | 0, _, x => x
  | f + 1, t, x => fws k d T f (t + 1) (stg x T (2 ^ (t - 1)) (2 ^ (k - t)) ((most t d : Int) * 2 ^ 32 + 1))
/-- f stages of the way back from t on. -/
def bws (k d : Nat) (T : List (Nat × Nat)) : Nat → Nat → List P → List P
  | 0, _, x => x
  | f + 1, t, x => bws k d T f (t + 1) (stg x T (2 ^ (t - 1)) (2 ^ (k - t)) ((mostBack t k d : Int) * 2 ^ 32 + 1))
def fwd (k d : Nat) (xa : List Int) : List P := fws k d (tab k) k 1 (rvs k (start xa (2 ^ k)))
/-- shadow.run. -/
def shRun (k d : Nat) (xa xb : List Int) : List P :=
  dvs k (bws k d ((tab k).map conj) k 1 (rvs k (tms (fwd k d xa) (fwd k d xb) (most (k + 1) d))))

theorem fws_length (k d : Nat) (T : List (Nat × Nat)) : ∀ (f t : Nat) (x : List P), (fws k d T f t x).length = x.length := by
  intro f
  induction f with
  | zero => intro t x; rfl
  | succ f ih => intro t x; unfold fws; rw [ih, stg_length]
theorem bws_length (k d : Nat) (T : List (Nat × Nat)) : ∀ (f t : Nat) (x : List P), (bws k d T f t x).length = x.length := by
  intro f
  induction f with
  | zero => intro t x; rfl
  | succ f ih => intro t x; unfold bws; rw [ih, stg_length]
theorem pow80 {B : Nat} (hB : 80 ≤ B) {z : Int} (h : z ≤ 2 ^ 80) : z ≤ 2 ^ B := Int.le_trans h (by rw [← ipow, ← ipow]; exact Int.ofNat_le.2 (Nat.pow_le_pow_right (by omega) hB))
theorem fws_keep {F : Nat} (k d : Nat) (T : List (Nat × Nat)) (hd : d ≤ 255) (hT : AllC F T) : ∀ (f t E B : Nat) (x : List P), AllP E B x → 80 ≤ B → E + f * (F + 2) ≤ 1023 → AllP (E + f * (F + 2)) (B + f * 2) (fws k d T f t x) := by
  intro f
  induction f with
  | zero => intro t E B x h _ _; simpa [fws] using h
  | succ f ih =>
    intro t E B x h hB hE
    unfold fws
    have e : (f + 1) * (F + 2) = f * (F + 2) + (F + 2) := Nat.succ_mul _ _
    rw [e] at hE ⊢
    have hm := most_le t d hd
    have ho : (most t d : Int) * 2 ^ 32 + 1 + 1 ≤ 2 ^ 80 := by
      have : (130561 : Int) * 2 ^ 32 + 2 ≤ 2 ^ 80 := by decide
      omega
    have h1 := stg_keep (2 ^ (t - 1)) (2 ^ (k - t)) ((most t d : Int) * 2 ^ 32 + 1) h hT (by omega) (by omega) (pow80 hB ho)
    have h2 := ih (t + 1) _ _ _ h1 (by omega) (by omega)
    exact h2.mono (by omega) (by omega)
theorem bws_keep {F : Nat} (k d : Nat) (T : List (Nat × Nat)) (hd : d ≤ 255) (hT : AllC F T) : ∀ (f t E B : Nat) (x : List P), AllP E B x → 80 ≤ B → t + f ≤ 11 → E + f * (F + 2) ≤ 1023 → AllP (E + f * (F + 2)) (B + f * 2) (bws k d T f t x) := by
  intro f
  induction f with
  | zero => intro t E B x h _ _ _; simpa [bws] using h
  | succ f ih =>
    intro t E B x h hB ht hE
    unfold bws
    have e : (f + 1) * (F + 2) = f * (F + 2) + (F + 2) := Nat.succ_mul _ _
    rw [e] at hE ⊢
    have hm := mostBack_le t k d hd (by omega)
    have ho : (mostBack t k d : Int) * 2 ^ 32 + 1 + 1 ≤ 2 ^ 80 := by
      have : (130561 * 130561 * 2 ^ 9 : Int) * 2 ^ 32 + 2 ≤ 2 ^ 80 := by decide
      omega
    have h1 := stg_keep (2 ^ (t - 1)) (2 ^ (k - t)) ((mostBack t k d : Int) * 2 ^ 32 + 1) h hT (by omega) (by omega) (pow80 hB ho)
    have h2 := ih (t + 1) _ _ _ h1 (by omega) (by omega) (by omega)
    exact h2.mono (by omega) (by omega)
theorem start_length (ds : List Int) (n : Nat) : (start ds n).length = n := stI_length _ _ _
theorem fwd_length (k d : Nat) (xa : List Int) : (fwd k d xa).length = 2 ^ k := by unfold fwd; rw [fws_length, rvs_length, start_length]
theorem tms_length (x y : List P) (m : Nat) : (tms x y m).length = x.length := by simp [tms]
theorem fwd_keep (k d : Nat) (xa : List Int) (hk0 : 1 ≤ k) (hk : k ≤ 10) (hd : d ≤ 255) (h : Digs d xa) : AllP 118 100 (fwd k d xa) := by
  have hT := (tab_keep k hk0 (by omega)).2
  have h1 := fws_keep k d (tab k) hd hT k 1 8 80 _ ((start_keep xa (2 ^ k) hd h).rvs k) (by omega) (by
    have : k * (k - 1 + 2) ≤ 10 * 11 := Nat.mul_le_mul hk (by omega)
    omega)
  have : k * (k - 1 + 2) ≤ 10 * 11 := Nat.mul_le_mul hk (by omega)
  exact h1.mono (by omega) (by omega)
theorem mid_keep (k d : Nat) (xa xb : List Int) (hk0 : 1 ≤ k) (hk : k ≤ 10) (hd : d ≤ 255) (ha : Digs d xa) (hb : Digs d xb) :
    AllP 237 120 (rvs k (tms (fwd k d xa) (fwd k d xb) (most (k + 1) d))) :=
  (tms_keep (most (k + 1) d) (fwd_keep k d xa hk0 hk hd ha) (fwd_keep k d xb hk0 hk hd hb) (by omega) (most_le _ _ hd) (by omega)).rvs k
theorem back_keep (k d : Nat) (x : List P) (hk0 : 1 ≤ k) (hk : k ≤ 10) (hd : d ≤ 255) (hx : AllP 237 120 x) : AllP 347 140 (bws k d ((tab k).map conj) k 1 x) := by
  have hT := (tab_keep k hk0 (by omega)).2.conj
  have : k * (k - 1 + 2) ≤ 10 * 11 := Nat.mul_le_mul hk (by omega)
  have h1 := bws_keep k d _ hd hT k 1 237 120 _ hx (by omega) (by omega) (by omega)
  exact h1.mono (by omega) (by omega)
theorem shRun_keep (k d : Nat) (xa xb : List Int) (hk0 : 1 ≤ k) (hk : k ≤ 10) (hd : d ≤ 255) (ha : Digs d xa) (hb : Digs d xb) : AllE 150 (shRun k d xa xb) :=
  dvs_keep (back_keep k d _ hk0 hk hd (mid_keep k d xa xb hk0 hk hd ha hb)) hk (by omega) (by omega)
theorem shRun_length (k d : Nat) (xa xb : List Int) : (shRun k d xa xb).length = 2 ^ k := by
  unfold shRun dvs
  rw [List.length_map, List.length_range, bws_length, rvs_length, tms_length, fwd_length]
end Sh
end Go.Proofs.Ygctak
