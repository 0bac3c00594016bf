/-
  The shadow's last bound: it hangs on k and on the greatest digit alone; it is small. No Go in sight.
-/
import Derived.Test.YgctakPt10
namespace Go.Proofs.Ygctak
set_option linter.unusedVariables false
set_option linter.unusedSimpArgs false
namespace Sh
open Ac Fl

/-- The same bounds. -/
def SameE (x y : List P) : Prop := x.length = y.length ∧ ∀ i, (x.getD i p0).2 = (y.getD i p0).2

theorem map_getD {n : Nat} (f : Nat → P) (i : Nat) (h : i < n) : ((List.range n).map f).getD i p0 = f i := by simp [List.getD_eq_getElem?_getD, h]
theorem map_getD' {n : Nat} (f : Nat → P) (i : Nat) (h : ¬ i < n) : ((List.range n).map f).getD i p0 = p0 := by
  rw [List.getD_eq_getElem?_getD, List.getElem?_eq_none (by simp; omega)]; rfl
theorem SameE.of_map {n m : Nat} (e : n = m) {f g : Nat → P} (h : ∀ i, i < n → (f i).2 = (g i).2) : SameE ((List.range n).map f) ((List.range m).map g) := by
  subst e
  refine ⟨by simp, fun i => ?_⟩
  by_cases hi : i < n
  · rw [map_getD f i hi, map_getD g i hi]; exact h i hi
  · rw [map_getD' f i hi, map_getD' g i hi]
theorem SameE.start (xa xb : List Int) (n : Nat) : SameE (start xa n) (start xb n) := SameE.of_map rfl fun i _ => by
  have : ∀ c : Prop, ∀ [Decidable c], ∀ z : Nat × Nat, (if c then ((z, 0) : P) else p0).2 = 0 := fun c _ z => by split <;> rfl
  rw [this, this]
theorem SameE.stg {x y : List P} (h : SameE x y) (T : List (Nat × Nat)) (half step : Nat) (own : Int) : SameE (stg x T half step own) (stg y T half step own) := SameE.of_map h.1 fun i _ => by
  unfold bf
  simp only
  split
  · simp only [h.2]
  · simp only [h.2]
theorem getD_set (x : List P) (i m : Nat) (p : P) : (x.set i p).getD m p0 = if i = m ∧ m < x.length then p else x.getD m p0 := by
  rw [List.getD_eq_getElem?_getD, List.getElem?_set]
  by_cases h1 : i = m
  · subst h1
    by_cases h2 : i < x.length
    · simp [h2]
    · simp [h2, List.getD_eq_getElem?_getD, List.getElem?_eq_none (show x.length ≤ i by omega)]
  · simp [h1, List.getD_eq_getElem?_getD]
theorem SameE.set {x y : List P} (h : SameE x y) (i : Nat) {p q : P} (hp : p.2 = q.2) : SameE (x.set i p) (y.set i q) := by
  refine ⟨by simpa using h.1, fun m => ?_⟩
  rw [getD_set, getD_set, h.1]
  split
  · exact hp
  · exact h.2 m
theorem SameE.swp {x y : List P} (h : SameE x y) (i j : Nat) : SameE (swp x i j) (swp y i j) := (h.set i (h.2 j)).set j (h.2 i)
theorem SameE.rvL (k : Nat) : ∀ (f i : Nat) {x y : List P}, SameE x y → SameE (rvL k f i x) (rvL k f i y) := by
  intro f
  induction f with
  | zero => intro i x y h; exact h
  | succ f ih =>
    intro i x y h
    unfold Sh.rvL
    apply ih
    split
    · exact h.swp _ _
    · exact h
theorem SameE.rvs {x y : List P} (h : SameE x y) (k : Nat) : SameE (rvs k x) (rvs k y) := by
  unfold Sh.rvs
  rw [h.1]
  exact SameE.rvL k _ _ h
theorem SameE.fws (k d : Nat) (T : List (Nat × Nat)) : ∀ (f t : Nat) {x y : List P}, SameE x y → SameE (fws k d T f t x) (fws k d T f t y) := by
  intro f
  induction f with
  | zero => intro t x y h; exact h
  | succ f ih => intro t x y h; unfold Sh.fws; exact ih _ (h.stg _ _ _ _)
theorem SameE.bws (k d : Nat) (T : List (Nat × Nat)) : ∀ (f t : Nat) {x y : List P}, SameE x y → SameE (bws k d T f t x) (bws k d T f t y) := by
  intro f
  induction f with
  | zero => intro t x y h; exact h
  | succ f ih => intro t x y h; unfold Sh.bws; exact ih _ (h.stg _ _ _ _)
theorem SameE.tms {x y x' y' : List P} (h : SameE x x') (h' : SameE y y') (m : Nat) : SameE (tms x y m) (tms x' y' m) := SameE.of_map h.1 fun i _ => by
  unfold tmf
  simp only [h.2, h'.2]
theorem SameE.dvs {x y : List P} (h : SameE x y) (k : Nat) : SameE (dvs k x) (dvs k y) := SameE.of_map h.1 fun i _ => by
  unfold dvd
  simp only [h.2]
theorem SameE.fwd (k d : Nat) (xa xb : List Int) : SameE (fwd k d xa) (fwd k d xb) := SameE.fws _ _ _ _ _ ((SameE.start xa xb _).rvs k)
theorem SameE.run (k d : Nat) (xa xb ya yb : List Int) : SameE (shRun k d xa xb) (shRun k d ya yb) := (SameE.bws _ _ _ _ _ (((SameE.fwd k d xa ya).tms (SameE.fwd k d xb yb) _).rvs k)).dvs k
theorem SameE.grI {x y : List P} (h : SameE x y) : ∀ i, i ≤ x.length → grI x i = grI y i := by
  intro i
  induction i with
  | zero => intro _; rfl
  | succ i ih =>
    intro hi
    rw [grI_succ x i (by omega), grI_succ y i (by rw [← h.1]; omega), ih (by omega), h.2]
theorem SameE.grt {x y : List P} (h : SameE x y) : grt x = grt y := by
  unfold Sh.grt
  rw [h.grI _ (Nat.le_refl _), h.1]
/-- THE BOUND HANGS ON k AND d ALONE. -/
theorem grt_same (k d : Nat) (xa xb ya yb : List Int) : grt (shRun k d xa xb) = grt (shRun k d ya yb) := (SameE.run k d xa xb ya yb).grt

/-! ### It is small -/
/-- Every bound lies between 0 and c. -/
def LeE (c : Int) (x : List P) : Prop := 0 ≤ c ∧ ∀ i, 0 ≤ (x.getD i p0).2 ∧ (x.getD i p0).2 ≤ c
theorem LeE.of_map {n : Nat} {c : Int} (hc : 0 ≤ c) {f : Nat → P} (h : ∀ i, i < n → 0 ≤ (f i).2 ∧ (f i).2 ≤ c) : LeE c ((List.range n).map f) := ⟨hc, fun i => by
  by_cases hi : i < n
  · rw [map_getD f i hi]; exact h i hi
  · rw [map_getD' f i hi]; exact ⟨Int.le_refl _, hc⟩⟩
theorem spr_mono {a b : Int} (h : a ≤ b) : spr a ≤ spr b := by unfold spr; omega
theorem spr_ge {a : Int} (h : 0 ≤ a) : a ≤ spr a := by unfold spr; omega
theorem joi_le {u v own c : Int} (pl : Bool) (u0 : 0 ≤ u) (u1 : u ≤ c) (v0 : 0 ≤ v) (v1 : v ≤ c) (o0 : 0 ≤ own) : 0 ≤ joi u v pl own ∧ joi u v pl own ≤ spr c + c + own := by
  have h1 := spr_mono v1
  have h2 := spr_ge v0
  unfold joi
  cases pl <;> simp <;> omega
theorem LeE.stg {c : Int} {x : List P} (h : LeE c x) (T : List (Nat × Nat)) (half step : Nat) {own : Int} (o0 : 0 ≤ own) : LeE (spr c + c + own) (stg x T half step own) := by
  have hc := spr_ge h.1
  have hc2 := h.1
  refine LeE.of_map (by omega) fun i _ => ?_
  unfold bf
  simp only
  split
  · exact joi_le _ (h.2 _).1 (h.2 _).2 (h.2 _).1 (h.2 _).2 o0
  · exact joi_le _ (h.2 _).1 (h.2 _).2 (h.2 _).1 (h.2 _).2 o0
theorem LeE.set {c : Int} {x : List P} (h : LeE c x) (i : Nat) {p : P} (hp : 0 ≤ p.2 ∧ p.2 ≤ c) : LeE c (x.set i p) := ⟨h.1, fun m => by
  rw [getD_set]
  split
  · exact hp
  · exact h.2 m⟩
theorem LeE.rvL {c : Int} (k : Nat) : ∀ (f i : Nat) {x : List P}, LeE c x → LeE c (rvL k f i x) := by
  intro f
  induction f with
  | zero => intro i x h; exact h
  | succ f ih =>
    intro i x h
    unfold Sh.rvL
    apply ih
    split
    · exact (h.set i (h.2 _)).set _ (h.2 _)
    · exact h
theorem LeE.rvs {c : Int} {x : List P} (h : LeE c x) (k : Nat) : LeE c (rvs k x) := LeE.rvL k _ _ h
theorem LeE.start (xa : List Int) (n : Nat) : LeE 0 (start xa n) := LeE.of_map (Int.le_refl _) fun i _ => by split <;> exact ⟨Int.le_refl _, Int.le_refl _⟩

/-- The bounds, stage by stage. -/
def fb (d : Nat) : Nat → Nat → Int → Int
  | 0, _, c => c
  | f + 1, t, c => fb d f (t + 1) (spr c + c + ((most t d : Int) * 2 ^ 32 + 1))
def bb (k d : Nat) : Nat → Nat → Int → Int
  | 0, _, c => c
  | f + 1, t, c => bb k d f (t + 1) (spr c + c + ((mostBack t k d : Int) * 2 ^ 32 + 1))
def bnd (k d : Nat) : Int := (bb k d k 1 (ter (most (k + 1) d) (fb d k 1 0) (fb d k 1 0)) + (2 ^ k - 1)) / 2 ^ k + 1
theorem LeE.fws (k d : Nat) (T : List (Nat × Nat)) : ∀ (f t : Nat) {c : Int} {x : List P}, LeE c x → LeE (fb d f t c) (fws k d T f t x) := by
  intro f
  induction f with
  | zero => intro t c x h; exact h
  | succ f ih => intro t c x h; unfold Sh.fws fb; exact ih _ (h.stg _ _ _ (by omega))
theorem LeE.bws (k d : Nat) (T : List (Nat × Nat)) : ∀ (f t : Nat) {c : Int} {x : List P}, LeE c x → LeE (bb k d f t c) (bws k d T f t x) := by
  intro f
  induction f with
  | zero => intro t c x h; exact h
  | succ f ih => intro t c x h; unfold Sh.bws bb; exact ih _ (h.stg _ _ _ (by omega))
theorem LeE.tms {c : Int} {x y : List P} (h : LeE c x) (h' : LeE c y) (m : Nat) : LeE (ter m c c) (tms x y m) := by
  have key : ∀ u v : Int, 0 ≤ u → u ≤ c → 0 ≤ v → v ≤ c → 0 ≤ ter m u v ∧ ter m u v ≤ ter m c c := fun u v u0 u1 v0 v1 => by
    have h0 : 0 ≤ (u + v) * (m : Int) := Int.mul_nonneg (by omega) (by omega)
    have h1 : (u + v) * (m : Int) ≤ (c + c) * (m : Int) := Int.mul_le_mul_of_nonneg_right (by omega) (by omega)
    have h2 := spr_mono h1
    have h3 := spr_ge h0
    have h4 : 0 ≤ (m : Int) * m := Int.mul_nonneg (by omega) (by omega)
    unfold ter
    generalize (m : Int) * m = q at *
    constructor <;> omega
  refine LeE.of_map (key c c h.1 (Int.le_refl _) h.1 (Int.le_refl _)).1 fun i _ => ?_
  exact key _ _ (h.2 i).1 (h.2 i).2 (h'.2 i).1 (h'.2 i).2
theorem LeE.dvs {c : Int} {x : List P} (h : LeE c x) (k : Nat) : LeE ((c + (2 ^ k - 1)) / 2 ^ k + 1) (dvs k x) := by
  have p1 := Ac.pow_pos k
  have key : ∀ u : Int, 0 ≤ u → u ≤ c → 0 ≤ (u + (2 ^ k - 1)) / 2 ^ k + 1 ∧ (u + (2 ^ k - 1)) / 2 ^ k + 1 ≤ (c + (2 ^ k - 1)) / 2 ^ k + 1 := fun u u0 u1 => by
    have d0 : 0 ≤ (u + (2 ^ k - 1)) / 2 ^ k := Int.ediv_nonneg (by omega) (by omega)
    have d1 : (u + (2 ^ k - 1)) / 2 ^ k ≤ (c + (2 ^ k - 1)) / 2 ^ k := Int.ediv_le_ediv p1 (by omega)
    omega
  refine LeE.of_map (key c h.1 (Int.le_refl _)).1 fun i _ => ?_
  exact key _ (h.2 i).1 (h.2 i).2
theorem LeE.run (k d : Nat) (xa xb : List Int) : LeE (bnd k d) (shRun k d xa xb) := by
  have h1 := fun xs => LeE.fws k d (tab k) k 1 ((LeE.start xs (2 ^ k)).rvs k)
  exact (LeE.bws k d ((tab k).map conj) k 1 (((h1 xa).tms (h1 xb) (most (k + 1) d)).rvs k)).dvs k
theorem LeE.grI {c : Int} {x : List P} (h : LeE c x) : ∀ i, i ≤ x.length → grI x i ≤ c := by
  intro i
  induction i with
  | zero => intro _; exact h.1
  | succ i ih =>
    intro hi
    rw [grI_succ x i (by omega)]
    split
    · exact (h.2 i).2
    · exact ih (by omega)
theorem bnd_small : ∀ k, k < 10 → ∀ d, d < 256 → bnd (k + 1) d < 2 ^ 78 := by decide +kernel
/-- THE BOUND LIES BELOW 1/4. -/
theorem grt_small (k d : Nat) (xa xb : List Int) (hk0 : 1 ≤ k) (hk : k ≤ 10) (hd : d ≤ 255) : grt (shRun k d xa xb) < 2 ^ 78 := by
  have h1 := (LeE.run k d xa xb).grI _ (Nat.le_refl _)
  have h2 := bnd_small (k - 1) (by omega) d (by omega)
  rw [show k - 1 + 1 = k by omega] at h2
  exact Int.lt_of_le_of_lt h1 h2
theorem grI_ge (x : List P) (i m : Nat) (hm : m < i) (hi : i ≤ x.length) : (x.getD m p0).2 ≤ grI x i := by
  induction i with
  | zero => omega
  | succ i ih =>
    rw [grI_succ x i (by omega)]
    by_cases h : m = i
    · subst h; split <;> omega
    · have := ih (by omega) (by omega)
      split <;> omega
/-- THE BOUND IS NOT ZERO. -/
theorem grt_pos (k d : Nat) (xa xb : List Int) : 0 < grt (shRun k d xa xb) := by
  have hl := shRun_length k d xa xb
  have hp : 0 < 2 ^ k := Nat.pos_of_ne_zero (by simp)
  have h1 := grI_ge (shRun k d xa xb) (2 ^ k) 0 hp (by rw [hl]; exact Nat.le_refl _)
  have h2 : 1 ≤ ((shRun k d xa xb).getD 0 p0).2 := by
    unfold shRun dvs
    rw [map_getD _ 0 (by rw [bws_length, rvs_length, tms_length, fwd_length]; exact hp)]
    unfold dvd
    simp only
    have h3 := ((LeE.bws k d ((tab k).map conj) k 1 (((LeE.fws k d (tab k) k 1 ((LeE.start xa (2 ^ k)).rvs k)).tms (LeE.fws k d (tab k) k 1 ((LeE.start xb (2 ^ k)).rvs k)) (most (k + 1) d)).rvs k)).2 0).1
    have p1 := Ac.pow_pos k
    have h4 : 0 ≤ (((Sh.bws k d ((tab k).map conj) k 1 (Sh.rvs k (Sh.tms (Sh.fwd k d xa) (Sh.fwd k d xb) (most (k + 1) d)))).getD 0 p0).2 + (2 ^ k - 1)) / 2 ^ k := Int.ediv_nonneg (by
      have h3' : 0 ≤ ((Sh.bws k d ((tab k).map conj) k 1 (Sh.rvs k (Sh.tms (Sh.fwd k d xa) (Sh.fwd k d xb) (most (k + 1) d)))).getD 0 p0).2 := h3
      omega) (by omega)
    omega
  unfold grt
  rw [hl]
  omega
end Sh
end Go.Proofs.Ygctak
