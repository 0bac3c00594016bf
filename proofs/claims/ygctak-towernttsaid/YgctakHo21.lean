/-
  The floats of fft.Raw are the shadow's.
-/
import Derived.Test.YgctakHo20
namespace Go.Proofs.Ygctak
open Go.RowKit
set_option linter.unusedVariables false
set_option linter.unusedSimpArgs false
namespace Fr
open Ac Fl Sh Ex
open Ft (zst rev zf stg_z rvs_get start_z)

theorem in_block (k t p : Nat) (ht : t < k) (hp : p % (2 * 2 ^ t) < 2 ^ t) (hl : p < 2 ^ k) : p + 2 ^ t < 2 ^ k := by
  have hhalf : 2 ^ k = 2 * 2 ^ t * 2 ^ (k - (t + 1)) := by rw [← Nat.pow_succ', ← Nat.pow_add]; congr 1; omega
  rw [hhalf] at hl ⊢
  have h1 := Nat.div_add_mod p (2 * 2 ^ t)
  have h2 : p / (2 * 2 ^ t) < 2 ^ (k - (t + 1)) := Nat.div_lt_of_lt_mul hl
  have h3 : 2 * 2 ^ t * (p / (2 * 2 ^ t) + 1) ≤ 2 * 2 ^ t * 2 ^ (k - (t + 1)) := Nat.mul_le_mul_left _ h2
  rw [Nat.mul_add] at h3
  omega
theorem zst_congr {k t : Nat} {z z' r : Nat → Nat × Nat} (ht : t < k) (h : ∀ i, i < 2 ^ k → z i = z' i) (i : Nat) (hi : i < 2 ^ k) : zst z r (2 ^ t) i = zst z' r (2 ^ t) i := by
  unfold zst
  split
  · rename_i hm
    rw [h i hi, h _ (in_block k t i ht hm hi)]
  · rw [h i hi, h (i - 2 ^ t) (Nat.lt_of_le_of_lt (Nat.sub_le _ _) hi)]

theorem zit_fwA (k : Nat) (xs : List Int) : ∀ t, t ≤ k → ∀ i, i < 2 ^ k → zit (pnt xs) (tab k) k t i = zf (fwA k xs t) i
  | 0, _, i, hi => by
    have h1 : zf (fwA k xs 0) i = zf (Sh.start xs (2 ^ k)) (rev k i) := by
      unfold zf
      rw [fwA_zero, rvs_get k _ (start_length _ _) i hi]
    rw [h1, start_z xs (2 ^ k) _ (Ft.rev_lt k i)]
    rfl
  | t + 1, ht, i, hi => by
    rw [fwA_succ, stg_z _ _ _ _ _ _ (by rw [fwA_length]; exact hi)]
    exact zst_congr (by omega) (fun m hm => zit_fwA k xs t (by omega) m hm) i hi
theorem zit_bwA (k : Nat) (h : Nat → Nat × Nat) (x : List P) (hx : x.length = 2 ^ k) (h0 : ∀ i, i < 2 ^ k → h i = zf x i) : ∀ t, t ≤ k → ∀ i, i < 2 ^ k → zit h ((tab k).map conj) k t i = zf (bwA k (rvs k x) t) i
  | 0, _, i, hi => by
    show h (rev k i) = zf (rvs k x) i
    rw [h0 _ (Ft.rev_lt k i)]
    unfold zf
    rw [rvs_get k _ hx i hi]
  | t + 1, ht, i, hi => by
    rw [bwA_succ, stg_z _ _ _ _ _ _ (by rw [bwA_length, rvs_length, hx]; exact hi)]
    exact zst_congr (by omega) (fun m hm => zit_bwA k h x hx h0 t (by omega) m hm) i hi

/-- The products. -/
def rawP (k : Nat) (xa xb : List Int) (i : Nat) : Nat × Nat := cmul (zit (pnt xa) (tab k) k k i) (zit (pnt xb) (tab k) k k i)
/-- fft.Raw. -/
def rawZ (k : Nat) (xa xb : List Int) (i : Nat) : Nat × Nat := zdv k (zit (rawP k xa xb) ((tab k).map conj) k k i)

theorem rawP_tms (k : Nat) (xa xb : List Int) (m i : Nat) (hi : i < 2 ^ k) : rawP k xa xb i = zf (tms (fwd k 255 xa) (fwd k 255 xb) m) i := by
  unfold rawP
  rw [zit_fwA k xa k (Nat.le_refl _) i hi, zit_fwA k xb k (Nat.le_refl _) i hi, fwA_fwd, fwA_fwd]
  unfold zf tms
  rw [List.getD_eq_getElem?_getD (l := List.map _ _), List.getElem?_map, List.getElem?_range (by rw [fwd_length]; exact hi)]
  rfl
theorem rawZ_shRun (k : Nat) (xa xb : List Int) (i : Nat) (hi : i < 2 ^ k) : rawZ k xa xb i = zf (shRun k 255 xa xb) i := by
  have hl : (tms (fwd k 255 xa) (fwd k 255 xb) (most (k + 1) 255)).length = 2 ^ k := by rw [tms_length, fwd_length]
  unfold rawZ
  rw [zit_bwA k _ _ hl (fun m hm => rawP_tms k xa xb _ m hm) k (Nat.le_refl _) i hi]
  unfold zf shRun dvs
  rw [List.getD_eq_getElem?_getD (l := List.map _ _), List.getElem?_map, List.getElem?_range (by rw [bws_length, rvs_length, hl]; exact hi)]
  rfl
theorem zf_fin {E B : Nat} {x : List P} (h : AllP E B x) (i : Nat) : Fc E (zf x i) := (h.any i).1
end Fr
end Go.Proofs.Ygctak
