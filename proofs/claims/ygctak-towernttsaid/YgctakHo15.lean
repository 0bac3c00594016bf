/-
  The stages, one by one; the roots' parts.
-/
import Derived.Test.YgctakHo12
import Derived.Test.YgctakHo14
import Derived.Test.YgctakFt12
namespace Go.Proofs.Ygctak
open Go.RowKit
set_option linter.unusedVariables false
set_option linter.unusedSimpArgs false
namespace Ex
open Ac Fl Sh
open Ft (ww WT RT tab_at WT_root idx ok_all V_fneg)

theorem fws_snoc (k d : Nat) (T : List (Nat × Nat)) : ∀ (f t : Nat) (x : List P), fws k d T (f + 1) t x = stg (fws k d T f t x) T (2 ^ (t + f - 1)) (2 ^ (k - (t + f))) ((most (t + f) d : Int) * 2 ^ 32 + 1)
  | 0, t, x => by simp only [fws, Nat.add_zero]
  | f + 1, t, x => by
    rw [fws, fws_snoc k d T f (t + 1), show t + 1 + f = t + (f + 1) by omega]
    rfl
theorem bws_snoc (k d : Nat) (T : List (Nat × Nat)) : ∀ (f t : Nat) (x : List P), bws k d T (f + 1) t x = stg (bws k d T f t x) T (2 ^ (t + f - 1)) (2 ^ (k - (t + f))) ((mostBack (t + f) k d : Int) * 2 ^ 32 + 1)
  | 0, t, x => by simp only [bws, Nat.add_zero]
  | f + 1, t, x => by
    rw [bws, bws_snoc k d T f (t + 1), show t + 1 + f = t + (f + 1) by omega]
    rfl

/-- The points behind t stages, forward. -/
def fwA (k : Nat) (xs : List Int) (t : Nat) : List P := fws k 255 (tab k) t 1 (rvs k (Sh.start xs (2 ^ k)))
theorem fwA_zero (k : Nat) (xs : List Int) : fwA k xs 0 = rvs k (Sh.start xs (2 ^ k)) := rfl
theorem fwA_succ (k : Nat) (xs : List Int) (t : Nat) : fwA k xs (t + 1) = stg (fwA k xs t) (tab k) (2 ^ t) (2 ^ (k - (t + 1))) ((most (t + 1) 255 : Int) * 2 ^ 32 + 1) := by
  unfold fwA
  rw [fws_snoc, show 1 + t - 1 = t by omega, show 1 + t = t + 1 by omega]
theorem fwA_length (k : Nat) (xs : List Int) (t : Nat) : (fwA k xs t).length = 2 ^ k := by unfold fwA; rw [fws_length, rvs_length, start_length]
theorem fwA_fwd (k : Nat) (xs : List Int) : fwA k xs k = fwd k 255 xs := rfl
theorem fwA_keep (k : Nat) (xs : List Int) (t : Nat) (h1 : 1 ≤ k) (h2 : k ≤ 10) (ht : t ≤ k) (h : Digs 255 xs) : AllP 118 100 (fwA k xs t) := by
  have hT := (tab_keep k h1 (by omega)).2
  have hb : t * (k - 1 + 2) ≤ 10 * 11 := Nat.mul_le_mul (by omega) (by omega)
  have := fws_keep k 255 (tab k) (by omega) hT t 1 8 80 _ ((start_keep xs (2 ^ k) (by omega) h).rvs k) (by omega) (by omega)
  exact this.mono (by omega) (by omega)
/-- The points behind t stages of the way back. -/
def bwA (k : Nat) (x : List P) (t : Nat) : List P := bws k 255 ((tab k).map conj) t 1 x
theorem bwA_succ (k : Nat) (x : List P) (t : Nat) : bwA k x (t + 1) = stg (bwA k x t) ((tab k).map conj) (2 ^ t) (2 ^ (k - (t + 1))) ((mostBack (t + 1) k 255 : Int) * 2 ^ 32 + 1) := by
  unfold bwA
  rw [bws_snoc, show 1 + t - 1 = t by omega, show 1 + t = t + 1 by omega]
theorem bwA_length (k : Nat) (x : List P) (t : Nat) : (bwA k x t).length = x.length := by unfold bwA; rw [bws_length]
theorem bwA_keep (k : Nat) (x : List P) (t : Nat) (h1 : 1 ≤ k) (h2 : k ≤ 10) (ht : t ≤ k) (hx : AllP 237 120 x) : AllP 347 140 (bwA k x t) := by
  have hT := (tab_keep k h1 (by omega)).2.conj
  have hb : t * (k - 1 + 2) ≤ 10 * 11 := Nat.mul_le_mul (by omega) (by omega)
  have := bws_keep k 255 _ (by omega) hT t 1 237 120 _ hx (by omega) (by omega) (by omega)
  exact this.mono (by omega) (by omega)

/-- The root of stage t at j, times 2^62, and its conjugate. -/
def rr (t j : Nat) : Q := ww ((j * 2 ^ (10 - t) : Nat) : Int)
def rc (t j : Nat) : Q := ((ww ((j * 2 ^ (10 - t) : Nat) : Int)).1, -(ww ((j * 2 ^ (10 - t) : Nat) : Int)).2)
/-- The exact points behind t stages. -/
def exF (k : Nat) (xs : List Int) : Nat → List Q
  | 0 => exS xs k
  | t + 1 => esL (exF k xs t) (rr (t + 1)) (2 ^ t)
def exB (x : List Q) : Nat → List Q
  | 0 => x
  | t + 1 => esL (exB x t) (rc (t + 1)) (2 ^ t)
theorem exF_length (k : Nat) (xs : List Int) : ∀ t, (exF k xs t).length = 2 ^ k
  | 0 => exS_length xs k
  | t + 1 => by rw [exF, esL_length, exF_length k xs t]
theorem exB_length (x : List Q) : ∀ t, (exB x t).length = x.length
  | 0 => rfl
  | t + 1 => by rw [exB, esL_length, exB_length x t]

/-- The table: each part is below 2^64, and of weight, or none. -/
def okW : List (Nat × Nat) → List (Int × Int) → Bool
  | [], [] => true
  | x :: xs, r :: rs => decide (x.1 < 2 ^ 64 ∧ x.2 < 2 ^ 64 ∧ fneg x.2 < 2 ^ 64 ∧ fneg (fneg x.2) = x.2 ∧ (r.1 = 0 ∨ 2 ^ 52 ≤ r.1.natAbs) ∧ (r.2 = 0 ∨ 2 ^ 52 ≤ r.2.natAbs)) && okW xs rs
  | _, _ => false
theorem okW_at : ∀ (xs : List (Nat × Nat)) (rs : List (Int × Int)), okW xs rs = true → ∀ j, j < xs.length → (xs.getD j (0, 0)).1 < 2 ^ 64 ∧ (xs.getD j (0, 0)).2 < 2 ^ 64 ∧ fneg (xs.getD j (0, 0)).2 < 2 ^ 64 ∧ fneg (fneg (xs.getD j (0, 0)).2) = (xs.getD j (0, 0)).2 ∧ ((rs.getD j (0, 0)).1 = 0 ∨ 2 ^ 52 ≤ (rs.getD j (0, 0)).1.natAbs) ∧ ((rs.getD j (0, 0)).2 = 0 ∨ 2 ^ 52 ≤ (rs.getD j (0, 0)).2.natAbs)
  | [], [], _, j, hj => by simp at hj
  | x :: xs, r :: rs, hk, j, hj => by
    simp only [okW, Bool.and_eq_true, decide_eq_true_eq] at hk
    cases j with
    | zero => simpa using hk.1
    | succ j =>
      have := okW_at xs rs hk.2 j (by simpa using hj)
      simpa using this
  | [], _ :: _, hk, _, _ => by simp [okW] at hk
  | _ :: _, [], hk, _, _ => by simp [okW] at hk
theorem okW_ok : okW WT RT = true := by decide +kernel

theorem rp_tab (i : Nat) (hi : i < 512) : Rp (WT.getD i (0, 0)).1 (ww i).1 ∧ Rp (WT.getD i (0, 0)).2 (ww i).2 ∧ Rp (fneg (WT.getD i (0, 0)).2) (-(ww i).2) ∧ fneg (fneg (WT.getD i (0, 0)).2) = (WT.getD i (0, 0)).2 := by
  obtain ⟨f1, f2, v1, v2⟩ := WT_root i hi
  obtain ⟨l1, l2, l3, l4, o1, o2⟩ := okW_at WT RT okW_ok i (by rw [Ft.WT_length]; exact hi)
  have e : ww i = RT.getD i (0, 0) := Ft.cir_small RT i hi
  have ok := ok_all i
  rw [← e] at o1 o2
  obtain ⟨n1, n2⟩ := V_fneg f2
  have hs : (Ft.SC : Int) = 2 ^ 1012 := by rw [Ft.SC_eq]; exact ipow 1012
  refine ⟨⟨f1, l1, ?_, o1, ok.r1⟩, ⟨f2, l2, ?_, o2, ok.r2⟩, ⟨n1, l3, ?_, ?_, ?_⟩, l4⟩
  · rw [v1, hs, Int.mul_comm]
  · rw [v2, hs, Int.mul_comm]
  · rw [n2, v2, hs, Int.mul_comm, Int.neg_mul]
  · rcases o2 with h | h
    · left; rw [h]; rfl
    · right; rw [Int.natAbs_neg]; exact h
  · rw [Int.natAbs_neg]; exact ok.r2

theorem rp_fwd (k t : Nat) (h1 : 1 ≤ k) (h2 : k ≤ 10) (t1 : 1 ≤ t) (tk : t ≤ k) (j : Nat) (hj : j < 2 ^ (t - 1)) :
    Rp ((tab k).getD (j * 2 ^ (k - t)) (0, 0)).1 (rr t j).1 ∧ Rp ((tab k).getD (j * 2 ^ (k - t)) (0, 0)).2 (rr t j).2 ∧ Rp (fneg ((tab k).getD (j * 2 ^ (k - t)) (0, 0)).2) (-(rr t j).2) := by
  obtain ⟨i1, i2, i3⟩ := idx (k := k) (t := t - 1) (j := j) h2 (by omega) hj
  rw [show k - (t - 1) - 1 = k - t by omega] at i1 i2
  rw [show 9 - (t - 1) = 10 - t by omega] at i2 i3
  rw [tab_at k _ h1 h2 i1, i2]
  obtain ⟨a, b, c, _⟩ := rp_tab _ i3
  exact ⟨a, b, c⟩
theorem rp_bwd (k t : Nat) (h1 : 1 ≤ k) (h2 : k ≤ 10) (t1 : 1 ≤ t) (tk : t ≤ k) (j : Nat) (hj : j < 2 ^ (t - 1)) :
    Rp (((tab k).map conj).getD (j * 2 ^ (k - t)) (0, 0)).1 (rc t j).1 ∧ Rp (((tab k).map conj).getD (j * 2 ^ (k - t)) (0, 0)).2 (rc t j).2 ∧ Rp (fneg (((tab k).map conj).getD (j * 2 ^ (k - t)) (0, 0)).2) (-(rc t j).2) := by
  obtain ⟨i1, i2, i3⟩ := idx (k := k) (t := t - 1) (j := j) h2 (by omega) hj
  rw [show k - (t - 1) - 1 = k - t by omega] at i1 i2
  rw [show 9 - (t - 1) = 10 - t by omega] at i2 i3
  have hl := (tab_keep k h1 (by omega)).1
  have hg : ((tab k).map conj).getD (j * 2 ^ (k - t)) (0, 0) = conj ((tab k).getD (j * 2 ^ (k - t)) (0, 0)) := by
    rw [List.getD_eq_getElem?_getD, List.getElem?_map, List.getD_eq_getElem?_getD, List.getElem?_eq_getElem (by rw [hl]; exact i1)]
    rfl
  rw [hg, tab_at k _ h1 h2 i1, i2]
  obtain ⟨a, b, c, d⟩ := rp_tab _ i3
  refine ⟨a, c, ?_⟩
  show Rp (fneg (fneg _)) (- -(ww _).2)
  rw [d, Int.neg_neg]
  exact b
end Ex
end Go.Proofs.Ygctak
