/-
  The stages of package shadow: what they leave.
-/
import Derived.Test.YgctakFt7
set_option linter.unusedVariables false
set_option linter.unusedSimpArgs false
set_option exponentiation.threshold 3000
namespace Go.Proofs.Ygctak.Ft
open Fl Sh

theorem SC_eq : SC = 2 ^ 1012 := by unfold SC; rfl

theorem isR_V {x : Nat} {r : Int} (h : isR x r = true) : Finite x ∧ V x = SC * r := by
  unfold isR at h
  split at h
  · rename_i s m p hr
    have hp := read_place hr
    refine ⟨⟨s, m, p, hr⟩, ?_⟩
    rw [V_of hr (p + 1074).toNat (by omega)]
    simp only [Bool.or_eq_true, decide_eq_true_eq] at h
    rcases h with ⟨h1, h2⟩ | ⟨h1, h2⟩
    · subst h1 h2
      cases s <;> simp
    · rw [← h2]
      obtain ⟨u, hu⟩ : ∃ u : Nat, p + 62 = u := ⟨(p + 62).toNat, by omega⟩
      rw [show (p + 62).toNat = u by omega, show (p + 1074).toNat = u + 1012 by omega]
      have e : m * 2 ^ (u + 1012) = SC * (m * 2 ^ u) := by rw [SC_eq, Nat.pow_add, ← Nat.mul_assoc, Nat.mul_comm]
      rw [e]
      cases s
      · simp only [sg, Bool.false_eq_true, if_false]; rw [Int.natCast_mul]
      · simp only [sg, if_true]; rw [Int.natCast_mul, Int.mul_neg]
  · cases h

theorem allR_at : ∀ (xs : List (Nat × Nat)) (rs : List (Int × Int)), allR xs rs = true → ∀ j, j < xs.length → isR (xs.getD j (0, 0)).1 (rs.getD j (0, 0)).1 = true ∧ isR (xs.getD j (0, 0)).2 (rs.getD j (0, 0)).2 = true
  | [], [], _, j, hj => by simp at hj
  | x :: xs, r :: rs, hk, j, hj => by
    simp only [allR, Bool.and_eq_true] at hk
    cases j with
    | zero => exact hk.1
    | succ j => exact allR_at xs rs hk.2 j (by simpa using hj)
  | [], _ :: _, hk, _, _ => by simp [allR] at hk
  | _ :: _, [], hk, _, _ => by simp [allR] at hk

theorem root_of {x : Nat × Nat} {n : Int} (h1 : Finite x.1) (h2 : Finite x.2) (v1 : V x.1 = SC * (ww n).1) (v2 : (V x.2).natAbs = SC * (ww n).2.natAbs) {v : Int × Int} (e1 : v.1 = V x.1) (e2 : v.2 = V x.2) : Root x v := by
  have ok := ok_all n
  have a1 : (V x.1).natAbs = SC * (ww n).1.natAbs := by rw [v1, abs_scale]
  have hU : UU = SC * 2 ^ 62 := by rw [SC_UU, Nat.mul_comm]
  refine ⟨h1, h2, e1.symm, e2.symm, ?_, ?_, ?_⟩
  · rw [a1, hU]; exact Nat.mul_le_mul_left _ ok.r1
  · rw [v2, hU]; exact Nat.mul_le_mul_left _ ok.r2
  · rw [a1, v2, hU, ← Nat.mul_add]
    have := Nat.mul_le_mul_left SC ok.rs
    have e3 : SC * (16384 * ((ww n).1.natAbs + (ww n).2.natAbs)) = 16384 * (SC * ((ww n).1.natAbs + (ww n).2.natAbs)) := by grind
    have e4 : SC * (23171 * 2 ^ 62) = 23171 * (SC * 2 ^ 62) := by grind
    rw [e3, e4] at this
    exact this

theorem WT_root (i : Nat) (hi : i < 512) : Finite (WT.getD i (0, 0)).1 ∧ Finite (WT.getD i (0, 0)).2 ∧ V (WT.getD i (0, 0)).1 = SC * (ww i).1 ∧ V (WT.getD i (0, 0)).2 = SC * (ww i).2 := by
  obtain ⟨a, b⟩ := allR_at WT RT allR_ok i (by rw [WT_length]; exact hi)
  obtain ⟨a1, a2⟩ := isR_V a
  obtain ⟨b1, b2⟩ := isR_V b
  have e : ww i = RT.getD i (0, 0) := cir_small RT i hi
  rw [e]
  exact ⟨a1, b1, a2, b2⟩

theorem tab_at (k i : Nat) (h1 : 1 ≤ k) (h2 : k ≤ 10) (hi : i < 2 ^ (k - 1)) : (tab k).getD i (0, 0) = WT.getD (i * 2 ^ (10 - k)) (0, 0) := by
  have := tab_small ⟨k, by omega⟩
  rcases this with h | h
  · simp only at h; omega
  · simp only at h
    rw [h, List.getD_eq_getElem?_getD, List.getElem?_map, List.getElem?_range hi]
    rfl

theorem V_fneg {x : Nat} (h : Finite x) : Finite (fneg x) ∧ V (fneg x) = -V x := by
  obtain ⟨s, m, p, hr⟩ := h
  have hr2 := read_neg hr
  have hp := read_place hr
  refine ⟨⟨_, _, _, hr2⟩, ?_⟩
  rw [V_of hr (p + 1074).toNat (by omega), V_of hr2 (p + 1074).toNat (by omega)]
  cases s <;> simp

theorem idx {k t j : Nat} (h2 : k ≤ 10) (ht : t < k) (hj : j < 2 ^ t) : j * 2 ^ (k - t - 1) < 2 ^ (k - 1) ∧ j * 2 ^ (k - t - 1) * 2 ^ (10 - k) = j * 2 ^ (9 - t) ∧ j * 2 ^ (9 - t) < 512 := by
  refine ⟨?_, ?_, ?_⟩
  · have := Nat.mul_lt_mul_of_pos_right hj (Nat.two_pow_pos (k - t - 1))
    rw [← Nat.pow_add, show t + (k - t - 1) = k - 1 by omega] at this
    exact this
  · rw [Nat.mul_assoc, ← Nat.pow_add, show k - t - 1 + (10 - k) = 9 - t by omega]
  · have := Nat.mul_lt_mul_of_pos_right hj (Nat.two_pow_pos (9 - t))
    rw [← Nat.pow_add, show t + (9 - t) = 9 by omega] at this
    exact this

theorem root_fwd {k t j : Nat} (h1 : 1 ≤ k) (h2 : k ≤ 10) (ht : t < k) (hj : j < 2 ^ t) : Root ((tab k).getD (j * 2 ^ (k - t - 1)) (0, 0)) (rf ((j : Int) * ((2 ^ (9 - t) : Nat) : Int))) := by
  obtain ⟨i1, i2, i3⟩ := idx h2 ht hj
  rw [tab_at k _ h1 h2 i1, i2]
  obtain ⟨a, b, c, d⟩ := WT_root _ i3
  have e : ((j * 2 ^ (9 - t) : Nat) : Int) = (j : Int) * ((2 ^ (9 - t) : Nat) : Int) := Int.natCast_mul _ _
  rw [e] at c d
  exact root_of a b c (by rw [d, abs_scale]) c.symm d.symm
theorem root_bwd {k t j : Nat} (h1 : 1 ≤ k) (h2 : k ≤ 10) (ht : t < k) (hj : j < 2 ^ t) (hl : (tab k).length = 2 ^ (k - 1)) : Root (((tab k).map conj).getD (j * 2 ^ (k - t - 1)) (0, 0)) (rb ((j : Int) * ((2 ^ (9 - t) : Nat) : Int))) := by
  obtain ⟨i1, i2, i3⟩ := idx h2 ht hj
  have hg : ((tab k).map conj).getD (j * 2 ^ (k - t - 1)) (0, 0) = conj ((tab k).getD (j * 2 ^ (k - t - 1)) (0, 0)) := by
    rw [List.getD_eq_getElem?_getD, List.getElem?_map, List.getD_eq_getElem?_getD, List.getElem?_eq_getElem (by rw [hl]; exact i1)]
    rfl
  rw [hg, tab_at k _ h1 h2 i1, i2]
  obtain ⟨a, b, c, d⟩ := WT_root _ i3
  have e : ((j * 2 ^ (9 - t) : Nat) : Int) = (j : Int) * ((2 ^ (9 - t) : Nat) : Int) := Int.natCast_mul _ _
  rw [e] at c d
  obtain ⟨f1, f2⟩ := V_fneg b
  refine root_of (x := conj _) a f1 c (by show (V (fneg _)).natAbs = _; rw [f2, Int.natAbs_neg, d, abs_scale]) c.symm ?_
  show SC * -(ww _).2 = V (fneg _)
  rw [f2, d, Int.mul_neg]

/-! ### lists -/
def zf (x : List P) (i : Nat) : Nat × Nat := (x.getD i p0).1
theorem stg_z (x : List P) (T : List (Nat × Nat)) (half step : Nat) (own : Int) (i : Nat) (hi : i < x.length) : zf (stg x T half step own) i = zst (zf x) (fun j => T.getD (j * step) (0, 0)) half i := by
  unfold zf zst stg
  rw [List.getD_eq_getElem?_getD, List.getElem?_map, List.getElem?_range hi]
  simp only [Option.map_some, Option.getD_some, bf]
  split <;> rfl

/-- The bounds of f stages from the t-th on. -/
def eN (L : Nat) : Nat → Nat → Nat → Nat
  | 0, _, e => e
  | f + 1, t, e => eN L f (t + 1) (nxt e (2 ^ t) L)
def okN (L : Nat) : Nat → Nat → Nat → Bool
  | 0, _, _ => true
  | f + 1, t, e => decide (e ≤ 2 ^ t * L * 2 ^ 50) && okN L f (t + 1) (nxt e (2 ^ t) L)

theorem at_congr {G : Nat → Int → Int × Int} {s : Int} {k t e : Nat} {z z' : Nat → Nat × Nat} (ht : t ≤ k) (h : At G s k t e z) (hz : ∀ i, i < 2 ^ k → z' i = z i) : At G s k t e z' := by
  intro b j hb hj
  have hlt : b * 2 ^ t + j < 2 ^ k := by
    have := Nat.mul_le_mul_right (2 ^ t) (show b + 1 ≤ 2 ^ (k - t) by omega)
    rw [← Nat.pow_add, show k - t + t = k by omega, Nat.add_mul, Nat.one_mul] at this
    omega
  rw [hz _ hlt]
  exact h b j hb hj

theorem fws_at {G : Nat → Int → Int × Int} {k L d : Nat} (hG : Fam G rf 1 (2 ^ k) L) (h1 : 1 ≤ k) (h2 : k ≤ 10) (hL : 1 ≤ L) (hL2 : L ≤ 2 ^ 40) : ∀ (f t e : Nat) (x : List P), x.length = 2 ^ k → t + f ≤ k → At G 1 k t e (zf x) → okN L f t e = true → At G 1 k (t + f) (eN L f t e) (zf (fws k d (tab k) f (t + 1) x))
  | 0, t, e, x, _, _, h, _ => h
  | f + 1, t, e, x, hx, htf, h, ho => by
    simp only [okN, Bool.and_eq_true, decide_eq_true_eq] at ho
    have hs := stage_all hG h2 (show t < k by omega) hL hL2 ho.1 h (fun j hj => root_fwd h1 h2 (by omega) hj)
    have hs2 : At G 1 k (t + 1) (nxt e (2 ^ t) L) (zf (stg x (tab k) (2 ^ (t + 1 - 1)) (2 ^ (k - (t + 1))) ((most (t + 1) d : Int) * 2 ^ 32 + 1))) := by
      refine at_congr (by omega) hs fun i hi => ?_
      rw [stg_z _ _ _ _ _ _ (by rw [hx]; exact hi), show t + 1 - 1 = t by omega, show k - (t + 1) = k - t - 1 by omega]
    have := fws_at (d := d) hG h1 h2 hL hL2 f (t + 1) _ _ (by rw [stg_length, hx]) (by omega) hs2 ho.2
    rw [show t + 1 + f = t + (f + 1) by omega] at this
    exact this
theorem bws_at {G : Nat → Int → Int × Int} {k L d : Nat} (hG : Fam G rb (-1) (2 ^ k) L) (h1 : 1 ≤ k) (h2 : k ≤ 10) (hL : 1 ≤ L) (hL2 : L ≤ 2 ^ 40) (hl : (tab k).length = 2 ^ (k - 1)) : ∀ (f t e : Nat) (x : List P), x.length = 2 ^ k → t + f ≤ k → At G (-1) k t e (zf x) → okN L f t e = true → At G (-1) k (t + f) (eN L f t e) (zf (bws k d ((tab k).map conj) f (t + 1) x))
  | 0, t, e, x, _, _, h, _ => h
  | f + 1, t, e, x, hx, htf, h, ho => by
    simp only [okN, Bool.and_eq_true, decide_eq_true_eq] at ho
    have hs := stage_all hG h2 (show t < k by omega) hL hL2 ho.1 h (fun j hj => root_bwd h1 h2 (by omega) hj hl)
    have hs2 : At G (-1) k (t + 1) (nxt e (2 ^ t) L) (zf (stg x ((tab k).map conj) (2 ^ (t + 1 - 1)) (2 ^ (k - (t + 1))) ((mostBack (t + 1) k d : Int) * 2 ^ 32 + 1))) := by
      refine at_congr (by omega) hs fun i hi => ?_
      rw [stg_z _ _ _ _ _ _ (by rw [hx]; exact hi), show t + 1 - 1 = t by omega, show k - (t + 1) = k - t - 1 by omega]
    have := bws_at (d := d) hG h1 h2 hL hL2 hl f (t + 1) _ _ (by rw [stg_length, hx]) (by omega) hs2 ho.2
    rw [show t + 1 + f = t + (f + 1) by omega] at this
    exact this
end Go.Proofs.Ygctak.Ft
