/-
  The roots are powers of one, nearly: what a product of two table entries is off the entry of their sum.
-/
import Derived.Test.YgctakFt1
set_option linter.unusedVariables false
set_option linter.unusedSimpArgs false
namespace Go.Proofs.Ygctak.Ft
open Fl

/-- The whole circle out of its first half; the phase counts 1024ths. -/
def cir (L : List (Int × Int)) (n : Int) : Int × Int :=
  if (n % 1024).toNat < 512 then L.getD (n % 1024).toNat (0, 0) else (-(L.getD ((n % 1024).toNat - 512) (0, 0)).1, -(L.getD ((n % 1024).toNat - 512) (0, 0)).2)
/-- The finer roots, times 2^140. -/
def hh (n : Int) : Int × Int := cir HT n
/-- The table's roots, times 2^62. -/
def ww (n : Int) : Int × Int := cir RT n

theorem cir_mod (L : List (Int × Int)) (n m : Int) (h : n % 1024 = m % 1024) : cir L n = cir L m := by unfold cir; rw [h]
theorem cir_anti (L : List (Int × Int)) (n : Int) : cir L (n + 512) = (-(cir L n).1, -(cir L n).2) := by
  unfold cir
  by_cases h : (n % 1024).toNat < 512
  · rw [if_pos h, if_neg (by omega), show ((n + 512) % 1024).toNat - 512 = (n % 1024).toNat by omega]
  · rw [if_neg h, if_pos (by omega), show ((n + 512) % 1024).toNat = (n % 1024).toNat - 512 by omega]
    simp
theorem cir_small (L : List (Int × Int)) (j : Nat) (h : j < 512) : cir L j = L.getD j (0, 0) := by
  unfold cir
  rw [show ((j : Int) % 1024).toNat = j by omega, if_pos h]

/-! ### what the lists give -/
theorem allOk_at : ∀ (rs hs : List (Int × Int)), allOk rs hs = true → ∀ j, j < rs.length → okR (rs.getD j (0, 0)) (hs.getD j (0, 0)) = true
  | [], [], _, j, hj => by simp at hj
  | r :: rs, h :: hs, hk, j, hj => by
    simp only [allOk, Bool.and_eq_true] at hk
    cases j with
    | zero => exact hk.1
    | succ j => exact allOk_at rs hs hk.2 j (by simpa using hj)
  | [], _ :: _, hk, _, _ => by simp [allOk] at hk
  | _ :: _, [], hk, _, _ => by simp [allOk] at hk
theorem chain_at (c : Int × Int) : ∀ (l : List (Int × Int)), chain c l = true → ∀ j, j + 1 < l.length → nextOk c (l.getD j (0, 0)) (l.getD (j + 1) (0, 0)) = true
  | [], _, j, hj => by simp at hj
  | [p], _, j, hj => by simp at hj
  | p :: q :: r, hk, j, hj => by
    simp only [chain, Bool.and_eq_true] at hk
    cases j with
    | zero => exact hk.1
    | succ j => exact chain_at c (q :: r) hk.2 j (by simpa using hj)

/-- What each root of the circle keeps. -/
structure Ok (r h : Int × Int) : Prop where
  r1 : r.1.natAbs ≤ 2 ^ 62
  r2 : r.2.natAbs ≤ 2 ^ 62
  rs : 16384 * (r.1.natAbs + r.2.natAbs) ≤ 23171 * 2 ^ 62
  hs : 16384 * (h.1.natAbs + h.2.natAbs) ≤ 23171 * 2 ^ 140
  d1 : (r.1 * 2 ^ 78 - h.1).natAbs ≤ 2 ^ 89
  d2 : (r.2 * 2 ^ 78 - h.2).natAbs ≤ 2 ^ 89
theorem Ok.neg {r h : Int × Int} (k : Ok r h) : Ok (-r.1, -r.2) (-h.1, -h.2) := by
  obtain ⟨a, b, c, d, e, f⟩ := k
  exact ⟨by simpa using a, by simpa using b, by simpa using c, by simpa using d, by simp only; rw [Int.neg_mul]; omega, by simp only; rw [Int.neg_mul]; omega⟩
theorem ok_all (n : Int) : Ok (ww n) (hh n) := by
  have key : ∀ j, j < 512 → Ok (RT.getD j (0, 0)) (HT.getD j (0, 0)) := fun j hj => by
    have := allOk_at RT HT allOk_ok j (by rw [RT_length]; exact hj)
    simp only [okR, decide_eq_true_eq] at this
    obtain ⟨a, b, c, d, e, f⟩ := this
    exact ⟨a, b, c, d, e, f⟩
  unfold ww hh cir
  by_cases h : (n % 1024).toNat < 512
  · rw [if_pos h, if_pos h]; exact key _ h
  · rw [if_neg h, if_neg h]; exact (key _ (by omega)).neg

/-- A product's parts. -/
theorem prod_le {x1 x2 y1 y2 : Int} {Y : Nat} (h1 : y1.natAbs ≤ Y) (h2 : y2.natAbs ≤ Y) : (x1 * y1 - x2 * y2).natAbs ≤ (x1.natAbs + x2.natAbs) * Y ∧ (x1 * y2 + x2 * y1).natAbs ≤ (x1.natAbs + x2.natAbs) * Y := by
  have a1 : (x1 * y1).natAbs ≤ x1.natAbs * Y := by rw [Int.natAbs_mul]; exact Nat.mul_le_mul_left _ h1
  have a2 : (x2 * y2).natAbs ≤ x2.natAbs * Y := by rw [Int.natAbs_mul]; exact Nat.mul_le_mul_left _ h2
  have a3 : (x1 * y2).natAbs ≤ x1.natAbs * Y := by rw [Int.natAbs_mul]; exact Nat.mul_le_mul_left _ h2
  have a4 : (x2 * y1).natAbs ≤ x2.natAbs * Y := by rw [Int.natAbs_mul]; exact Nat.mul_le_mul_left _ h1
  rw [Nat.add_mul]
  omega

theorem getD_app (l m : List (Int × Int)) (i : Nat) (d : Int × Int) (h : i < l.length) : (l ++ m).getD i d = l.getD i d := by
  rw [List.getD_eq_getElem?_getD, List.getD_eq_getElem?_getD, List.getElem?_append_left h]

/-- q is c times p but for two units. -/
def Nx (c p q : Int × Int) : Prop := (c.1 * p.1 - c.2 * p.2 - 2 ^ 140 * q.1).natAbs ≤ 2 ^ 141 ∧ (c.1 * p.2 + c.2 * p.1 - 2 ^ 140 * q.2).natAbs ≤ 2 ^ 141
theorem Nx.neg {c p q : Int × Int} (h : Nx c p q) : Nx c (-p.1, -p.2) (-q.1, -q.2) := by
  obtain ⟨h1, h2⟩ := h
  constructor
  · have e : c.1 * -p.1 - c.2 * -p.2 - 2 ^ 140 * -q.1 = -(c.1 * p.1 - c.2 * p.2 - 2 ^ 140 * q.1) := by grind
    simp only
    rw [e, Int.natAbs_neg]; exact h1
  · have e : c.1 * -p.2 + c.2 * -p.1 - 2 ^ 140 * -q.2 = -(c.1 * p.2 + c.2 * p.1 - 2 ^ 140 * q.2) := by grind
    simp only
    rw [e, Int.natAbs_neg]; exact h2

/-- The next one. -/
theorem h_step (n : Int) : Nx H1 (hh n) (hh (n + 1)) := by
  have key : ∀ i : Nat, i < 512 → Nx H1 (hh i) (hh ((i : Int) + 1)) := by
    intro i hi
    have c := chain_at H1 _ chain_ok i (by rw [List.length_append, HT_length]; show i + 1 < 512 + 1; omega)
    have e1 : (HT ++ [(-2 ^ 140, 0)]).getD i (0, 0) = hh i := by
      unfold hh
      rw [cir_small _ _ hi, getD_app _ _ _ _ (by rw [HT_length]; exact hi)]
    have e2 : (HT ++ [(-2 ^ 140, 0)]).getD (i + 1) (0, 0) = hh ((i : Int) + 1) := by
      unfold hh
      by_cases h5 : i + 1 < 512
      · have := cir_small HT (i + 1) h5
        rw [show (((i + 1 : Nat) : Int)) = (i : Int) + 1 by omega] at this
        rw [this, getD_app _ _ _ _ (by rw [HT_length]; exact h5)]
      · have h6 : i = 511 := by omega
        subst h6
        have := cir_anti HT 0
        rw [show (((511 : Nat) : Int) + 1) = 0 + 512 by omega, this]
        have h0 := cir_small HT 0 (by omega)
        rw [show (((0 : Nat) : Int)) = 0 from rfl] at h0
        rw [h0, HT0, List.getD_eq_getElem?_getD, List.getElem?_append_right (by rw [HT_length]; omega), HT_length]
        rfl
    rw [e1, e2] at c
    unfold Nx
    simpa only [nextOk, decide_eq_true_eq] using c
  by_cases h : (n % 1024).toNat < 512
  · have := key _ h
    have e1 : hh ((n % 1024).toNat : Int) = hh n := cir_mod _ _ _ (by omega)
    have e2 : hh (((n % 1024).toNat : Int) + 1) = hh (n + 1) := cir_mod _ _ _ (by omega)
    rw [e1, e2] at this
    exact this
  · have := (key ((n % 1024).toNat - 512) (by omega)).neg
    have e1 : hh n = hh ((((n % 1024).toNat - 512 : Nat) : Int) + 512) := cir_mod _ _ _ (by omega)
    have e2 : hh (n + 1) = hh ((((n % 1024).toNat - 512 : Nat) : Int) + 1 + 512) := cir_mod _ _ _ (by omega)
    rw [e1, e2]
    unfold hh at this ⊢
    rw [cir_anti, cir_anti]
    exact this

/-- How far a product of the a-th root is off. -/
def off : Nat → Nat
  | 0 => 0
  | a + 1 => off a + off a / 128 + 8
theorem off_le : ∀ a b, a ≤ b → off a ≤ off b := by
  intro a b h
  induction h with
  | refl => exact Nat.le_refl _
  | step _ ih => exact Nat.le_trans ih (by simp only [off]; omega)

theorem id1 (S c1 c2 a1 a2 b1 b2 p1 p2 A1 A2 P1 : Int) :
    S * (A1 * b1 - A2 * b2 - S * P1) = c1 * (a1 * b1 - a2 * b2 - S * p1) - c2 * (a1 * b2 + a2 * b1 - S * p2) - (c1 * a1 - c2 * a2 - S * A1) * b1 + (c1 * a2 + c2 * a1 - S * A2) * b2 + S * (c1 * p1 - c2 * p2 - S * P1) := by
  grind
theorem id2 (S c1 c2 a1 a2 b1 b2 p1 p2 A1 A2 P2 : Int) :
    S * (A1 * b2 + A2 * b1 - S * P2) = c1 * (a1 * b2 + a2 * b1 - S * p2) + c2 * (a1 * b1 - a2 * b2 - S * p1) - (c1 * a1 - c2 * a2 - S * A1) * b2 - (c1 * a2 + c2 * a1 - S * A2) * b1 + S * (c1 * p2 + c2 * p1 - S * P2) := by
  grind

theorem step_bd {S D : Nat} {x u v e : Int} {C B : Nat} (hS : 0 < S) (hx : (S : Int) * x = u + v + S * e) (hu : 128 * u.natAbs ≤ 129 * S * (D * S)) (hv : 16384 * v.natAbs ≤ 23171 * S * (2 * S)) (he : e.natAbs ≤ 2 * S) : x.natAbs ≤ (D + D / 128 + 8) * S := by
  have h1 : S * x.natAbs = (u + v + S * e).natAbs := by rw [← hx, Int.natAbs_mul]; rfl
  have h2 : (u + v + S * e).natAbs ≤ u.natAbs + v.natAbs + S * e.natAbs := by
    have : ((S : Int) * e).natAbs = S * e.natAbs := by rw [Int.natAbs_mul]; rfl
    omega
  have h3 : S * e.natAbs ≤ S * (2 * S) := Nat.mul_le_mul_left _ he
  have h4 : S * x.natAbs ≤ S * ((D + D / 128 + 8) * S) := by
    have e1 : 129 * S * (D * S) = 129 * D * (S * S) := by grind
    have e2 : 23171 * S * (2 * S) = 46342 * (S * S) := by grind
    have e3 : S * (2 * S) = 2 * (S * S) := by grind
    have e4 : S * ((D + D / 128 + 8) * S) = (D + D / 128 + 8) * (S * S) := by grind
    rw [e1] at hu
    rw [e2] at hv
    rw [e3] at h3
    rw [e4, h1]
    have hQ : 0 < S * S := Nat.mul_pos hS hS
    generalize S * S = Q at *
    have h5 : (D + D / 128 + 8) * Q = D * Q + D / 128 * Q + 8 * Q := by grind
    have h6 : 129 * D * Q = 129 * (D * Q) := by grind
    have h7 : D * Q < 128 * (D / 128 * Q) + 128 * Q := by
      have : D < 128 * (D / 128) + 128 := by omega
      have := Nat.mul_lt_mul_of_pos_right this hQ
      rw [Nat.add_mul, Nat.mul_assoc] at this
      exact this
    rw [h5]
    rw [h6] at hu
    generalize D * Q = X at *
    generalize D / 128 * Q = Y at *
    omega
  exact Nat.le_of_mul_le_mul_left h4 hS

theorem h_mul : ∀ (a : Nat) (m : Int), ((hh a).1 * (hh m).1 - (hh a).2 * (hh m).2 - 2 ^ 140 * (hh (a + m)).1).natAbs ≤ off a * 2 ^ 140 ∧ ((hh a).1 * (hh m).2 + (hh a).2 * (hh m).1 - 2 ^ 140 * (hh (a + m)).2).natAbs ≤ off a * 2 ^ 140 := by
  intro a
  induction a with
  | zero =>
    intro m
    have h0 : hh ((0 : Nat) : Int) = (2 ^ 140, 0) := by unfold hh; rw [cir_small HT 0 (by omega), HT0]
    rw [h0, show ((0 : Nat) : Int) + m = m by omega]
    simp
  | succ a ih =>
    intro m
    obtain ⟨i1, i2⟩ := ih m
    obtain ⟨s1, s2⟩ := h_step a
    obtain ⟨t1, t2⟩ := h_step ((a : Int) + m)
    have eA : hh ((a + 1 : Nat) : Int) = hh ((a : Int) + 1) := by rw [show ((a + 1 : Nat) : Int) = (a : Int) + 1 by omega]
    have eP : hh (((a + 1 : Nat) : Int) + m) = hh ((a : Int) + m + 1) := by rw [show ((a + 1 : Nat) : Int) + m = (a : Int) + m + 1 by omega]
    rw [eA, eP]
    have hb := (ok_all m).hs
    have hc := H1_small
    have j1 := id1 (2 ^ 140) H1.1 H1.2 (hh a).1 (hh a).2 (hh m).1 (hh m).2 (hh (a + m)).1 (hh (a + m)).2 (hh ((a : Int) + 1)).1 (hh ((a : Int) + 1)).2 (hh ((a : Int) + m + 1)).1
    have j2 := id2 (2 ^ 140) H1.1 H1.2 (hh a).1 (hh a).2 (hh m).1 (hh m).2 (hh (a + m)).1 (hh (a + m)).2 (hh ((a : Int) + 1)).1 (hh ((a : Int) + 1)).2 (hh ((a : Int) + m + 1)).2
    obtain ⟨u1, _⟩ := prod_le (x1 := H1.1) (x2 := H1.2) i1 i2
    obtain ⟨_, u2⟩ := prod_le (x1 := H1.1) (x2 := H1.2) i1 i2
    obtain ⟨v1, _⟩ := prod_le (x1 := (hh m).1) (x2 := (hh m).2) s1 s2
    obtain ⟨_, v2⟩ := prod_le (x1 := (hh m).1) (x2 := (hh m).2) s1 s2
    generalize H1.1 * (hh a).1 - H1.2 * (hh a).2 - 2 ^ 140 * (hh ((a : Int) + 1)).1 = d1 at *
    generalize H1.1 * (hh a).2 + H1.2 * (hh a).1 - 2 ^ 140 * (hh ((a : Int) + 1)).2 = d2 at *
    generalize H1.1 * (hh (a + m)).1 - H1.2 * (hh (a + m)).2 - 2 ^ 140 * (hh ((a : Int) + m + 1)).1 = d3 at *
    generalize H1.1 * (hh (a + m)).2 + H1.2 * (hh (a + m)).1 - 2 ^ 140 * (hh ((a : Int) + m + 1)).2 = d4 at *
    generalize (hh a).1 * (hh m).1 - (hh a).2 * (hh m).2 - 2 ^ 140 * (hh (a + m)).1 = D1 at *
    generalize (hh a).1 * (hh m).2 + (hh a).2 * (hh m).1 - 2 ^ 140 * (hh (a + m)).2 = D2 at *
    have eS : ((2 ^ 140 : Nat) : Int) = 2 ^ 140 := by rw [Int.natCast_pow]; rfl
    constructor
    · refine step_bd (S := 2 ^ 140) (C := 0) (B := 0) (u := H1.1 * D1 - H1.2 * D2) (v := -((hh m).1 * d1 - (hh m).2 * d2)) (e := d3) (Nat.two_pow_pos 140) ?_ ?_ ?_ ?_
      · rw [eS, j1]; grind
      · refine Nat.le_trans (Nat.mul_le_mul_left _ u1) ?_
        rw [← Nat.mul_assoc]; exact Nat.mul_le_mul_right _ hc
      · rw [Int.natAbs_neg]
        refine Nat.le_trans (Nat.mul_le_mul_left _ v1) ?_
        rw [← Nat.mul_assoc]; exact Nat.mul_le_mul hb (by decide)
      · exact Nat.le_trans t1 (by decide)
    · refine step_bd (S := 2 ^ 140) (C := 0) (B := 0) (u := H1.1 * D2 + H1.2 * D1) (v := -((hh m).1 * d2 + (hh m).2 * d1)) (e := d4) (Nat.two_pow_pos 140) ?_ ?_ ?_ ?_
      · rw [eS, j2]; grind
      · refine Nat.le_trans (Nat.mul_le_mul_left _ u2) ?_
        rw [← Nat.mul_assoc]; exact Nat.mul_le_mul_right _ hc
      · rw [Int.natAbs_neg]
        refine Nat.le_trans (Nat.mul_le_mul_left _ v2) ?_
        rw [← Nat.mul_assoc]; exact Nat.mul_le_mul hb (by decide)
      · exact Nat.le_trans t2 (by decide)

theorem off_end : off 1024 ≤ 2 ^ 40 := by decide +kernel

/-- Any two of the finer roots. -/
theorem h_all (a m : Int) : ((hh a).1 * (hh m).1 - (hh a).2 * (hh m).2 - 2 ^ 140 * (hh (a + m)).1).natAbs ≤ 2 ^ 180 ∧ ((hh a).1 * (hh m).2 + (hh a).2 * (hh m).1 - 2 ^ 140 * (hh (a + m)).2).natAbs ≤ 2 ^ 180 := by
  have h := h_mul (a % 1024).toNat m
  have e1 : hh ((a % 1024).toNat : Int) = hh a := cir_mod _ _ _ (by omega)
  have e2 : hh (((a % 1024).toNat : Int) + m) = hh (a + m) := cir_mod _ _ _ (by omega)
  rw [e1, e2] at h
  have hb : off (a % 1024).toNat * 2 ^ 140 ≤ 2 ^ 180 := by
    have h1 := off_le (a % 1024).toNat 1024 (by omega)
    have h2 := Nat.mul_le_mul_right (2 ^ 140) (Nat.le_trans h1 off_end)
    exact Nat.le_trans h2 (by decide)
  exact ⟨Nat.le_trans h.1 hb, Nat.le_trans h.2 hb⟩

theorem h_conj (a : Int) : hh (-a) = ((hh a).1, -(hh a).2) := by
  have key : ∀ j : Nat, j < 512 → 1 ≤ j → HT.getD (512 - j) (0, 0) = (-(HT.getD j (0, 0)).1, (HT.getD j (0, 0)).2) := by
    intro j hj h1
    have hl := HT_length
    have c := congrArg (fun l : List (Int × Int) => l[j - 1]?) conj_ok
    simp only [List.getElem?_map] at c
    rw [List.getElem?_reverse (by rw [List.length_drop]; omega), List.length_drop, hl, List.getElem?_drop, List.getElem?_drop, show 1 + (512 - 1 - 1 - (j - 1)) = 512 - j by omega, show 1 + (j - 1) = j by omega, List.getElem?_eq_getElem (by omega), List.getElem?_eq_getElem (by omega)] at c
    simp only [Option.map_some, Option.some.injEq] at c
    rw [List.getD_eq_getElem?_getD, List.getD_eq_getElem?_getD, List.getElem?_eq_getElem (show 512 - j < HT.length by omega), List.getElem?_eq_getElem (show j < HT.length by omega)]
    simp only [Option.getD_some]
    rw [← c]
    simp
  have h0 : HT.getD 0 (0, 0) = (2 ^ 140, 0) := HT0
  unfold hh cir
  obtain ⟨r, hr⟩ : ∃ r, r = (a % 1024).toNat := ⟨_, rfl⟩
  have hr2 : r < 1024 := by omega
  rw [← hr]
  by_cases hz : r = 0
  · rw [show ((-a) % 1024).toNat = 0 by omega, hz, if_pos (by omega), h0]; rfl
  · rw [show ((-a) % 1024).toNat = 1024 - r by omega]
    by_cases h : r < 512
    · have k := key r h (by omega)
      rw [if_neg (by omega), if_pos h, show 1024 - r - 512 = 512 - r by omega, k]
      simp
    · by_cases h5 : r = 512
      · subst h5
        rw [if_neg (by omega), show 1024 - 512 - 512 = 0 from rfl, h0]; rfl
      · have k := key (r - 512) (by omega) (by omega)
        rw [if_pos (by omega), if_neg h, show 1024 - r = 512 - (r - 512) by omega, k]
        simp

theorem id3 (S a1 a2 b1 b2 h1 h2 g1 g2 p1 w1 : Int) : a1 * b1 - a2 * b2 - S * w1 = ((a1 - h1) * b1 - (a2 - h2) * b2) + (h1 * (b1 - g1) - h2 * (b2 - g2)) + (h1 * g1 - h2 * g2 - S * p1) - S * (w1 - p1) := by grind
theorem id4 (S a1 a2 b1 b2 h1 h2 g1 g2 p2 w2 : Int) : a1 * b2 + a2 * b1 - S * w2 = (b1 * (a2 - h2) + b2 * (a1 - h1)) + (h1 * (b2 - g2) + h2 * (b1 - g1)) + (h1 * g2 + h2 * g1 - S * p2) - S * (w2 - p2) := by grind

/-- Two numbers near two roots, their product near the root of the sum. -/
theorem near_mul {S E : Nat} {a1 a2 b1 b2 h1 h2 g1 g2 p1 p2 w1 w2 : Int} (ha1 : (a1 - h1).natAbs ≤ E) (ha2 : (a2 - h2).natAbs ≤ E) (hb1 : (b1 - g1).natAbs ≤ E) (hb2 : (b2 - g2).natAbs ≤ E) (hw1 : (w1 - p1).natAbs ≤ E) (hw2 : (w2 - p2).natAbs ≤ E)
    (sb : 16384 * (b1.natAbs + b2.natAbs) ≤ 23171 * S) (sh : 16384 * (h1.natAbs + h2.natAbs) ≤ 23171 * S) (hm1 : 8192 * (h1 * g1 - h2 * g2 - S * p1).natAbs ≤ E * S) (hm2 : 8192 * (h1 * g2 + h2 * g1 - S * p2).natAbs ≤ E * S) :
    (a1 * b1 - a2 * b2 - S * w1).natAbs ≤ 4 * (E * S) ∧ (a1 * b2 + a2 * b1 - S * w2).natAbs ≤ 4 * (E * S) := by
  obtain ⟨x1, _⟩ := prod_le (x1 := b1) (x2 := b2) ha1 ha2
  obtain ⟨_, x2⟩ := prod_le (x1 := b1) (x2 := b2) ha1 ha2
  obtain ⟨y1, _⟩ := prod_le (x1 := h1) (x2 := h2) hb1 hb2
  obtain ⟨_, y2⟩ := prod_le (x1 := h1) (x2 := h2) hb1 hb2
  have z1 : 16384 * ((b1.natAbs + b2.natAbs) * E) ≤ 23171 * (E * S) := by
    have := Nat.mul_le_mul_right E sb
    rw [Nat.mul_assoc, Nat.mul_assoc, Nat.mul_comm S E] at this; exact this
  have z2 : 16384 * ((h1.natAbs + h2.natAbs) * E) ≤ 23171 * (E * S) := by
    have := Nat.mul_le_mul_right E sh
    rw [Nat.mul_assoc, Nat.mul_assoc, Nat.mul_comm S E] at this; exact this
  have z3 : ((S : Int) * (w1 - p1)).natAbs ≤ E * S := by rw [Int.natAbs_mul, Nat.mul_comm]; exact Nat.mul_le_mul_right _ hw1
  have z4 : ((S : Int) * (w2 - p2)).natAbs ≤ E * S := by rw [Int.natAbs_mul, Nat.mul_comm]; exact Nat.mul_le_mul_right _ hw2
  have e1 := id3 S a1 a2 b1 b2 h1 h2 g1 g2 p1 w1
  have e2 := id4 S a1 a2 b1 b2 h1 h2 g1 g2 p2 w2
  have e3 : (a1 - h1) * b1 - (a2 - h2) * b2 = b1 * (a1 - h1) - b2 * (a2 - h2) := by grind
  rw [e3] at e1
  generalize (b1.natAbs + b2.natAbs) * E = q1 at *
  generalize (h1.natAbs + h2.natAbs) * E = q2 at *
  generalize E * S = Q at *
  constructor
  · rw [e1]
    generalize b1 * (a1 - h1) - b2 * (a2 - h2) = r1 at *
    generalize h1 * (b1 - g1) - h2 * (b2 - g2) = r2 at *
    generalize h1 * g1 - h2 * g2 - S * p1 = r3 at *
    generalize (S : Int) * (w1 - p1) = r4 at *
    omega
  · rw [e2]
    generalize b1 * (a2 - h2) + b2 * (a1 - h1) = r1 at *
    generalize h1 * (b2 - g2) + h2 * (b1 - g1) = r2 at *
    generalize h1 * g2 + h2 * g1 - S * p2 = r3 at *
    generalize (S : Int) * (w2 - p2) = r4 at *
    omega

/-- Two entries of the table: their product is off the entry of the sum by 2^-49 at most. -/
theorem w_mul (a m : Int) : ((ww a).1 * (ww m).1 - (ww a).2 * (ww m).2 - 2 ^ 62 * (ww (a + m)).1).natAbs ≤ 2 ^ 75 ∧ ((ww a).1 * (ww m).2 + (ww a).2 * (ww m).1 - 2 ^ 62 * (ww (a + m)).2).natAbs ≤ 2 ^ 75 := by
  have oa := ok_all a
  have om := ok_all m
  have os := ok_all (a + m)
  obtain ⟨m1, m2⟩ := h_all a m
  have h2 : (2 : Int) ^ 140 = ((2 ^ 140 : Nat) : Int) := by rw [Int.natCast_pow]; rfl
  rw [h2] at m1 m2
  have sb : 16384 * (((ww m).1 * 2 ^ 78).natAbs + ((ww m).2 * 2 ^ 78).natAbs) ≤ 23171 * 2 ^ 140 := by
    have := om.rs
    rw [Int.natAbs_mul, Int.natAbs_mul, show ((2 : Int) ^ 78).natAbs = 2 ^ 78 by decide]
    omega
  obtain ⟨n1, n2⟩ := near_mul (S := 2 ^ 140) (E := 2 ^ 89) oa.d1 oa.d2 om.d1 om.d2 os.d1 os.d2 sb oa.hs (Nat.le_trans (Nat.mul_le_mul_left _ m1) (by decide)) (Nat.le_trans (Nat.mul_le_mul_left _ m2) (by decide))
  rw [← h2] at n1 n2
  have e1 : (ww a).1 * 2 ^ 78 * ((ww m).1 * 2 ^ 78) - (ww a).2 * 2 ^ 78 * ((ww m).2 * 2 ^ 78) - 2 ^ 140 * ((ww (a + m)).1 * 2 ^ 78) = 2 ^ 156 * ((ww a).1 * (ww m).1 - (ww a).2 * (ww m).2 - 2 ^ 62 * (ww (a + m)).1) := by grind
  have e2 : (ww a).1 * 2 ^ 78 * ((ww m).2 * 2 ^ 78) + (ww a).2 * 2 ^ 78 * ((ww m).1 * 2 ^ 78) - 2 ^ 140 * ((ww (a + m)).2 * 2 ^ 78) = 2 ^ 156 * ((ww a).1 * (ww m).2 + (ww a).2 * (ww m).1 - 2 ^ 62 * (ww (a + m)).2) := by grind
  rw [e1] at n1
  rw [e2] at n2
  generalize (ww a).1 * (ww m).1 - (ww a).2 * (ww m).2 - 2 ^ 62 * (ww (a + m)).1 = r1 at *
  generalize (ww a).1 * (ww m).2 + (ww a).2 * (ww m).1 - 2 ^ 62 * (ww (a + m)).2 = r2 at *
  constructor <;> omega
/-- The same of a conjugate. -/
theorem w_conj (a m : Int) : ((ww a).1 * (ww m).1 - -(ww a).2 * (ww m).2 - 2 ^ 62 * (ww (m - a)).1).natAbs ≤ 2 ^ 75 ∧ ((ww a).1 * (ww m).2 + -(ww a).2 * (ww m).1 - 2 ^ 62 * (ww (m - a)).2).natAbs ≤ 2 ^ 75 := by
  have oa := ok_all a
  have om := ok_all m
  have os := ok_all (m - a)
  obtain ⟨m1, m2⟩ := h_all (-a) m
  rw [show -a + m = m - a by omega, h_conj] at m1 m2
  simp only at m1 m2
  have h2 : (2 : Int) ^ 140 = ((2 ^ 140 : Nat) : Int) := by rw [Int.natCast_pow]; rfl
  rw [h2] at m1 m2
  have sb : 16384 * (((ww m).1 * 2 ^ 78).natAbs + ((ww m).2 * 2 ^ 78).natAbs) ≤ 23171 * 2 ^ 140 := by
    have := om.rs
    rw [Int.natAbs_mul, Int.natAbs_mul, show ((2 : Int) ^ 78).natAbs = 2 ^ 78 by decide]
    omega
  have sh : 16384 * ((hh a).1.natAbs + (-(hh a).2).natAbs) ≤ 23171 * 2 ^ 140 := by rw [Int.natAbs_neg]; exact oa.hs
  have d2 : (-(ww a).2 * 2 ^ 78 - -(hh a).2).natAbs ≤ 2 ^ 89 := by
    have := oa.d2
    rw [Int.neg_mul]; omega
  obtain ⟨n1, n2⟩ := near_mul (S := 2 ^ 140) (E := 2 ^ 89) oa.d1 d2 om.d1 om.d2 os.d1 os.d2 sb sh (Nat.le_trans (Nat.mul_le_mul_left _ m1) (by decide)) (Nat.le_trans (Nat.mul_le_mul_left _ m2) (by decide))
  rw [← h2] at n1 n2
  have e1 : (ww a).1 * 2 ^ 78 * ((ww m).1 * 2 ^ 78) - -(ww a).2 * 2 ^ 78 * ((ww m).2 * 2 ^ 78) - 2 ^ 140 * ((ww (m - a)).1 * 2 ^ 78) = 2 ^ 156 * ((ww a).1 * (ww m).1 - -(ww a).2 * (ww m).2 - 2 ^ 62 * (ww (m - a)).1) := by grind
  have e2 : (ww a).1 * 2 ^ 78 * ((ww m).2 * 2 ^ 78) + -(ww a).2 * 2 ^ 78 * ((ww m).1 * 2 ^ 78) - 2 ^ 140 * ((ww (m - a)).2 * 2 ^ 78) = 2 ^ 156 * ((ww a).1 * (ww m).2 + -(ww a).2 * (ww m).1 - 2 ^ 62 * (ww (m - a)).2) := by grind
  rw [e1] at n1
  rw [e2] at n2
  generalize (ww a).1 * (ww m).1 - -(ww a).2 * (ww m).2 - 2 ^ 62 * (ww (m - a)).1 = r1 at *
  generalize (ww a).1 * (ww m).2 + -(ww a).2 * (ww m).1 - 2 ^ 62 * (ww (m - a)).2 = r2 at *
  constructor <;> omega
end Go.Proofs.Ygctak.Ft
