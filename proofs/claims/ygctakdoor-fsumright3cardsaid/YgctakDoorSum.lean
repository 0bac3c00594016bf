/-
  Shewchuk's sum of at most three terms is the exact sum, rounded once. On integers; no Go in sight.
-/
import Derived.Test.YgctakDoorRw
set_option linter.unusedVariables false
set_option linter.unusedSimpArgs false
namespace Go.Proofs.YgctakDoor.Rn

/-- shew.Grow on values. -/
def growV : List Int → Int → List Int
  | [], x => if x = 0 then [] else [x]
  | p :: ps, x => if x + p - RN (x + p) = 0 then growV ps (RN (x + p)) else (x + p - RN (x + p)) :: growV ps (RN (x + p))

/-- shew.Finish's loop on values: the partials below the one at hand, the last one first. -/
def finGo : List Int → Int → Int → List Int × Int × Int
  | [], hi, lo => ([], hi, lo)
  | p :: ps, hi, lo => if lo = 0 then finGo ps (RN (hi + p)) (RN (p - RN (RN (hi + p) - hi))) else (p :: ps, hi, lo)
/-- shew.Finish's end. -/
def finEnd : List Int × Int × Int → Int
  | ([], hi, _) => hi
  | (p :: _, hi, lo) => if (lo < 0 ∧ p < 0) ∨ (0 < lo ∧ 0 < p) then (if RN (RN (hi + 2 * lo) - hi) = 2 * lo then RN (hi + 2 * lo) else hi) else hi
/-- shew.Finish on values, the last one first. -/
def finV : List Int → Int
  | [] => 0
  | p :: ps => finEnd (finGo ps p 0)

theorem nz2 (p q : Int) (hp : F p) (hq : F q) : finV ((if p = 0 then (if q = 0 then [] else [q]) else p :: (if q = 0 then [] else [q])).reverse) = RN (p + q) := by
  by_cases h1 : p = 0
  · by_cases h2 : q = 0
    · subst h1 h2; simp [finV, RN_zero]
    · subst h1; simp [h2, finV, finGo, finEnd, RN_id hq]
  · by_cases h2 : q = 0
    · subst h2; simp [h1, finV, finGo, finEnd, RN_id hp]
    · simp [h1, h2, finV, finGo, finEnd, Int.add_comm]

theorem grow0 (x : Int) : growV [] x = if x = 0 then [] else [x] := rfl

/-- Two terms. -/
theorem grow2 (a b : Int) (ha : F a) (hb : F b) : growV (growV [] a) b = if b + a - RN (b + a) = 0 then (if RN (b + a) = 0 then [] else [RN (b + a)]) else (b + a - RN (b + a)) :: (if RN (b + a) = 0 then [] else [RN (b + a)]) := by
  by_cases h : a = 0
  · subst h
    rw [grow0, if_pos rfl, grow0, Int.add_zero, RN_id hb, Int.sub_self, if_pos rfl]
  · rw [grow0, if_neg h]
    simp only [growV]

theorem fsum2 (a b : Int) (ha : F a) (hb : F b) : finV (growV (growV [] a) b).reverse = RN (b + a) ∧ (b + a = 0 → growV (growV [] a) b = []) ∧ (growV (growV [] a) b = [] → b + a = 0) := by
  rw [grow2 a b ha hb]
  refine ⟨?_, ?_, ?_⟩
  · rw [nz2 _ _ (err_F hb ha) (RN_F _)]
    congr 1; omega
  · intro h; rw [h, RN_zero]; simp
  · intro h
    by_cases h1 : RN (b + a) = 0
    · exact RN_eq_zero h1
    · exfalso; revert h; split <;> simp [h1]

theorem hl1 {x y f : Int} {G : Nat} (hf : f = y - x) (h : 2 * (x - y).natAbs ≤ G) (hG : 0 < G) : f.natAbs < G := by omega
theorem hl2 {x y f e : Int} {G : Nat} (hf : f = y - x) (h : (y - x).natAbs ≤ e.natAbs) (hG : e.natAbs < G) : f.natAbs < G := by omega
/-- What the second one is made of lies above the first. -/
theorem apart3 {a b c s1 e1 t f1 u f2 : Int} (ha : F a) (hb : F b) (hc : F c) (hs : s1 = RN (b + a)) (he : e1 = b + a - s1) (ht : t = RN (c + e1)) (hf1 : f1 = c + e1 - t) (hu : u = RN (t + s1)) (hf2 : f2 = t + s1 - u) :
    ∃ (j : Nat) (k l : Int), f2 = k * 2 ^ j ∧ t + s1 = l * 2 ^ j ∧ f1.natAbs < 2 ^ j := by
  have eF : F e1 := by rw [he, hs]; exact err_F hb ha
  obtain ⟨Lt, qt, _, _, t3, _, _, t6, _⟩ := RN_facts (c + e1)
  obtain ⟨Ls, qs, _, _, s3, _, _, s6, _⟩ := RN_facts (b + a)
  have hle := (err_le hc eF).2
  rw [← ht] at t3 t6 hle
  rw [← hs] at s3 s6
  have b1 : f1.natAbs < 2 ^ Lt := hl1 hf1 t6 (p2 Lt)
  have b2 : f1.natAbs < 2 ^ Ls := hl2 hf1 hle (hl1 he s6 (p2 Ls))
  obtain ⟨j, hj1, hj2, hj3⟩ : ∃ j, j ≤ Lt ∧ j ≤ Ls ∧ f1.natAbs < 2 ^ j := by
    rcases Nat.le_total Lt Ls with h | h
    · exact ⟨Lt, Nat.le_refl _, h, b1⟩
    · exact ⟨Ls, h, Nat.le_refl _, b2⟩
  obtain ⟨m, em⟩ := pow_up qt hj1
  obtain ⟨n, en⟩ := pow_up qs hj2
  have hsum : t + s1 = (m + n) * 2 ^ j := by rw [t3, s3, em, en, ← Int.add_mul]
  obtain ⟨L, q, h1, _, h3, _⟩ := RN_facts (t + s1)
  rw [← hu] at h3
  by_cases hL : j ≤ L
  · obtain ⟨r, er⟩ := pow_up q hL
    exact ⟨j, m + n - r, m + n, by rw [hf2, h3, er, hsum, ← Int.sub_mul], hsum, hj3⟩
  · obtain ⟨r, er⟩ := pow_up (m + n) (show L ≤ j by omega)
    have hF : F (t + s1) := by
      refine ⟨r, L, by rw [hsum, er], ?_⟩
      rw [hsum, er, Int.natAbs_mul, Int.natAbs_pow] at h1
      have := Nat.lt_of_mul_lt_mul_right (show r.natAbs * 2 ^ L < 2 ^ 53 * 2 ^ L from h1)
      omega
    refine ⟨j, 0, m + n, ?_, hsum, hj3⟩
    rw [hf2, hu, RN_id hF, Int.sub_self, Int.zero_mul]

theorem pow_int {j p : Nat} (h : j ≤ p) : ∃ k : Int, (2 : Int) ^ p = k * 2 ^ j := by
  obtain ⟨k, hk⟩ := pow_up 1 h
  exact ⟨k, by rw [← hk, Int.one_mul]⟩

/-- Multiples of G = 2^(j+1): one above another is at least G above. -/
theorem mul_gap {x y : Int} {j : Nat} (hx : ∃ k, x = k * 2 ^ j) (hy : ∃ k, y = k * 2 ^ j) (h : x < y) : x + 2 ^ j ≤ y := by
  obtain ⟨a, rfl⟩ := hx
  obtain ⟨b, rfl⟩ := hy
  have h1 : a < b := by
    rcases Int.lt_or_le a b with h2 | h2
    · exact h2
    · have := Int.mul_le_mul_of_nonneg_right h2 (Int.le_of_lt (ip2 j)); omega
  have := Int.mul_le_mul_of_nonneg_right (show a + 1 ≤ b by omega) (Int.le_of_lt (ip2 j))
  rw [Int.add_mul, Int.one_mul] at this
  exact this

theorem pow_lt_of {a b : Nat} (h : (2 : Int) ^ a < 2 ^ b) : a < b := by
  rcases Nat.lt_or_ge a b with h1 | h1
  · exact h1
  · have := pow_le h1
    rw [← ipow, ← ipow] at h
    omega

theorem gap {u v f2 k : Int} {j : Nat} (hu : F u) (hv : F v) (hn : RN (u + f2) = u) (h2 : 0 < f2) (hk : f2 = k * 2 ^ j) (hno : ¬ F (u + 2 * f2)) (hlt : u + 2 * f2 < v) : u + 2 * f2 + 2 * 2 ^ j ≤ v := by
  have hj : (2 : Int) ^ j ≤ f2 := by
    have := mul_gap (x := 0) (y := f2) (j := j) ⟨0, by simp⟩ ⟨k, hk⟩ h2
    omega
  have e2 : (2 : Int) ^ (j + 1) = 2 * 2 ^ j := by rw [Int.pow_succ, Int.mul_comm]
  have d2 : ∃ k, 2 * f2 = k * 2 ^ (j + 1) := ⟨k, by rw [hk, e2]; rw [← Int.mul_assoc, ← Int.mul_assoc, Int.mul_comm 2 k]⟩
  -- a representable step above u
  have step : ∀ g : Nat, F (u + 2 ^ g) → 2 * f2 + 2 * 2 ^ j ≤ 2 ^ g ∧ ∃ k, (2 : Int) ^ g = k * 2 ^ (j + 1) := by
    intro g hg
    have n1 := RN_near (u + f2) _ hg
    rw [hn] at n1
    have hp := ip2 g
    have n2 : 2 * f2 ≤ 2 ^ g := by omega
    have n3 : 2 * f2 ≠ 2 ^ g := fun h => hno (h ▸ hg)
    have n4 : (2 : Int) ^ (j + 1) < 2 ^ g := by rw [e2]; omega
    have d3 := pow_int (Nat.le_of_lt (pow_lt_of n4))
    have := mul_gap d2 d3 (by omega)
    rw [e2] at this
    exact ⟨this, d3⟩
  obtain ⟨m, p, hm, hm1, hm2⟩ := hu.canon
  obtain ⟨n, q, hq, hn1, hn2⟩ := hv.canon
  have hup : F (u + 2 ^ p) := ⟨m + 1, p, by rw [Int.add_mul, Int.one_mul, ← hm], by omega⟩
  obtain ⟨s1, s2⟩ := step p hup
  rcases Nat.lt_or_ge q p with h | h
  · -- v lies on a finer grid
    have bv : v.natAbs + 2 ^ q ≤ 2 ^ 53 * 2 ^ q := by
      rw [hq, Int.natAbs_mul, Int.natAbs_pow]
      have := Nat.mul_le_mul_right (2 ^ q) (show n.natAbs + 1 ≤ 2 ^ 53 by omega)
      rw [Nat.add_mul, Nat.one_mul] at this; exact this
    have bu : 2 ^ 52 * 2 ^ p ≤ u.natAbs := by
      rw [hm, Int.natAbs_mul, Int.natAbs_pow]
      exact Nat.mul_le_mul_right _ (by omega)
    obtain ⟨p', rfl⟩ : ∃ p', p = p' + 1 := ⟨p - 1, by omega⟩
    have hpp : 2 ^ (p' + 1) = 2 * 2 ^ p' := by rw [Nat.pow_succ, Nat.mul_comm]
    have hqp : 2 ^ q ≤ 2 ^ p' := pow_le (by omega)
    have ipp : (2 : Int) ^ (p' + 1) = 2 * 2 ^ p' := by rw [Int.pow_succ, Int.mul_comm]
    have bv2 : v.natAbs + 2 ^ p' ≤ 2 ^ 53 * 2 ^ p' := by
      generalize 2 ^ q = A at *
      generalize 2 ^ p' = B at *
      omega
    have eP := ipow p'
    rw [hpp] at bu
    rw [ipp] at s1
    by_cases hmm : m = -2 ^ 52
    · have hup2 : F (u + 2 ^ p') := by
        refine ⟨-2 ^ 53 + 1, p', ?_, by decide⟩
        rw [hm, hmm, ipp, Int.add_mul, Int.one_mul, ← Int.mul_assoc]
        rfl
      obtain ⟨s3, _⟩ := step p' hup2
      have hu2 : u = -(2 ^ 53 * 2 ^ p') := by
        rw [hm, hmm, ipp, ← Int.mul_assoc, ← Int.neg_mul]
        rfl
      rw [← eP] at s3 hu2
      generalize 2 ^ p' = B at *
      omega
    · have hneg : m < 0 := by
        rcases Int.lt_or_le m 0 with h5 | h5
        · exact h5
        · exfalso
          have hu0 : 0 ≤ u := by rw [hm]; exact Int.mul_nonneg h5 (Int.le_of_lt (ip2 _))
          generalize 2 ^ p' = B at *
          omega
      have hm3 : m + 1 ≤ -2 ^ 52 := by omega
      have := Int.mul_le_mul_of_nonneg_right hm3 (Int.le_of_lt (ip2 (p' + 1)))
      rw [Int.add_mul, Int.one_mul, ← hm, ipp, ← eP] at this
      rw [← eP] at s1
      generalize 2 ^ p' = B at *
      omega
  · obtain ⟨r, er⟩ := pow_up n h
    have d1 : ∃ k, v - u = k * 2 ^ (j + 1) := by
      obtain ⟨k2, hk2⟩ := s2
      exact ⟨(r - m) * k2, by rw [hq, er, hm, ← Int.sub_mul, hk2, Int.mul_assoc]⟩
    have := mul_gap d2 d1 (by omega)
    rw [e2] at this
    omega

/-- The end of Finish: f2 is the error of u, f1 lies below f2. -/
theorem fin_tie_pos {u f1 f2 k : Int} {j : Nat} (hu : F u) (h2F : F f2) (hn : RN (u + f2) = u) (hk : f2 = k * 2 ^ j) (h1 : f1.natAbs < 2 ^ j) (h10 : f1 ≠ 0) (h2 : 0 < f2) :
    RN (u + f2 + f1) = if 0 < f1 then (if RN (RN (u + 2 * f2) - u) = 2 * f2 then RN (u + 2 * f2) else u) else u := by
  have hj : (2 : Int) ^ j ≤ f2 := by
    have := mul_gap (x := 0) (y := f2) (j := j) ⟨0, by simp⟩ ⟨k, hk⟩ h2
    omega
  have eJ := ipow j
  have n1 := RN_near (u + f2) (RN (u + f2 + f1)) (RN_F _)
  have n2 := RN_near (u + f2 + f1) u hu
  rw [hn] at n1
  rw [← eJ] at hj
  split
  · rename_i hpos
    by_cases hF : F (u + 2 * f2)
    · rw [RN_id hF, show u + 2 * f2 - u = 2 * f2 by omega, RN_id (show F (2 * f2) from by obtain ⟨m, p, e, hm⟩ := h2F; exact ⟨m, p + 1, by rw [e, Int.pow_succ, ← Int.mul_assoc m, Int.mul_comm 2 (m * 2 ^ p)], hm⟩), if_pos rfl]
      have n3 := RN_near (u + f2 + f1) _ hF
      generalize RN (u + f2 + f1) = v at *
      omega
    · have hd : F (RN (u + 2 * f2) - u) := by
        apply dekker hu (show F (2 * f2) from by obtain ⟨m, p, e, hm⟩ := h2F; exact ⟨m, p + 1, by rw [e, Int.pow_succ, ← Int.mul_assoc m, Int.mul_comm 2 (m * 2 ^ p)], hm⟩)
        obtain ⟨L, q, l1, l2, l3, l4, l5, l6, _⟩ := RN_facts (u + f2)
        rw [hn] at l3 l6
        rcases l5 with l5 | l5
        · subst l5
          simp at l6
          omega
        · have : 2 ^ 52 * 2 ^ L ≤ u.natAbs := by
            rw [l3, Int.natAbs_mul, Int.natAbs_pow]; exact Nat.mul_le_mul_right _ l5
          generalize 2 ^ L = A at *
          omega
      rw [RN_id hd]
      have hne : RN (u + 2 * f2) - u ≠ 2 * f2 := fun h => hF (by have := RN_F (u + 2 * f2); rw [show RN (u + 2 * f2) = u + 2 * f2 by omega] at this; exact this)
      rw [if_neg hne]
      have g := fun h => gap hu (RN_F (u + f2 + f1)) hn h2 hk hF h
      have hvne : RN (u + f2 + f1) ≠ u + 2 * f2 := fun h => hF (h ▸ RN_F _)
      rw [← eJ] at g
      generalize RN (u + f2 + f1) = v at *
      generalize 2 ^ j = J at *
      omega
  · generalize RN (u + f2 + f1) = v at *
    omega

theorem fin_tie {u f1 f2 k : Int} {j : Nat} (hu : F u) (h2F : F f2) (hn : RN (u + f2) = u) (hk : f2 = k * 2 ^ j) (h1 : f1.natAbs < 2 ^ j) (h10 : f1 ≠ 0) (h2 : f2 ≠ 0) :
    RN (u + f2 + f1) = if (f2 < 0 ∧ f1 < 0) ∨ (0 < f2 ∧ 0 < f1) then (if RN (RN (u + 2 * f2) - u) = 2 * f2 then RN (u + 2 * f2) else u) else u := by
  rcases Int.lt_or_gt_of_ne h2 with h | h
  · have := fin_tie_pos (u := -u) (f1 := -f1) (f2 := -f2) (k := -k) (j := j) hu.neg h2F.neg (by rw [show -u + -f2 = -(u + f2) by omega, RN_neg, hn]) (by rw [hk, Int.neg_mul]) (by omega) (by omega) (by omega)
    rw [show -u + -f2 + -f1 = -(u + f2 + f1) by omega, RN_neg, show -u + 2 * -f2 = -(u + 2 * f2) by omega, RN_neg, show -RN (u + 2 * f2) - -u = -(RN (u + 2 * f2) - u) by omega, RN_neg] at this
    by_cases hs : f1 < 0
    · rw [if_pos (by omega)] at this
      rw [if_pos (by omega)]
      by_cases ht : RN (RN (u + 2 * f2) - u) = 2 * f2
      · rw [if_pos (by omega)] at this; rw [if_pos ht]; omega
      · rw [if_neg (by omega)] at this; rw [if_neg ht]; omega
    · rw [if_neg (by omega)] at this
      rw [if_neg (by omega)]
      omega
  · rw [fin_tie_pos hu h2F hn hk h1 h10 h]
    by_cases hs : 0 < f1
    · have hc : (f2 < 0 ∧ f1 < 0) ∨ (0 < f2 ∧ 0 < f1) := .inr ⟨h, hs⟩
      rw [if_pos hs, if_pos hc]
    · rw [if_neg hs, if_neg (by omega)]

/-- Three terms. -/
theorem grow3 (s e c : Int) (hs : F s) (he : F e) (hc : F c) :
    growV (if e = 0 then (if s = 0 then [] else [s]) else e :: (if s = 0 then [] else [s])) c =
      (if c + e - RN (c + e) = 0 then [] else [c + e - RN (c + e)]) ++ (if RN (c + e) + s - RN (RN (c + e) + s) = 0 then [] else [RN (c + e) + s - RN (RN (c + e) + s)]) ++ (if RN (RN (c + e) + s) = 0 then [] else [RN (RN (c + e) + s)]) := by
  by_cases h1 : e = 0
  · subst h1
    rw [Int.add_zero, RN_id hc, Int.sub_self]
    by_cases h2 : s = 0
    · subst h2
      rw [Int.add_zero, RN_id hc]
      simp [growV]
    · simp only [h2, if_true, if_false, growV]
      by_cases h3 : c + s - RN (c + s) = 0 <;> simp [h3, growV]
  · by_cases h2 : s = 0
    · subst h2
      rw [Int.add_zero, RN_id (RN_F (c + e)), Int.sub_self]
      simp only [h1, if_true, if_false, growV]
      by_cases h3 : c + e - RN (c + e) = 0 <;> simp [h3, growV]
    · simp only [h1, h2, if_true, if_false, growV]
      by_cases h3 : c + e - RN (c + e) = 0 <;> by_cases h4 : RN (c + e) + s - RN (RN (c + e) + s) = 0 <;> simp [h3, h4, growV]

theorem fsum3 (a b c : Int) (ha : F a) (hb : F b) (hc : F c) : finV (growV (growV (growV [] a) b) c).reverse = RN (c + b + a) ∧ (c + b + a = 0 → growV (growV (growV [] a) b) c = []) ∧ (growV (growV (growV [] a) b) c = [] → c + b + a = 0) := by
  rw [grow2 a b ha hb, grow3 _ _ _ (RN_F _) (err_F hb ha) hc]
  obtain ⟨s1, hs⟩ : ∃ x, x = RN (b + a) := ⟨_, rfl⟩
  obtain ⟨e1, he⟩ : ∃ x, x = b + a - s1 := ⟨_, rfl⟩
  obtain ⟨t, ht⟩ : ∃ x, x = RN (c + e1) := ⟨_, rfl⟩
  obtain ⟨f1, hf1⟩ : ∃ x, x = c + e1 - t := ⟨_, rfl⟩
  obtain ⟨u, hu⟩ : ∃ x, x = RN (t + s1) := ⟨_, rfl⟩
  obtain ⟨f2, hf2⟩ : ∃ x, x = t + s1 - u := ⟨_, rfl⟩
  have sF : F s1 := hs ▸ RN_F _
  have eF : F e1 := by rw [he, hs]; exact err_F hb ha
  have tF : F t := ht ▸ RN_F _
  have f1F : F f1 := by rw [hf1, ht]; exact err_F hc eF
  have uF : F u := hu ▸ RN_F _
  have f2F : F f2 := by rw [hf2, hu]; exact err_F tF sF
  obtain ⟨j, k, l, hk, hl, hj⟩ := apart3 ha hb hc hs he ht hf1 hu hf2
  rw [← hs, ← he, ← ht, ← hf1, ← hu, ← hf2]
  have hS : c + b + a = u + f2 + f1 := by omega
  have hnear : RN (u + f2) = u := by rw [show u + f2 = t + s1 by omega, ← hu]
  rw [hS]
  have zero : u + f2 + f1 = 0 → u = 0 ∧ f2 = 0 ∧ f1 = 0 := by
    intro h
    have h0 : t + s1 = 0 := by
      have : l = 0 := by
        apply same_mul (L := j) (b := 0)
        rw [← hl, Int.zero_mul]
        omega
      rw [hl, this, Int.zero_mul]
    have hu0 : u = 0 := by rw [hu, h0, RN_zero]
    omega
  refine ⟨?_, ?_, ?_⟩
  · by_cases g1 : f1 = 0
    · subst g1
      by_cases g2 : f2 = 0
      · subst g2
        by_cases g3 : u = 0
        · subst g3; simp [finV, RN_zero]
        · simp [g3, finV, finGo, finEnd, RN_id uF]
      · by_cases g3 : u = 0
        · subst g3; simp [g2, finV, finGo, finEnd, RN_id f2F]
        · simp [g2, g3, finV, finGo, finEnd]
    · by_cases g2 : f2 = 0
      · subst g2
        by_cases g3 : u = 0
        · subst g3; simp [g1, finV, finGo, finEnd, RN_id f1F]
        · simp [g1, g3, finV, finGo, finEnd]
      · by_cases g3 : u = 0
        · exfalso
          have : t + s1 = 0 := RN_eq_zero (hu ▸ g3)
          omega
        · rw [if_neg g1, if_neg g2, if_neg g3, fin_tie uF f2F hnear hk hj g1 g2]
          simp [finV, finGo, hnear, RN_zero, RN_id f2F, g2, finEnd]
  · intro h
    obtain ⟨z1, z2, z3⟩ := zero h
    simp [z1, z2, z3]
  · intro h
    have z1 : f1 = 0 := by
      rcases Decidable.em (f1 = 0) with h1 | h1
      · exact h1
      · simp [h1] at h
    have z2 : f2 = 0 := by
      rcases Decidable.em (f2 = 0) with h1 | h1
      · exact h1
      · simp [h1] at h
    have z3 : u = 0 := by
      rcases Decidable.em (u = 0) with h1 | h1
      · exact h1
      · simp [h1] at h
    omega

end Go.Proofs.YgctakDoor.Rn
