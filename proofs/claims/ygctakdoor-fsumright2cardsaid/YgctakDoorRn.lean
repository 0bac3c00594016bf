/-
  Rounding to 53 bits, ties to even, on integers (units of 2^-1074), and what comes of it: the error-free sums. No Go in sight.
-/
set_option linter.unusedVariables false
set_option linter.unusedSimpArgs false
namespace Go.Proofs.YgctakDoor.Rn

/-- n rounded to 53 bits. -/
def rnN (n : Nat) : Nat :=
  (n / 2 ^ (n.log2 - 52) + if 2 ^ (n.log2 - 52) < 2 * (n % 2 ^ (n.log2 - 52)) ∨ (2 ^ (n.log2 - 52) = 2 * (n % 2 ^ (n.log2 - 52)) ∧ n / 2 ^ (n.log2 - 52) % 2 = 1) then 1 else 0) * 2 ^ (n.log2 - 52)
def RN (z : Int) : Int := if z < 0 then -(rnN z.natAbs : Int) else (rnN z.natAbs : Int)

theorem p2 (n : Nat) : 0 < 2 ^ n := Nat.two_pow_pos n
theorem ip2 (n : Nat) : (0 : Int) < 2 ^ n := Int.pow_pos (by decide)
theorem ipow (n : Nat) : ((2 ^ n : Nat) : Int) = 2 ^ n := by rw [Int.natCast_pow]; rfl

theorem rnN_facts (n : Nat) : ∃ L q : Nat, n < 2 ^ 53 * 2 ^ L ∧ (L = 0 ∨ 2 ^ 52 * 2 ^ L ≤ n) ∧ rnN n = q * 2 ^ L ∧ q ≤ 2 ^ 53 ∧ (L = 0 ∨ 2 ^ 52 ≤ q) ∧ 2 * n ≤ 2 * (q * 2 ^ L) + 2 ^ L ∧ 2 * (q * 2 ^ L) ≤ 2 * n + 2 ^ L ∧
    ((2 * n = 2 * (q * 2 ^ L) + 2 ^ L ∨ 2 * (q * 2 ^ L) = 2 * n + 2 ^ L) → q % 2 = 0) := by
  have hlt : n < 2 ^ 53 * 2 ^ (n.log2 - 52) := by
    rw [← Nat.pow_add]
    exact Nat.lt_of_lt_of_le Nat.lt_log2_self (Nat.pow_le_pow_right (by omega) (by omega))
  have hge : n.log2 - 52 = 0 ∨ 2 ^ 52 * 2 ^ (n.log2 - 52) ≤ n := by
    by_cases h0 : n = 0
    · left; subst h0; simp
    by_cases h : n.log2 - 52 = 0
    · exact .inl h
    · right
      rw [← Nat.pow_add]
      exact Nat.le_trans (Nat.pow_le_pow_right (by omega) (by omega)) (Nat.log2_self_le h0)
  unfold rnN
  generalize n.log2 - 52 = L at *
  have hG := p2 L
  have h1 : ∀ t : Nat, 2 ^ 52 * 2 ^ L ≤ t → 2 ^ 52 ≤ t / 2 ^ L := fun t ht => (Nat.le_div_iff_mul_le hG).2 ht
  have h2 : n / 2 ^ L < 2 ^ 53 := (Nat.div_lt_iff_lt_mul hG).2 hlt
  refine ⟨L, _, hlt, hge, rfl, ?_, ?_, ?_⟩
  · split <;> omega
  · rcases hge with h | h
    · exact .inl h
    · have := h1 n h; right; omega
  · have hd := Nat.div_add_mod n (2 ^ L)
    have hm := Nat.mod_lt n hG
    generalize 2 ^ L = G at *
    generalize n / G = q at *
    generalize n % G = m at *
    have e1 : q * G = G * q := Nat.mul_comm _ _
    split
    · rw [Nat.add_mul, Nat.one_mul, e1]; generalize G * q = z at *; omega
    · rw [Nat.add_zero, e1]; generalize G * q = z at *; omega

/-- Representable in 53 bits (of whatever exponent from 0 up). -/
def F (z : Int) : Prop := ∃ (m : Int) (p : Nat), z = m * 2 ^ p ∧ m.natAbs ≤ 2 ^ 53

theorem F.neg {z : Int} (h : F z) : F (-z) := by
  obtain ⟨m, p, rfl, hm⟩ := h
  exact ⟨-m, p, by rw [Int.neg_mul], by omega⟩
theorem F.zero : F 0 := ⟨0, 0, by simp, by omega⟩
theorem F_neg_iff {z : Int} : F (-z) ↔ F z := ⟨fun h => by have := h.neg; rwa [Int.neg_neg] at this, F.neg⟩

theorem RN_neg (z : Int) : RN (-z) = -RN z := by
  unfold RN
  rw [Int.natAbs_neg]
  rcases Int.lt_trichotomy z 0 with h | h | h
  · rw [if_neg (by omega), if_pos h, Int.neg_neg]
  · subst h; rfl
  · rw [if_pos (by omega), if_neg (by omega)]

/-- What RN gives. -/
theorem RN_facts (z : Int) : ∃ (L : Nat) (q : Int), z.natAbs < 2 ^ 53 * 2 ^ L ∧ (L = 0 ∨ 2 ^ 52 * 2 ^ L ≤ z.natAbs) ∧ RN z = q * 2 ^ L ∧ q.natAbs ≤ 2 ^ 53 ∧ (L = 0 ∨ 2 ^ 52 ≤ q.natAbs) ∧ 2 * (RN z - z).natAbs ≤ 2 ^ L ∧ (0 ≤ z → 0 ≤ RN z) ∧ (z ≤ 0 → RN z ≤ 0) ∧ (2 * (RN z - z).natAbs = 2 ^ L → q % 2 = 0) := by
  have key : ∀ z : Int, 0 ≤ z → ∃ (L : Nat) (q : Int), z.natAbs < 2 ^ 53 * 2 ^ L ∧ (L = 0 ∨ 2 ^ 52 * 2 ^ L ≤ z.natAbs) ∧ RN z = q * 2 ^ L ∧ q.natAbs ≤ 2 ^ 53 ∧ (L = 0 ∨ 2 ^ 52 ≤ q.natAbs) ∧ 2 * (RN z - z).natAbs ≤ 2 ^ L ∧ (0 ≤ z → 0 ≤ RN z) ∧ (z ≤ 0 → RN z ≤ 0) ∧ (2 * (RN z - z).natAbs = 2 ^ L → q % 2 = 0) := by
    intro z hz
    obtain ⟨n, rfl⟩ : ∃ n : Nat, z = n := ⟨z.toNat, by omega⟩
    obtain ⟨L, q, h1, h2, h3, h4, h5, h6, h7, h8⟩ := rnN_facts n
    have e : RN (n : Int) = (q * 2 ^ L : Nat) := by unfold RN; rw [if_neg (by omega), Int.natAbs_natCast, h3]
    refine ⟨L, q, by simpa using h1, by simpa using h2, by rw [e, Int.natCast_mul, ipow], by simpa using h4, by simpa using h5, ?_⟩
    rw [e]
    generalize q * 2 ^ L = r at *
    have hG := p2 L
    generalize 2 ^ L = G at *
    refine ⟨by omega, by omega, ?_, by omega⟩
    intro hn
    have : n = 0 := by omega
    subst this
    unfold RN at e; simp at e
    have : rnN 0 = 0 := by decide
    omega
  by_cases h : 0 ≤ z
  · exact key z h
  · obtain ⟨L, q, h1, h2, h3, h4, h5, h6, h7, h8, h9⟩ := key (-z) (by omega)
    have e := RN_neg z
    rw [Int.natAbs_neg] at h1 h2
    refine ⟨L, -q, h1, h2, by rw [Int.neg_mul, ← h3, e, Int.neg_neg], by omega, by omega, by omega, by omega, by omega, by omega⟩

theorem RN_F (z : Int) : F (RN z) := by
  obtain ⟨L, q, _, _, h3, h4, _⟩ := RN_facts z
  exact ⟨q, L, h3, h4⟩

theorem mul_le_pow {m : Int} {p k : Nat} (h : m.natAbs ≤ k) : (m * 2 ^ p).natAbs ≤ k * 2 ^ p := by
  rw [Int.natAbs_mul, Int.natAbs_pow]; exact Nat.mul_le_mul_right _ h

/-- Two multiples of 2^L that are less than 2^L apart are one. -/
theorem same_mul {a b : Int} {L : Nat} (h : (a * 2 ^ L - b * 2 ^ L).natAbs < 2 ^ L) : a = b := by
  rw [← Int.sub_mul, Int.natAbs_mul, Int.natAbs_pow] at h
  have : (a - b).natAbs * 2 ^ L < 1 * 2 ^ L := by rw [Nat.one_mul]; exact h
  have := Nat.lt_of_mul_lt_mul_right this
  omega

theorem pow_up {p L : Nat} (m : Int) (h : L ≤ p) : ∃ m' : Int, m * 2 ^ p = m' * 2 ^ L :=
  ⟨m * 2 ^ (p - L), by rw [Int.mul_assoc, ← Int.pow_add, show p - L + L = p by omega]⟩

/-- Nothing representable lies nearer. -/
theorem RN_near (z f : Int) (hf : F f) : (RN z - z).natAbs ≤ (f - z).natAbs := by
  obtain ⟨L, q, h1, h2, h3, h4, h5, h6, h7, h8, _⟩ := RN_facts z
  have hmul : ∀ g : Int, (g * 2 ^ L - z).natAbs < (RN z - z).natAbs → False := by
    intro g hg
    have : (g * 2 ^ L - q * 2 ^ L).natAbs < 2 ^ L := by
      rw [← h3]
      generalize g * 2 ^ L = u at *
      generalize 2 ^ L = G at *
      omega
    have := same_mul this
    subst this
    rw [← h3] at hg; omega
  obtain ⟨m, p, rfl, hm⟩ := hf
  by_cases hp : L ≤ p
  · obtain ⟨m', e⟩ := pow_up m hp
    rw [e]
    rcases Nat.lt_or_ge (m' * 2 ^ L - z).natAbs (RN z - z).natAbs with h | h
    · exact (hmul _ h).elim
    · exact h
  · have hb : (m * 2 ^ p).natAbs ≤ 2 ^ 52 * 2 ^ L := by
      refine Nat.le_trans (mul_le_pow hm) ?_
      have : 2 ^ p * 2 ≤ 2 ^ L := by rw [← Nat.pow_succ]; exact Nat.pow_le_pow_right (by omega) (by omega)
      omega
    have hz : 2 ^ 52 * 2 ^ L ≤ z.natAbs := by omega
    generalize m * 2 ^ p = f at *
    rcases Nat.lt_or_ge (f - z).natAbs (RN z - z).natAbs with h | h
    · exfalso
      by_cases hs : 0 ≤ z
      · apply hmul (2 ^ 52)
        have e : ((2 : Int) ^ 52 * 2 ^ L) = ((2 ^ 52 * 2 ^ L : Nat) : Int) := by rw [Int.natCast_mul, ipow, ipow]
        rw [e]
        generalize 2 ^ 52 * 2 ^ L = B at *
        omega
      · apply hmul (-2 ^ 52)
        have e : (-(2 : Int) ^ 52 * 2 ^ L) = -((2 ^ 52 * 2 ^ L : Nat) : Int) := by rw [Int.natCast_mul, ipow, ipow, Int.neg_mul]
        rw [e]
        generalize 2 ^ 52 * 2 ^ L = B at *
        omega
    · exact h

theorem RN_id {z : Int} (h : F z) : RN z = z := by
  have := RN_near z z h
  omega

theorem RN_zero : RN 0 = 0 := RN_id F.zero

theorem F_small {z : Int} (h : z.natAbs ≤ 2 ^ 53) : F z := ⟨z, 0, by simp, h⟩

theorem RN_eq_zero {z : Int} (h : RN z = 0) : z = 0 := by
  have := RN_near z 0 F.zero
  by_cases hz : z.natAbs ≤ 2 ^ 53
  · rw [RN_id (F_small hz)] at h; exact h
  · have h1 := RN_near z (2 ^ 53) (F_small (by decide))
    have h2 := RN_near z (-2 ^ 53) (F_small (by decide))
    rw [h] at h1 h2
    simp at h1 h2
    omega

/-- The error is not above either operand. -/
theorem err_le {a b : Int} (ha : F a) (hb : F b) : (a + b - RN (a + b)).natAbs ≤ a.natAbs ∧ (a + b - RN (a + b)).natAbs ≤ b.natAbs := by
  have h1 := RN_near (a + b) a ha
  have h2 := RN_near (a + b) b hb
  omega

theorem pow_le {p q : Nat} (h : p ≤ q) : 2 ^ p ≤ 2 ^ q := Nat.pow_le_pow_right (by omega) h

/-- Both of a sum's operands as multiples of one power, one of them below 2^53 of it. -/
theorem common {a b : Int} (ha : F a) (hb : F b) : ∃ (e : Nat) (m n : Int), a = m * 2 ^ e ∧ b = n * 2 ^ e ∧ (m.natAbs ≤ 2 ^ 53 ∨ n.natAbs ≤ 2 ^ 53) := by
  obtain ⟨m, p, rfl, hm⟩ := ha
  obtain ⟨n, q, rfl, hn⟩ := hb
  rcases Nat.le_total p q with h | h
  · obtain ⟨n', e⟩ := pow_up n h
    exact ⟨p, m, n', rfl, e, .inl hm⟩
  · obtain ⟨m', e⟩ := pow_up m h
    exact ⟨q, m', n, e, rfl, .inr hn⟩

theorem F_small_sum {a b : Int} (ha : F a) (hb : F b) (h1 : (a + b).natAbs ≤ a.natAbs) (h2 : (a + b).natAbs ≤ b.natAbs) : F (a + b) := by
  obtain ⟨e, m, n, rfl, rfl, h⟩ := common ha hb
  rw [← Int.add_mul] at *
  rw [Int.natAbs_mul, Int.natAbs_mul] at h1 h2
  have hp : 0 < ((2 : Int) ^ e).natAbs := by rw [Int.natAbs_pow]; exact p2 e
  have h1 := Nat.le_of_mul_le_mul_right h1 hp
  have h2 := Nat.le_of_mul_le_mul_right h2 hp
  exact ⟨m + n, e, rfl, by omega⟩

/-- The error of a sum is representable. -/
theorem err_F {a b : Int} (ha : F a) (hb : F b) : F (a + b - RN (a + b)) := by
  obtain ⟨hx, hy⟩ := err_le ha hb
  obtain ⟨e, m, n, rfl, rfl, h⟩ := common ha hb
  obtain ⟨L, q, h1, h2, h3, h4, h5, h6, _⟩ := RN_facts (m * 2 ^ e + n * 2 ^ e)
  by_cases hL : L ≤ e
  · obtain ⟨k, hk⟩ := pow_up (m + n) hL
    have hF : F (m * 2 ^ e + n * 2 ^ e) := by
      rw [← Int.add_mul] at h1 ⊢
      rw [hk] at h1 ⊢
      refine ⟨k, L, rfl, ?_⟩
      rw [Int.natAbs_mul, Int.natAbs_pow] at h1
      have := Nat.lt_of_mul_lt_mul_right (show k.natAbs * 2 ^ L < 2 ^ 53 * 2 ^ L from h1)
      omega
    rw [RN_id hF, Int.sub_self]
    exact F.zero
  · obtain ⟨k, hk⟩ := pow_up q (show e ≤ L by omega)
    have e1 : m * 2 ^ e + n * 2 ^ e - RN (m * 2 ^ e + n * 2 ^ e) = (m + n - k) * 2 ^ e := by rw [h3, hk, ← Int.add_mul, ← Int.sub_mul]
    rw [e1] at hx hy ⊢
    refine ⟨_, e, rfl, ?_⟩
    rw [Int.natAbs_mul, Int.natAbs_mul] at hx hy
    have hp : 0 < ((2 : Int) ^ e).natAbs := by rw [Int.natAbs_pow]; exact p2 e
    have h1 := Nat.le_of_mul_le_mul_right hx hp
    have h2 := Nat.le_of_mul_le_mul_right hy hp
    omega

/-- In its own form: below 2^53, and from 2^52 on unless the exponent is the least. -/
theorem F.canon {z : Int} (h : F z) : ∃ (m : Int) (p : Nat), z = m * 2 ^ p ∧ m.natAbs < 2 ^ 53 ∧ (p = 0 ∨ 2 ^ 52 ≤ m.natAbs) := by
  obtain ⟨L, q, h1, h2, h3, h4, h5, _⟩ := RN_facts z
  rw [RN_id h] at h3
  refine ⟨q, L, h3, ?_, h5⟩
  rw [h3, Int.natAbs_mul, Int.natAbs_pow] at h1
  exact Nat.lt_of_mul_lt_mul_right (show q.natAbs * 2 ^ L < 2 ^ 53 * 2 ^ L from h1)

theorem dek1 {x a b : Int} {G Q : Nat} (h6 : 2 * (x - (a + b)).natAbs ≤ G) (bb : b.natAbs + Q ≤ 2 ^ 53 * Q) (hq : Q * 2 ≤ G) : (x - a).natAbs ≤ 2 ^ 53 * G := by omega
theorem dek2 {x a b : Int} {P : Nat} (h6 : 2 * (x - (a + b)).natAbs ≤ P * 2) (ba : a.natAbs + P ≤ 2 ^ 53 * P) (hle : b.natAbs ≤ a.natAbs) : (x - a).natAbs ≤ 2 ^ 53 * P := by omega
theorem dek3 {a b : Int} {P Q : Nat} (ba : a.natAbs + P ≤ 2 ^ 53 * P) (hle : b.natAbs ≤ a.natAbs) (h52 : 2 ^ 52 * Q ≤ b.natAbs) (h : P * 2 ≤ Q) (hP : 0 < P) : False := by omega
theorem dek4 {a b : Int} {P Q : Nat} (ba : a.natAbs + P ≤ 2 ^ 53 * P) (hle : b.natAbs ≤ a.natAbs) (h8 : 2 ^ 52 * Q ≤ (a + b).natAbs) (h : P * 4 ≤ Q) (hP : 0 < P) : False := by omega

/-- Dekker: what the greater operand lacks to the rounded sum is representable. -/
theorem dekker {a b : Int} (ha : F a) (hb : F b) (hle : b.natAbs ≤ a.natAbs) : F (RN (a + b) - a) := by
  obtain ⟨m, p, hea, hm, hmp⟩ := ha.canon
  obtain ⟨n, q, heb, hn, hnq⟩ := hb.canon
  have ea : a.natAbs = m.natAbs * 2 ^ p := by rw [hea, Int.natAbs_mul, Int.natAbs_pow]; rfl
  have eb : b.natAbs = n.natAbs * 2 ^ q := by rw [heb, Int.natAbs_mul, Int.natAbs_pow]; rfl
  have ba : a.natAbs + 2 ^ p ≤ 2 ^ 53 * 2 ^ p := by
    rw [ea]
    have := Nat.mul_le_mul_right (2 ^ p) (show m.natAbs + 1 ≤ 2 ^ 53 by omega)
    rw [Nat.add_mul, Nat.one_mul] at this; exact this
  have bb : b.natAbs + 2 ^ q ≤ 2 ^ 53 * 2 ^ q := by
    rw [eb]
    have := Nat.mul_le_mul_right (2 ^ q) (show n.natAbs + 1 ≤ 2 ^ 53 by omega)
    rw [Nat.add_mul, Nat.one_mul] at this; exact this
  have hqp : q ≤ p := by
    rcases Nat.lt_or_ge p q with h | h
    · have h52 : 2 ^ 52 * 2 ^ q ≤ b.natAbs := by rw [eb]; exact Nat.mul_le_mul_right _ (by omega)
      have h9 : 2 ^ p * 2 ≤ 2 ^ q := by rw [← Nat.pow_succ]; exact pow_le h
      exact (dek3 ba hle h52 h9 (p2 p)).elim
    · exact h
  obtain ⟨m', hm'⟩ := pow_up m hqp
  obtain ⟨L, r, h1, h2, h3, h4, h5, h6, _⟩ := RN_facts (a + b)
  by_cases hL : L ≤ q
  · have hF : F (a + b) := by
      have e : a + b = (m' + n) * 2 ^ q := by rw [hea, heb, hm', ← Int.add_mul]
      obtain ⟨k, hk⟩ := pow_up (m' + n) hL
      rw [hk] at e
      refine ⟨k, L, e, ?_⟩
      rw [e, Int.natAbs_mul, Int.natAbs_pow] at h1
      have := Nat.lt_of_mul_lt_mul_right (show k.natAbs * 2 ^ L < 2 ^ 53 * 2 ^ L from h1)
      omega
    rw [RN_id hF, show a + b - a = b by omega]
    exact hb
  · have hqL : 2 ^ q * 2 ≤ 2 ^ L := by rw [← Nat.pow_succ]; exact pow_le (by omega)
    by_cases hp : L ≤ p
    · obtain ⟨k, hk⟩ := pow_up m hp
      have e : RN (a + b) - a = (r - k) * 2 ^ L := by rw [h3, hea, hk, ← Int.sub_mul]
      refine ⟨_, L, e, ?_⟩
      have h7 : (RN (a + b) - a).natAbs ≤ 2 ^ 53 * 2 ^ L := by
        exact dek1 h6 bb hqL
      rw [e, Int.natAbs_mul, Int.natAbs_pow] at h7
      exact Nat.le_of_mul_le_mul_right h7 (p2 L)
    · have hpL : 2 ^ p * 2 ≤ 2 ^ L := by rw [← Nat.pow_succ]; exact pow_le (by omega)
      have hL1 : L ≤ p + 1 := by
        rcases Nat.lt_or_ge (p + 1) L with h | h
        · have h9 : 2 ^ p * 4 ≤ 2 ^ L := by
            rw [show (4 : Nat) = 2 ^ 2 from rfl, ← Nat.pow_add]; exact pow_le (by omega)
          have h8 : 2 ^ 52 * 2 ^ L ≤ (a + b).natAbs := by
            rcases h2 with h2 | h2
            · omega
            · exact h2
          exact (dek4 ba hle h8 h9 (p2 p)).elim
        · exact h
      have hLp : L = p + 1 := by omega
      subst hLp
      obtain ⟨k, hk⟩ := pow_up r (show p ≤ p + 1 by omega)
      have e : RN (a + b) - a = (k - m) * 2 ^ p := by rw [h3, hea, hk, ← Int.sub_mul]
      refine ⟨_, p, e, ?_⟩
      have hpp : 2 ^ (p + 1) = 2 ^ p * 2 := Nat.pow_succ 2 p
      have h7 : (RN (a + b) - a).natAbs ≤ 2 ^ 53 * 2 ^ p := by
        rw [hpp] at h6
        exact dek2 h6 ba hle
      rw [e, Int.natAbs_mul, Int.natAbs_pow] at h7
      exact Nat.le_of_mul_le_mul_right h7 (p2 p)

theorem RN_far {z f : Int} (hf : F f) (h : f.natAbs < z.natAbs) : f.natAbs ≤ (RN z).natAbs := by
  obtain ⟨L, q, h1, h2, h3, h4, h5, h6, h7, h8, _⟩ := RN_facts z
  have n1 := RN_near z f hf
  have n2 := RN_near z (-f) hf.neg
  omega

/-- RN does not pass what is representable. -/
theorem RN_le {z f : Int} (hf : F f) (h : z.natAbs ≤ f.natAbs) : (RN z).natAbs ≤ f.natAbs := by
  obtain ⟨L, q, h1, h2, h3, h4, h5, h6, h7, h8, _⟩ := RN_facts z
  have n1 := RN_near z f hf
  have n2 := RN_near z (-f) hf.neg
  omega

/-- Knuth's TwoSum. -/
theorem two_sum {a b : Int} (ha : F a) (hb : F b) :
    RN (RN (a - RN (RN (a + b) - RN (RN (a + b) - a))) + RN (b - RN (RN (a + b) - a))) = a + b - RN (a + b) := by
  have hy := err_F ha hb
  obtain ⟨hya, hyb⟩ := err_le ha hb
  obtain ⟨x, hx⟩ : ∃ x, x = RN (a + b) := ⟨_, rfl⟩
  have hxF : F x := hx ▸ RN_F _
  obtain ⟨y, hyy⟩ : ∃ y, y = a + b - x := ⟨_, rfl⟩
  rw [← hx] at hy hya hyb ⊢
  rw [← hyy] at hy hya hyb ⊢
  rcases Nat.le_total b.natAbs a.natAbs with h | h
  · have d := dekker ha hb h
    rw [← hx] at d
    rw [RN_id d, show x - (x - a) = a by omega, RN_id ha, Int.sub_self, RN_zero, show b - (x - a) = y by omega, RN_id hy, Int.zero_add, RN_id hy]
  · have e1 : x - a = b + -y := by omega
    have d1 := dekker hb hy.neg (by omega)
    rw [← e1] at d1
    by_cases hax : a.natAbs ≤ x.natAbs
    · have d2 := dekker hxF ha.neg (by omega)
      have d3 := err_F hxF ha.neg
      rw [← Int.sub_eq_add_neg] at d2 d3
      generalize RN (x - a) = c at *
      rw [RN_id (show F (x - c) by rw [show x - c = -(c - x) by omega]; exact d2.neg), show a - (x - c) = -(x - a - c) by omega, RN_id d3.neg, RN_id (show F (b - c) by rw [show b - c = -(c - b) by omega]; exact d1.neg), show -(x - a - c) + (b - c) = y by omega, RN_id hy]
    · have hs : (a + b).natAbs ≤ a.natAbs := by
        rcases Nat.lt_or_ge a.natAbs (a + b).natAbs with h9 | h9
        · have := RN_far ha h9
          rw [← hx] at this; omega
        · exact h9
      have hF := F_small_sum ha hb hs (by omega)
      have hxe : x = a + b := by rw [hx, RN_id hF]
      have y0 : y = 0 := by omega
      rw [show x - a = b by omega, RN_id hb, show x - b = a by omega, RN_id ha, Int.sub_self, Int.sub_self, RN_zero, Int.zero_add, RN_zero, y0]

/-- Dekker's FastTwoSum. -/
theorem fast_two_sum {a b : Int} (ha : F a) (hb : F b) (h : b.natAbs ≤ a.natAbs) : RN (b - RN (RN (a + b) - a)) = a + b - RN (a + b) := by
  have hy := err_F ha hb
  rw [RN_id (dekker ha hb h), show b - (RN (a + b) - a) = a + b - RN (a + b) by omega, RN_id hy]

end Go.Proofs.YgctakDoor.Rn
