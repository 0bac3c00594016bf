/-
  The words of a two's-complement integer of 4352 bits: no Go in sight.
-/
set_option linter.unusedVariables false
set_option linter.unusedSimpArgs false
namespace Go.Proofs.Ygctak.Ac

/-- Word i of z. -/
def word (z : Int) (i : Nat) : Int := z / 2 ^ (64 * i) % 18446744073709551616

theorem word_bd (z : Int) (i : Nat) : 0 ≤ word z i ∧ word z i ≤ 18446744073709551615 := by unfold word; omega

theorem pow_pos (i : Nat) : (0 : Int) < 2 ^ i := Int.pow_pos (by decide)
theorem pow_next (i : Nat) : (2 : Int) ^ (64 * (i + 1)) = 2 ^ (64 * i) * 18446744073709551616 := by
  rw [Nat.mul_add, Int.pow_add]; rfl

/-- The carry into word i of x + y. -/
def carry (x y : Int) (i : Nat) : Int := (x % 2 ^ (64 * i) + y % 2 ^ (64 * i)) / 2 ^ (64 * i)

theorem carry_zero (x y : Int) : carry x y 0 = 0 := by simp [carry]

theorem ediv_two {a b c : Int} (hb : 0 < b) (hc : 0 < c) : a / (b * c) = a / b / c := by
  rw [Int.ediv_ediv_of_nonneg (Int.le_of_lt hb)]

theorem emod_two (x B : Int) (hB : 0 < B) : x % (B * 18446744073709551616) = x % B + B * (x / B % 18446744073709551616) := by
  have h1 := Int.emod_add_mul_ediv x (B * 18446744073709551616)
  have h2 := Int.emod_add_mul_ediv x B
  have h3 := Int.emod_add_mul_ediv (x / B) 18446744073709551616
  rw [ediv_two hB (by decide)] at h1
  have : B * (x / B) = B * (x / B % 18446744073709551616) + B * 18446744073709551616 * (x / B / 18446744073709551616) := by
    conv => lhs; rw [← h3]
    rw [Int.mul_add, Int.mul_assoc]
  omega

theorem carry_next (x y : Int) (i : Nat) : carry x y (i + 1) = (word x i + word y i + carry x y i) / 18446744073709551616 := by
  unfold carry word
  rw [pow_next]
  have hB := pow_pos (64 * i)
  generalize (2 : Int) ^ (64 * i) = B at *
  rw [emod_two x B hB, emod_two y B hB, ediv_two hB (by decide)]
  congr 1
  rw [show x % B + B * (x / B % 18446744073709551616) + (y % B + B * (y / B % 18446744073709551616)) = (x % B + y % B) + B * (x / B % 18446744073709551616 + y / B % 18446744073709551616) by rw [Int.mul_add]; omega]
  rw [Int.add_mul_ediv_left _ _ (by omega)]
  omega

theorem word_add (x y : Int) (i : Nat) : word (x + y) i = (word x i + word y i + carry x y i) % 18446744073709551616 := by
  unfold carry word
  have hB := pow_pos (64 * i)
  generalize (2 : Int) ^ (64 * i) = B at *
  have h2 := Int.emod_add_mul_ediv x B
  have h3 := Int.emod_add_mul_ediv y B
  have : (x + y) / B = (x % B + y % B) / B + (x / B + y / B) := by
    conv => lhs; rw [← h2, ← h3]
    rw [show x % B + B * (x / B) + (y % B + B * (y / B)) = (x % B + y % B) + B * (x / B + y / B) by rw [Int.mul_add]; omega]
    rw [Int.add_mul_ediv_left _ _ (by omega)]
  rw [this]
  omega

theorem carry_bd (x y : Int) (i : Nat) : 0 ≤ carry x y i ∧ carry x y i ≤ 1 := by
  unfold carry
  have hB := pow_pos (64 * i)
  generalize (2 : Int) ^ (64 * i) = B at *
  have h1 := Int.emod_nonneg x (show B ≠ 0 by omega)
  have h2 := Int.emod_lt_of_pos x hB
  have h3 := Int.emod_nonneg y (show B ≠ 0 by omega)
  have h4 := Int.emod_lt_of_pos y hB
  refine ⟨Int.ediv_nonneg (by omega) (by omega), ?_⟩
  have : (x % B + y % B) / B < 2 := Int.ediv_lt_of_lt_mul hB (by omega)
  omega

/-- The carry into word i of x * m. -/
def over (x m : Int) (i : Nat) : Int := x % 2 ^ (64 * i) * m / 2 ^ (64 * i)
theorem over_zero (x m : Int) : over x m 0 = 0 := by simp [over]
theorem over_next (x m : Int) (i : Nat) : over x m (i + 1) = (word x i * m + over x m i) / 18446744073709551616 := by
  unfold over word
  rw [pow_next]
  have hB := pow_pos (64 * i)
  generalize (2 : Int) ^ (64 * i) = B at *
  rw [emod_two x B hB, ediv_two hB (by decide)]
  congr 1
  rw [Int.add_mul, Int.mul_assoc, Int.add_mul_ediv_left _ _ (by omega)]
  omega
theorem word_mul (x m : Int) (i : Nat) : word (x * m) i = (word x i * m + over x m i) % 18446744073709551616 := by
  unfold over word
  have hB := pow_pos (64 * i)
  generalize (2 : Int) ^ (64 * i) = B at *
  have h2 := Int.emod_add_mul_ediv x B
  have : x * m / B = x % B * m / B + x / B * m := by
    conv => lhs; rw [← h2]
    rw [Int.add_mul, Int.mul_assoc, Int.add_mul_ediv_left _ _ (by omega)]
  have h3 := Int.emod_add_mul_ediv (x / B) 18446744073709551616
  have e : x / B * m = x / B % 18446744073709551616 * m + 18446744073709551616 * (x / B / 18446744073709551616 * m) := by
    conv => lhs; rw [← h3]
    rw [Int.add_mul, Int.mul_assoc]
  rw [this, e]
  omega
theorem over_bd (x m : Int) (i : Nat) (h0 : 0 ≤ m) : 0 ≤ over x m i ∧ over x m i ≤ m := by
  unfold over
  have hB := pow_pos (64 * i)
  generalize (2 : Int) ^ (64 * i) = B at *
  have h1 := Int.emod_nonneg x (show B ≠ 0 by omega)
  have h2 := Int.emod_lt_of_pos x hB
  refine ⟨Int.ediv_nonneg (Int.mul_nonneg h1 h0) (by omega), ?_⟩
  refine Int.ediv_le_of_le_mul hB ?_
  rw [Int.mul_comm m B]
  exact Int.mul_le_mul_of_nonneg_right (by omega) h0

theorem word_low (x : Int) (l n : Nat) (hl : l < 64) : word (x * 2 ^ l) (n + 1) = word x (n + 1) * 2 ^ l % 18446744073709551616 + word x n / 2 ^ (64 - l) := by
  unfold word
  have e64 : (2 : Int) ^ (64 - l) * 2 ^ l = 18446744073709551616 := by rw [← Int.pow_add, show 64 - l + l = 64 by omega]; rfl
  have hB := pow_pos (64 * n)
  have hL := pow_pos l
  have hK := pow_pos (64 - l)
  rw [pow_next]
  generalize (2 : Int) ^ (64 * n) = B at *
  generalize (2 : Int) ^ l = L at *
  generalize (2 : Int) ^ (64 - l) = K at *
  rw [← e64]
  have hKL : 0 < K * L := Int.mul_pos hK hL
  have e1 : x * L / (B * (K * L)) = x / B / K := by
    rw [← Int.mul_assoc, Int.mul_ediv_mul_of_pos_left _ _ hL, ediv_two hB hK]
  rw [e1, ediv_two hB hKL]
  generalize x / B = y at *
  have h1 := Int.emod_add_mul_ediv y (K * L)
  have h2 : y / K = y % (K * L) / K + L * (y / (K * L)) := by
    conv => lhs; rw [← h1, Int.mul_assoc, Int.add_mul_ediv_left _ _ (by omega)]
  have r0 := Int.emod_nonneg y (show K * L ≠ 0 by omega)
  have r1 := Int.emod_lt_of_pos y hKL
  generalize y % (K * L) = r at *
  generalize hq : y / (K * L) = q at *
  rw [h2]
  have s0 : 0 ≤ r / K := Int.ediv_nonneg r0 (by omega)
  have s1 : r / K < L := Int.ediv_lt_of_lt_mul hK (by rw [Int.mul_comm]; exact r1)
  have h3 := Int.emod_add_mul_ediv q K
  have h4 := Int.emod_nonneg q (show K ≠ 0 by omega)
  have h5 := Int.emod_lt_of_pos q hK
  have e2 : L * q = L * (q % K) + K * L * (q / K) := by
    conv => lhs; rw [← h3, Int.mul_add, ← Int.mul_assoc, Int.mul_comm L K]
  have e3 : q % (K * L) * L % (K * L) = L * (q % K) := by
    have h6 := Int.emod_add_mul_ediv q (K * L)
    have : q % (K * L) * L = L * (q % K) + K * L * (q / K - L * (q / (K * L))) := by
      have h7 : q % (K * L) = q - K * L * (q / (K * L)) := by omega
      rw [h7, Int.sub_mul, Int.mul_comm q L, e2, Int.mul_sub]
      rw [show K * L * (q / (K * L)) * L = K * L * (L * (q / (K * L))) by rw [Int.mul_assoc, Int.mul_comm (q / (K * L)) L]]
      omega
    rw [this, Int.add_mul_emod_self_left, Int.emod_eq_of_lt (Int.mul_nonneg (by omega) h4) (by rw [Int.mul_comm K L]; exact Int.mul_lt_mul_of_pos_left h5 hL)]
  rw [e3, e2, show r / K + (L * (q % K) + K * L * (q / K)) = (L * (q % K) + r / K) + K * L * (q / K) by omega, Int.add_mul_emod_self_left]
  apply Int.emod_eq_of_lt
  · have := Int.mul_nonneg (show 0 ≤ L by omega) h4; omega
  · have : L * (q % K) ≤ L * (K - 1) := Int.mul_le_mul_of_nonneg_left (by omega) (by omega)
    rw [Int.mul_sub, Int.mul_one] at this
    rw [Int.mul_comm K L]; omega

theorem word_low0 (x : Int) (l : Nat) : word (x * 2 ^ l) 0 = word x 0 * 2 ^ l % 18446744073709551616 := by
  unfold word
  simp [Int.mul_emod]

theorem word_up (x : Int) (q i : Nat) (h : q ≤ i) : word (x * 2 ^ (64 * q)) i = word x (i - q) := by
  unfold word
  obtain ⟨d, rfl⟩ : ∃ d, i = q + d := ⟨i - q, by omega⟩
  rw [show q + d - q = d by omega, Nat.mul_add, Int.pow_add, Int.mul_comm (2 ^ (64 * q)) (2 ^ (64 * d)), Int.mul_ediv_mul_of_pos_left _ _ (pow_pos _)]

theorem word_below (x : Int) (q i : Nat) (h : i < q) : word (x * 2 ^ (64 * q)) i = 0 := by
  unfold word
  obtain ⟨d, rfl⟩ : ∃ d, q = i + 1 + d := ⟨q - i - 1, by omega⟩
  rw [Nat.mul_add, Nat.mul_add, Int.pow_add, Int.pow_add, Int.mul_comm (2 ^ (64 * i)) (2 ^ (64 * 1)), Int.mul_right_comm, ← Int.mul_assoc, Int.mul_ediv_cancel _ (by have := pow_pos (64 * i); omega)]
  rw [show (2 : Int) ^ (64 * 1) = 18446744073709551616 from rfl, Int.mul_left_comm, Int.mul_emod_right]

/-- The words of x * 2^(64 * q + l), of the words of x. -/
theorem word_shl (x : Int) (q l i : Nat) (hl : l < 64) : word (x * 2 ^ (64 * q + l)) i =
    if i < q then 0 else if i = q then word x 0 * 2 ^ l % 18446744073709551616 else word x (i - q) * 2 ^ l % 18446744073709551616 + word x (i - q - 1) / 2 ^ (64 - l) := by
  rw [Nat.add_comm, Int.pow_add, ← Int.mul_assoc]
  split
  · exact word_below _ _ _ (by assumption)
  · rw [word_up _ _ _ (by omega)]
    split
    · rename_i h; subst h; rw [Nat.sub_self, word_low0]
    · rw [show i - q = i - q - 1 + 1 by omega, word_low _ _ _ hl]; rfl

/-- x / 2^(64 k), by its next word. -/
theorem div_next (x : Int) (k : Nat) : x / 2 ^ (64 * k) = 18446744073709551616 * (x / 2 ^ (64 * (k + 1))) + word x k := by
  unfold word
  rw [pow_next, ediv_two (pow_pos _) (by decide)]
  omega

theorem lex_lt {x y : Int} {k : Nat} (h : x / 2 ^ (64 * (k + 1)) = y / 2 ^ (64 * (k + 1))) (hw : word x k < word y k) : x < y := by
  have h1 := div_next x k
  have h2 := div_next y k
  have h3 : x / 2 ^ (64 * k) < y / 2 ^ (64 * k) := by omega
  by_cases h4 : x < y
  · exact h4
  · have := Int.ediv_le_ediv (pow_pos (64 * k)) (show y ≤ x by omega)
    omega
theorem lex_eq {x y : Int} {k : Nat} (h : x / 2 ^ (64 * (k + 1)) = y / 2 ^ (64 * (k + 1))) (hw : word x k = word y k) : x / 2 ^ (64 * k) = y / 2 ^ (64 * k) := by
  rw [div_next x k, div_next y k, h, hw]

/-- The words below word k are those of x mod 2^(64 k). -/
theorem words_mod (x y : Int) : ∀ k, (∀ j, j < k → word x j = word y j) → x % 2 ^ (64 * k) = y % 2 ^ (64 * k) := by
  intro k
  induction k with
  | zero => intro _; simp
  | succ k ih =>
    intro h
    have h1 := ih fun j hj => h j (by omega)
    have h2 := h k (by omega)
    unfold word at h2
    rw [pow_next, emod_two x _ (pow_pos _), emod_two y _ (pow_pos _), h1, h2]

/-- The size of an accumulator, halved. -/
def half : Int := 2 ^ 4351
theorem half_pos : 0 < half := pow_pos _
theorem half_two : 2 * half = 2 ^ (64 * 68) := by
  unfold half
  rw [show 64 * 68 = 4351 + 1 from rfl, Int.pow_add (2 : Int) 4351 1, Int.mul_comm]
  rfl

theorem word_flip (x : Int) (k : Nat) (h : k < 67) : word (x + half) k = word x k := by
  unfold word half
  obtain ⟨d, hd⟩ : ∃ d, 4351 = 64 * k + (64 + d) := ⟨4351 - 64 * k - 64, by omega⟩
  rw [hd, Int.pow_add, Int.add_mul_ediv_left _ _ (by have := pow_pos (64 * k); omega), Int.pow_add, show (2 : Int) ^ 64 = 18446744073709551616 from rfl, Int.add_mul_emod_self_left]
theorem word_top (x : Int) : word (x + half) 67 = (word x 67 + 9223372036854775808) % 18446744073709551616 := by
  unfold word half
  rw [show 4351 = 64 * 67 + 63 from rfl, Int.pow_add, Int.add_mul_ediv_left _ _ (by have := pow_pos (64 * 67); omega), show (2 : Int) ^ 63 = 9223372036854775808 from rfl]
  generalize x / 2 ^ (64 * 67) = y
  omega

def sgn (x : Int) : Int := if x < 0 then -1 else if x = 0 then 0 else 1
def cmp (x y : Int) : Int := if x < y then -1 else if x = y then 0 else 1

/-- x fits into an accumulator. -/
def Fits (x : Int) : Prop := -half ≤ x ∧ x < half

theorem top_neg {x : Int} (h : Fits x) : word x 67 / 9223372036854775808 = if x < 0 then 1 else 0 := by
  obtain ⟨h1, h2⟩ := h
  have hB := pow_pos (64 * 67)
  have e : half = 2 ^ (64 * 67) * 9223372036854775808 := by unfold half; rw [show 4351 = 64 * 67 + 63 from rfl, Int.pow_add]; rfl
  have q1 : -9223372036854775808 ≤ x / 2 ^ (64 * 67) := by
    apply Int.le_ediv_of_mul_le hB
    rw [Int.mul_comm, Int.mul_neg, ← e]
    exact h1
  have q2 : x / 2 ^ (64 * 67) < 9223372036854775808 := Int.ediv_lt_of_lt_mul hB (by rw [Int.mul_comm, ← e]; exact h2)
  unfold word
  split
  · rename_i hn
    have q3 : x / 2 ^ (64 * 67) < 0 := Int.ediv_neg_of_neg_of_pos hn hB
    clear hB e h1 h2
    generalize x / 2 ^ (64 * 67) = y at *
    omega
  · rename_i hn
    have q3 : 0 ≤ x / 2 ^ (64 * 67) := Int.ediv_nonneg (by omega) (Int.le_of_lt hB)
    clear hB e h1 h2
    generalize x / 2 ^ (64 * 67) = y at *
    omega

theorem fits_zero {x : Int} (h : Fits x) (h0 : 0 ≤ x) (hw : ∀ j, j < 68 → word x j = 0) : x = 0 := by
  have := words_mod x 0 68 fun j hj => by rw [hw j hj]; simp [word]
  rw [← half_two, Int.zero_emod, Int.emod_eq_of_lt h0 (by have := h.2; have := half_pos; omega)] at this
  exact this

theorem fits_inj {x y : Int} (hx : Fits x) (hy : Fits y) (hw : ∀ j, j < 68 → word x j = word y j) : x = y := by
  have h1 := words_mod x y 68 hw
  rw [← half_two] at h1
  have h2 := half_pos
  obtain ⟨a1, a2⟩ := hx
  obtain ⟨b1, b2⟩ := hy
  have h3 : (x - y) % (2 * half) = 0 := Int.emod_eq_emod_iff_emod_sub_eq_zero.1 h1
  generalize half = H at *
  have h4 := Int.emod_add_mul_ediv (x - y) (2 * H)
  rw [h3] at h4
  have h5 : (x - y) / (2 * H) = 0 := by
    have u1 : (x - y) / (2 * H) < 1 := Int.ediv_lt_of_lt_mul (by omega) (by omega)
    have u2 : -1 < (x - y) / (2 * H) := by
      have : (-1 : Int) * (2 * H) < x - y := by omega
      by_cases h : -1 < (x - y) / (2 * H)
      · exact h
      · have h6 : 2 * H * ((x - y) / (2 * H)) ≤ 2 * H * (-1) := Int.mul_le_mul_of_nonneg_left (by omega) (by omega)
        omega
    omega
  rw [h5] at h4
  omega

theorem word_div (x : Int) (k i : Nat) (hk : 0 < k) (hk2 : k < 64) : word (x / 2 ^ k) i = word x (i + 1) * 2 ^ (64 - k) % 18446744073709551616 + word x i / 2 ^ k := by
  have h := word_low x (64 - k) i (by omega)
  rw [show 64 - (64 - k) = k by omega] at h
  rw [← h]
  unfold word
  congr 1
  have e1 : (2 : Int) ^ (64 * (i + 1)) = 2 ^ (64 * i + k) * 2 ^ (64 - k) := by rw [← Int.pow_add]; congr 1; omega
  rw [e1, Int.mul_ediv_mul_of_pos_left _ _ (pow_pos _), Nat.add_comm, Int.pow_add, ediv_two (pow_pos _) (pow_pos _)]
theorem word_last {x : Int} (h0 : 0 ≤ x) (h1 : x < half) : word x 68 = 0 := by
  unfold word
  rw [← half_two, Int.ediv_eq_zero_of_lt h0 (by have := half_pos; omega)]
  rfl

end Go.Proofs.Ygctak.Ac
