/-
  Walks: acc.sub, Neg, Abs (as in the seat gctakD).
-/
import Derived.Test.YgctakAcc8
set_option linter.unusedVariables false
set_option linter.unusedSimpArgs false
namespace Go.Proofs.Ygctak.Ac

/-- The borrow into word i of x - y. -/
def borrow (x y : Int) (i : Nat) : Int := -((x % 2 ^ (64 * i) - y % 2 ^ (64 * i)) / 2 ^ (64 * i))

theorem borrow_zero (x y : Int) : borrow x y 0 = 0 := by simp [borrow]

theorem borrow_next (x y : Int) (i : Nat) : borrow x y (i + 1) = -((word x i - word y i - borrow x y i) / 18446744073709551616) := by
  unfold borrow word
  rw [pow_next]
  have hB := pow_pos (64 * i)
  generalize (2 : Int) ^ (64 * i) = B at *
  rw [emod_two x B hB, emod_two y B hB, ediv_two hB (by decide)]
  congr 2
  rw [show x % B + B * (x / B % 18446744073709551616) - (y % B + B * (y / B % 18446744073709551616)) = (x % B - y % B) + B * (x / B % 18446744073709551616 - y / B % 18446744073709551616) by rw [Int.mul_sub]; omega]
  rw [Int.add_mul_ediv_left _ _ (by omega)]
  omega

theorem word_sub (x y : Int) (i : Nat) : word (x - y) i = (word x i - word y i - borrow x y i) % 18446744073709551616 := by
  unfold borrow word
  have hB := pow_pos (64 * i)
  generalize (2 : Int) ^ (64 * i) = B at *
  have h2 := Int.emod_add_mul_ediv x B
  have h3 := Int.emod_add_mul_ediv y B
  have : (x - y) / B = (x % B - y % B) / B + (x / B - y / B) := by
    conv => lhs; rw [← h2, ← h3]
    rw [show x % B + B * (x / B) - (y % B + B * (y / B)) = (x % B - y % B) + B * (x / B - y / B) by rw [Int.mul_sub]; omega]
    rw [Int.add_mul_ediv_left _ _ (by omega)]
  rw [this]
  omega

theorem borrow_bd (x y : Int) (i : Nat) : 0 ≤ borrow x y i ∧ borrow x y i ≤ 1 := by
  unfold borrow
  have hB := pow_pos (64 * i)
  generalize (2 : Int) ^ (64 * i) = B at *
  have h1 := Int.emod_nonneg x (show B ≠ 0 by omega)
  have h2 := Int.emod_lt_of_pos x hB
  have h3 := Int.emod_nonneg y (show B ≠ 0 by omega)
  have h4 := Int.emod_lt_of_pos y hB
  have h5 : (x % B - y % B) / B < 1 := Int.ediv_lt_of_lt_mul hB (by omega)
  have h6 : -1 ≤ (x % B - y % B) / B := Int.le_ediv_of_mul_le hB (by omega)
  omega

/-! ### a number of one word at place 64 * q + s -/
theorem put_low (lo : Int) (q s i : Nat) (h : i < q) : word (lo * 2 ^ (64 * q + s)) i = 0 := by
  rw [Nat.add_comm, Int.pow_add, ← Int.mul_assoc]
  exact word_below _ q i h
theorem put_at (lo : Int) (q s : Nat) : word (lo * 2 ^ (64 * q + s)) q = lo * 2 ^ s % 18446744073709551616 := by
  rw [Nat.add_comm, Int.pow_add, ← Int.mul_assoc, word_up _ q q (Nat.le_refl q), Nat.sub_self]
  simp [word]
theorem put_next (lo : Int) (q s : Nat) (h0 : 0 ≤ lo) (h1 : lo ≤ 18446744073709551615) (hs : s < 64) : word (lo * 2 ^ (64 * q + s)) (q + 1) = lo / 2 ^ (64 - s) := by
  rw [Nat.add_comm (64 * q) s, Int.pow_add, ← Int.mul_assoc, word_up _ q (q + 1) (by omega), show q + 1 - q = 1 by omega]
  unfold word
  have e : (2 : Int) ^ (64 * 1) = 2 ^ (64 - s) * 2 ^ s := by rw [← Int.pow_add]; congr 1; omega
  rw [e, Int.mul_ediv_mul_of_pos_left _ _ (pow_pos _)]
  apply Int.emod_eq_of_lt
  · exact Int.ediv_nonneg h0 (Int.le_of_lt (pow_pos _))
  · apply Int.ediv_lt_of_lt_mul (pow_pos _)
    have := pow_pos (64 - s)
    have h3 : (18446744073709551616 : Int) * 1 ≤ 18446744073709551616 * 2 ^ (64 - s) := Int.mul_le_mul_of_nonneg_left (by omega) (by decide)
    omega
theorem put_high (lo : Int) (q s i : Nat) (h0 : 0 ≤ lo) (h1 : lo ≤ 18446744073709551615) (hs : s < 64) (h : q + 2 ≤ i) : word (lo * 2 ^ (64 * q + s)) i = 0 := by
  rw [Nat.add_comm (64 * q) s, Int.pow_add, ← Int.mul_assoc, word_up _ q i (by omega)]
  unfold word
  have e : lo * 2 ^ s / 2 ^ (64 * (i - q)) = 0 := by
    apply Int.ediv_eq_zero_of_lt (Int.mul_nonneg h0 (Int.le_of_lt (pow_pos _)))
    have h2 : (2 : Int) ^ (64 * (i - q)) = 2 ^ (64 * (i - q) - s) * 2 ^ s := by rw [← Int.pow_add]; congr 1; omega
    rw [h2]
    apply Int.mul_lt_mul_of_pos_right _ (pow_pos _)
    have h3 : (2 : Int) ^ (64 * (i - q) - s) = 2 ^ (64 * (i - q) - s - 64) * 2 ^ 64 := by rw [← Int.pow_add]; congr 1; omega
    rw [h3]
    have h4 := Int.mul_le_mul_of_nonneg_right (show (1 : Int) ≤ 2 ^ (64 * (i - q) - s - 64) from pow_pos _) (show (0 : Int) ≤ 2 ^ 64 by decide)
    omega
  rw [e]; rfl

theorem carry_low (z X : Int) (q : Nat) (h : ∀ i, i < q → word X i = 0) : carry z X q = 0 ∧ ∀ i, i < q → word (z + X) i = word z i := by
  have key : ∀ i, i ≤ q → carry z X i = 0 := by
    intro i
    induction i with
    | zero => intro _; exact carry_zero _ _
    | succ i ih =>
      intro hi
      rw [carry_next, ih (by omega), h i (by omega)]
      have := word_bd z i
      omega
  refine ⟨key q (Nat.le_refl q), fun i hi => ?_⟩
  rw [word_add, key i (by omega), h i hi]
  have := word_bd z i
  omega
theorem carry_high (z X : Int) (k : Nat) (hc : carry z X k = 0) (h : ∀ i, k ≤ i → word X i = 0) : ∀ i, k ≤ i → carry z X i = 0 ∧ word (z + X) i = word z i := by
  have key : ∀ d, carry z X (k + d) = 0 := by
    intro d
    induction d with
    | zero => exact hc
    | succ d ih =>
      rw [← Nat.add_assoc, carry_next, ih, h _ (by omega)]
      have := word_bd z (k + d)
      omega
  intro i hi
  obtain ⟨d, rfl⟩ : ∃ d, i = k + d := ⟨i - k, by omega⟩
  refine ⟨key d, ?_⟩
  rw [word_add, key d, h _ hi]
  have := word_bd z (k + d)
  omega
theorem borrow_low (z X : Int) (q : Nat) (h : ∀ i, i < q → word X i = 0) : borrow z X q = 0 ∧ ∀ i, i < q → word (z - X) i = word z i := by
  have key : ∀ i, i ≤ q → borrow z X i = 0 := by
    intro i
    induction i with
    | zero => intro _; exact borrow_zero _ _
    | succ i ih =>
      intro hi
      rw [borrow_next, ih (by omega), h i (by omega)]
      have := word_bd z i
      omega
  refine ⟨key q (Nat.le_refl q), fun i hi => ?_⟩
  rw [word_sub, key i (by omega), h i hi]
  have := word_bd z i
  omega
theorem borrow_high (z X : Int) (k : Nat) (hc : borrow z X k = 0) (h : ∀ i, k ≤ i → word X i = 0) : ∀ i, k ≤ i → borrow z X i = 0 ∧ word (z - X) i = word z i := by
  have key : ∀ d, borrow z X (k + d) = 0 := by
    intro d
    induction d with
    | zero => exact hc
    | succ d ih =>
      rw [← Nat.add_assoc, borrow_next, ih, h _ (by omega)]
      have := word_bd z (k + d)
      omega
  intro i hi
  obtain ⟨d, rfl⟩ : ∃ d, i = k + d := ⟨i - k, by omega⟩
  refine ⟨key d, ?_⟩
  rw [word_sub, key d, h _ hi]
  have := word_bd z (k + d)
  omega

end Go.Proofs.Ygctak.Ac

namespace Go.Proofs.Ygctak
open Go.RowKit
attribute [local go_sem ↓] Go.wp_at_zero Go.wp_at_succ
namespace Ac
def sub64Entry : Array Value → Sem Value := fun args => do
  let (x, y, b) ← Extern.MathBitsCarry.three "Sub64" args
  pure (Extern.MathBitsCarry.pair ((x + Extern.MathBitsCarry.m64 - y - b) % Extern.MathBitsCarry.m64) (if x < y + b then 1 else 0))

theorem run_sub64 {P : Program} (x y c : Int) (hx : 0 ≤ x) (hx1 : x ≤ 18446744073709551615) (hy : 0 ≤ y) (hy1 : y ≤ 18446744073709551615) (hc0 : 0 ≤ c) (hc : c ≤ 1) (w : World) :
    (sub64Entry #[.int .u64 x, .int .u64 y, .int .u64 c]).run P w =
      .ok (.tuple #[.int .u64 ((x - y - c) % 18446744073709551616), .int .u64 (-((x - y - c) / 18446744073709551616))]) w := by
  have key : ∀ k : Nat, k ≤ 1 → (sub64Entry #[.int .u64 x, .int .u64 y, .int .u64 (k : Int)]).run P w =
      .ok (Extern.MathBitsCarry.pair ((x.toNat + Extern.MathBitsCarry.m64 - y.toNat - k) % Extern.MathBitsCarry.m64) (if x.toNat < y.toNat + k then 1 else 0)) w := by
    intro k hk
    have : k = 0 ∨ k = 1 := by omega
    rcases this with rfl | rfl <;> rfl
  obtain ⟨k, rfl⟩ := Int.eq_ofNat_of_zero_le hc0
  rw [key k (by omega)]
  obtain ⟨X, rfl⟩ := Int.eq_ofNat_of_zero_le hx
  obtain ⟨Y, rfl⟩ := Int.eq_ofNat_of_zero_le hy
  simp only [Extern.MathBitsCarry.pair, Extern.MathBitsCarry.m64, Int.toNat_natCast]
  have e1 : Int.ofNat ((X + 2 ^ 64 - Y - k) % 2 ^ 64) = ((X : Int) - Y - k) % 18446744073709551616 := by
    simp only [Int.ofNat_eq_natCast]; omega
  have e2 : Int.ofNat (if X < Y + k then 1 else 0) = -(((X : Int) - Y - k) / 18446744073709551616) := by
    simp only [Int.ofNat_eq_natCast]; split <;> omega
  rw [e1, e2]

theorem sub64_run (x y c : Int) (hx : 0 ≤ x) (hx1 : x ≤ 18446744073709551615) (hy : 0 ≤ y) (hy1 : y ≤ 18446744073709551615) (hc0 : 0 ≤ c) (hc : c ≤ 1) (w : World) :
    (callFunc 137 #[.int .u64 x, .int .u64 y, .int .u64 c]).run Takg.prog w =
      .ok (.value (.tuple #[.int .u64 ((x - y - c) % 18446744073709551616), .int .u64 (-((x - y - c) / 18446744073709551616))])) w := by
  rw [run_callFunc_extern Takg.func137 (by kernel_rfl) (by kernel_rfl) (by kernel_rfl) (e := sub64Entry) (by kernel_rfl), run_sub64 x y c hx hx1 hy hy1 hc0 hc]
  rfl

theorem sub_any (x y c : Int) (w : World) (hx : 0 ≤ x) (hx1 : x ≤ 18446744073709551615) (hy : 0 ≤ y) (hy1 : y ≤ 18446744073709551615) (hc0 : 0 ≤ c) (hc : c ≤ 1) :
    Calls Takg.prog 106 #[.int .u64 x, .int .u64 y, .int .u64 c] w fun e w' =>
      e = .returned (.tuple #[.int .u64 ((x - y - c) % 18446744073709551616), .int .u64 (-((x - y - c) / 18446744073709551616))]) ∧ w' = w := by
  go_enter Takg.func106, Takg.ntmps106
  go_wp2_with (simp only [sub64_run x y c hx hx1 hy hy1 hc0 hc])
  go_ret2
  exact ⟨rfl, rfl⟩

set_option maxHeartbeats 1000000 in
/-- (*Acc).Neg. -/
theorem Neg_any (b o t : Nat) (p s : List Value) (z : Int) (w : World) (ha : At w b o t p (W z) s) :
    Calls Takg.prog 70 #[.pointer (some ⟨b, o, none⟩)] w fun e w' => e = .returned (.tuple #[]) ∧ At w' b o t p (W (-z)) s ∧ Chg [b] w w' := by
  go_enter Takg.func70, Takg.ntmps70
  go_wp2_with fail
  go_loopw [2, 3] (fun c i wr => ∃ (k : Nat) (f : Nat → Int), c = .int .u64 (borrow 0 z k) ∧ i = .int .i64 k ∧ k ≤ 68 ∧ (∀ j, f j = if j < k then word (0 - z) j else word z j) ∧ At wr b o t p (Wd f) s ∧ Chg [b] w wr) (fun _ i _ => 68 - (intOf i).toNat)
  case atStart => exact ⟨0, word z, by rw [borrow_zero], rfl, by omega, fun j => by simp, ha, Chg.refl _ _⟩
  case round =>
    clear ha
    obtain ⟨k, f, rfl, rfl, hk, hf, ha, hch⟩ := hrel
    have HF := hide hf
    clear hf
    by_cases hlt : k < 68
    · obtain ⟨c, hc⟩ : ∃ c, c = borrow 0 z k := ⟨_, rfl⟩
      have cb := borrow_bd 0 z k
      obtain ⟨u, hu⟩ : ∃ u, u = word z k := ⟨_, rfl⟩
      have ub := word_bd z k
      have k0 : wr.cell? ⟨b, o + k, none⟩ = some (.int .u64 u) := by
        rw [ha.cell k hlt, HF.out k, if_neg (by omega), hu]
      have f0 := ha.blk.frozen (o + k) none
      have hnext := ha.set k hlt ((0 - u - c) % 18446744073709551616)
      have hz : word 0 k = 0 := by simp [word]
      have hw : Hid (word (0 - z) k = (0 - u - c) % 18446744073709551616) := by rw [hu, hc]; have := word_sub 0 z k; rw [hz] at this; exact this
      have hcn : Hid (borrow 0 z (k + 1) = -((0 - u - c) / 18446744073709551616)) := by rw [hu, hc]; have := borrow_next 0 z k; rw [hz] at this; exact this
      rw [← hc] at cb ⊢
      rw [← hu] at ub
      clear hc hu hz
      obtain ⟨c0, c1⟩ := cb
      obtain ⟨u0, u1⟩ := ub
      have HC := hide (fun W : World => sub_any 0 u c W (by decide) (by decide) u0 u1 c0 c1)
      obtain ⟨r1, hr1⟩ : ∃ r, r = (0 - u - c) % 18446744073709551616 := ⟨_, rfl⟩
      obtain ⟨r2, hr2⟩ : ∃ r, r = -((0 - u - c) / 18446744073709551616) := ⟨_, rfl⟩
      rw [← hr1, ← hr2] at HC
      rw [← hr1] at hw hnext
      rw [← hr2] at hcn
      clear hr1 hr2
      go_wp2_with fail
      go_region_with (go_at_call 106; refine (HC.out _).mono ?_; rintro e w' ⟨rfl, rfl⟩)
      all_goals
        go_wp2_with fail
        go_roundw
        case rel =>
          refine ⟨k + 1, _, by rw [hcn.out], by go_num, by omega, ?_, hnext.drew, (hch.setCell _ (by simp) _).drew⟩
          intro j
          unfold upd
          by_cases e : j = k
          · subst e; rw [if_pos rfl, if_pos (by omega), hw.out]
          · rw [if_neg e, HF.out j]
            by_cases e2 : j < k
            · rw [if_pos e2, if_pos (by omega)]
            · rw [if_neg e2, if_neg (by omega)]
        case measure => simp [intOf]; omega
    · have hke : k = 68 := by omega
      subst hke
      go_wp2_with fail
      go_end0
      refine ⟨rfl, ?_, hch⟩
      have : Wd f = W (-z) := Wd_congr fun j hj => by rw [HF.out j, if_pos hj, Int.zero_sub]
      rw [← this]
      exact ha
theorem fits_neg {x : Int} (h : Fits x) (hx : -half < x) : Fits (-x) := by unfold Fits at *; omega

/-- (*Acc).Abs. -/
theorem Abs_any (b o t : Nat) (p s : List Value) (z : Int) (w : World) (hx : Fits z) (ha : At w b o t p (W z) s) :
    Calls Takg.prog 105 #[.pointer (some ⟨b, o, none⟩)] w fun e w' => e = .returned (.tuple #[]) ∧ At w' b o t p (W (z.natAbs : Int)) s ∧ Chg [b] w w' := by
  have HS := hide (Sign_any b o t p s z w hx ha)
  have HN := hide (Neg_any b o t p s z w ha)
  by_cases hz : z < 0
  · have hs : sgn z = -1 := by unfold sgn; rw [if_pos hz]
    rw [hs] at HS
    have e1 : -z = (z.natAbs : Int) := by omega
    rw [e1] at HN
    clear hs e1 ha
    go_enter Takg.func105, Takg.ntmps105
    go_wp2_with fail
    refine HS.out.mono ?_
    rintro e w' ⟨rfl, rfl⟩
    go_wp2_with fail
    refine HN.out.mono ?_
    rintro e w' ⟨rfl, hk, hc⟩
    go_wp2_with fail
    go_end0
    exact ⟨rfl, hk, hc⟩
  · have hs : ∃ v, sgn z = v ∧ 0 ≤ v ∧ v ≤ 1 := by
      refine ⟨_, rfl, ?_⟩; unfold sgn; rw [if_neg hz]; split <;> omega
    obtain ⟨v, hv, v0, v1⟩ := hs
    rw [hv] at HS
    have e1 : z = (z.natAbs : Int) := by omega
    rw [e1] at ha
    generalize (z.natAbs : Int) = y at *
    clear HN hv e1
    go_enter Takg.func105, Takg.ntmps105
    go_wp2_with fail
    refine HS.out.mono ?_
    rintro e w' ⟨rfl, rfl⟩
    go_wp2_with fail
    go_end0
    exact ⟨rfl, ha, Chg.refl _ _⟩
end Ac
end Go.Proofs.Ygctak
