/-
  Walks: the scalar functions of package ntt.
-/
import Derived.Test.YgctakRows
import Derived.Test.YgctakMem
import Derived.Test.YgctakNttPure
import Derived.WalkLawsBesides
namespace Go.Proofs.Ygctak
open Go.RowKit
set_option linter.unusedVariables false
set_option linter.unusedSimpArgs false

theorem ret_int {k : IntKind} {a b : Int} (h : a = b) : Ending.returned (.int k a) = .returned (.int k b) := by rw [h]

theorem mul_bd {x y X Y : Int} (hx : 0 ≤ x) (hX : x ≤ X) (hy : 0 ≤ y) (hY : y ≤ Y) : 0 ≤ x * y ∧ x * y ≤ X * Y :=
  ⟨Int.mul_nonneg hx hy, Int.mul_le_mul hX hY hy (Int.le_trans hx hX)⟩

namespace Ntt

theorem below_any (a : Int) (w : World) (h0 : 0 ≤ a) :
    Calls Takg.prog 41 #[.int .u32 a] w fun e w' => e = .returned (.int .u32 (a % 998244353)) ∧ w' = w := by
  by_cases h : 998244353 ≤ a
  · go_enter Takg.func41, Takg.ntmps41
    go_wp2
    go_ret
    exact ⟨rfl, rfl⟩
  · go_enter Takg.func41, Takg.ntmps41
    go_wp2
    go_ret
    exact ⟨ret_int (by omega), rfl⟩

theorem fold_any (a : Int) (w : World) (h0 : 0 ≤ a) (h1 : a ≤ 4294967295) :
    Calls Takg.prog 44 #[.int .u32 a] w fun e w' => e = .returned (.int .u32 (fold a)) ∧ w' = w := by
  by_cases h : 998244353 ≤ a
  · go_enter Takg.func44, Takg.ntmps44
    go_wp2
    go_ret
    exact ⟨ret_int (by unfold fold; rw [if_pos h]), rfl⟩
  · go_enter Takg.func44, Takg.ntmps44
    go_wp2
    go_ret
    exact ⟨ret_int (by unfold fold; rw [if_neg (by omega)]), rfl⟩

theorem times_any (a r x : Int) (w : World) (h0 : 0 ≤ a) (h1 : a ≤ 4294967295) (h2 : 0 ≤ r) (h3 : r ≤ 4294967295) (h4 : 0 ≤ x) (h5 : x ≤ 4294967295) :
    Calls Takg.prog 45 #[.agg #[.int .u32 a, .int .u32 r], .int .u32 x] w fun e w' => e = .returned (.int .u32 (times a r x)) ∧ Chg [] w w' := by
  have hb := mul_bd h4 h5 h2 h3
  have hw : IntKind.u64.wrap (x * r) = x * r := by rw [IntKind.wrap_u64]; omega
  have HW := hide hw
  clear hw hb
  go_enter Takg.func45, Takg.ntmps45
  go_wp2
  go_ret
  exact ⟨ret_int (by rw [unhide HW]; rfl), (Chg.refl _ _).alloc _⟩

theorem factorOf_any (a : Int) (w : World) (h0 : 0 ≤ a) (h1 : a ≤ 4294967295) :
    Calls Takg.prog 43 #[.int .u32 a] w fun e w' => e = .returned (.agg #[.int .u32 a, .int .u32 (rat a)]) ∧ Chg [] w w' := by
  go_enter Takg.func43, Takg.ntmps43
  go_wp2
  exact bodyPost_ret (v := .agg #[.int .u32 a, .int .u32 (rat a)]) (by simp [results, Takg.results43, go_sem, rat]) rfl ⟨rfl, (Chg.refl _ _).alloc _⟩

theorem mulmod_any (a b : Int) (w : World) (h0 : 0 ≤ a) (h1 : a ≤ 4294967295) (h2 : 0 ≤ b) (h3 : b ≤ 4294967295) :
    Calls Takg.prog 14 #[.int .u32 a, .int .u32 b] w fun e w' => e = .returned (.int .u32 (mulm a b)) ∧ w' = w := by
  go_enter Takg.func14, Takg.ntmps14
  go_wp2_with fail
  refine (below_any _ _ h0).mono ?_
  rintro e w' ⟨rfl, rfl⟩
  go_wp2_with fail
  refine (below_any _ _ h2).mono ?_
  rintro e w' ⟨rfl, rfl⟩
  go_wp2_with fail
  go_ret
  refine ⟨ret_int ?_, rfl⟩
  have hb := mul_bd (x := a % 998244353) (y := b % 998244353) (X := 998244352) (Y := 998244352) (by omega) (by omega) (by omega) (by omega)
  rw [IntKind.wrap_u64]
  unfold mulm
  rw [Int.emod_eq_of_lt hb.1 (by omega), Int.tmod_eq_emod_of_nonneg hb.1]
  omega

theorem and_one_u32 (e : Nat) (h : e ≤ 4294967295) : bits BinOp.and IntKind.u32 (e : Int) 1 = ((e % 2 : Nat) : Int) := by
  have := u32_and_nat e 1 (by omega) (by omega)
  rw [Nat.and_one_is_mod] at this
  exact this

theorem powmod_any (a : Int) (e : Nat) (w : World) (h0 : 0 ≤ a) (h1 : a ≤ 4294967295) (h3 : e ≤ 4294967295) :
    Calls Takg.prog 84 #[.int .u32 a, .int .u32 e] w fun e' w' => e' = .returned (.int .u32 (powm a e)) ∧ w' = w := by
  go_enter Takg.func84, Takg.ntmps84
  go_wp2_with fail
  refine (below_any _ _ h0).mono ?_
  rintro e' w' ⟨rfl, rfl⟩
  go_wp2_with fail
  go_loop [0, 1, 5] (fun x y z => ∃ (f : Nat) (r b : Int) (m : Nat), x = .int .u32 b ∧ y = .int .u32 m ∧ z = .int .u32 r ∧ Hid (m < 2 ^ f) ∧ m ≤ 4294967295 ∧ 0 ≤ b ∧ b ≤ 998244352 ∧ 0 ≤ r ∧ r ≤ 998244352 ∧ Hid (powL f r b m = powm a e)) (fun _ y _ => (intOf y).toNat)
  case atStart => exact ⟨32, 1, a % 998244353, e, rfl, rfl, rfl, by unfold Hid; omega, h3, by omega, by omega, by decide, by decide, rfl⟩
  case round =>
    obtain ⟨f, r, b, m, rfl, rfl, rfl, hm, hm2, hb0, hb1, hr0, hr1, HP⟩ := hrel
    by_cases hz : m = 0
    · subst hz
      go_wp2_with fail
      go_ret
      exact ⟨ret_int (by rw [← HP.out, powL_zero]), rfl⟩
    · have hpos : 0 < m := by omega
      obtain ⟨g, rfl⟩ : ∃ g, f = g + 1 := ⟨f - 1, by
        rcases Nat.eq_zero_or_pos f with h | h
        · subst h; have := hm.out; omega
        · omega⟩
      have hm3 : Hid (m / 2 < 2 ^ g) := by have := hm.out; unfold Hid; rw [Nat.pow_succ] at this; omega
      by_cases ho : m % 2 = 1
      · have ha : (bits BinOp.and IntKind.u32 (m : Int) 1 != 0) = true := by rw [and_one_u32 m hm2, ho]; decide
        have HP2 : Hid (powL g (mulm r b) (mulm b b) (m / 2) = powm a e) := by rw [← HP.out, powL_step g r b m hz, if_pos ho]; rfl
        clear ho HP hm
        go_wp2_with fail
        refine (mulmod_any _ _ _ hr0 (by omega) hb0 (by omega)).mono ?_
        rintro e' w' ⟨rfl, rfl⟩
        go_wp2_with fail
        refine (mulmod_any _ _ _ hb0 (by omega) hb0 (by omega)).mono ?_
        rintro e' w' ⟨rfl, rfl⟩
        have m1 := mulm_bd r b
        have m2 := mulm_bd b b
        go_wp2_with fail
        go_round
        case rel => exact ⟨g, mulm r b, mulm b b, m / 2, rfl, by go_num, rfl, hm3, by omega, m2.1, m2.2, m1.1, m1.2, HP2⟩
        case measure => simp [intOf]; omega
      · have ha : (bits BinOp.and IntKind.u32 (m : Int) 1 != 0) = false := by rw [and_one_u32 m hm2, show m % 2 = 0 by omega]; decide
        have HP2 : Hid (powL g r (mulm b b) (m / 2) = powm a e) := by rw [← HP.out, powL_step g r b m hz, if_neg ho]; rfl
        clear ho HP hm
        go_wp2_with fail
        refine (mulmod_any _ _ _ hb0 (by omega) hb0 (by omega)).mono ?_
        rintro e' w' ⟨rfl, rfl⟩
        have m2 := mulm_bd b b
        go_wp2_with fail
        go_round
        case rel => exact ⟨g, r, mulm b b, m / 2, rfl, by go_num, rfl, hm3, by omega, m2.1, m2.2, hr0, hr1, HP2⟩
        case measure => simp [intOf]; omega

theorem invmod_any (a : Int) (w : World) (h0 : 0 ≤ a) (h1 : a ≤ 4294967295) :
    Calls Takg.prog 42 #[.int .u32 a] w fun e w' => e = .returned (.int .u32 (inv a)) ∧ w' = w := by
  go_enter Takg.func42, Takg.ntmps42
  go_wp2_with fail
  refine (powmod_any a 998244351 _ h0 h1 (by omega)).mono ?_
  rintro e w' ⟨rfl, rfl⟩
  go_wp2_with fail
  go_ret
  exact ⟨rfl, rfl⟩

theorem root_any (k : Nat) (w : World) (h1 : k ≤ 11) :
    Calls Takg.prog 40 #[.int .u8 k] w fun e w' => e = .returned (.int .u32 (root k)) ∧ w' = w := by
  go_enter Takg.func40, Takg.ntmps40
  go_wp2_with fail
  rw [show (998244352 / 2 ^ k : Int) = ((998244352 / 2 ^ k : Nat) : Int) by simp]
  refine (powmod_any 3 (998244352 / 2 ^ k) _ (by omega) (by omega) (Nat.le_trans (Nat.div_le_self _ _) (by omega))).mono ?_
  rintro e w' ⟨rfl, rfl⟩
  go_wp2_with fail
  go_ret
  exact ⟨rfl, rfl⟩

theorem two_pow_bd (k : Nat) (h : k ≤ 12) : 2 ^ k ≤ 4096 := Nat.pow_le_pow_right (n := 2) (by omega) h

theorem wrap_two_pow (k : Nat) (h : k ≤ 12) : wrap64 (2 ^ k) = 2 ^ k := by
  have h1 := two_pow_bd k h
  have h2 : (2 ^ k : Int) = ((2 ^ k : Nat) : Int) := by simp
  rw [h2]
  clear h2
  generalize 2 ^ k = n at *
  unfold wrap64
  omega

theorem level_any (k : Nat) (w : World) (h0 : k ≤ 11) :
    Calls Takg.prog 37 #[.int .i64 ((2 ^ k : Nat) : Int)] w fun e w' => e = .returned (.int .i64 k) ∧ w' = w := by
  obtain ⟨n, hn⟩ : ∃ n, n = 2 ^ k := ⟨_, rfl⟩
  rw [← hn]
  have HN := hide hn
  clear hn
  go_enter Takg.func37, Takg.ntmps37
  go_wp2_with fail
  go_loop [3] (fun i => ∃ m : Nat, m ≤ k ∧ i = .int .i64 m) (fun i => 12 - (intOf i).toNat)
  case atStart => exact ⟨0, by omega, rfl⟩
  case round =>
    obtain ⟨m, hm, rfl⟩ := hrel
    by_cases hlt : m < k
    · have hne : ((n : Int) == wrap64 (2 ^ m)) = false := by
        rw [wrap_two_pow m (by omega), HN.out, beq_eq_false_iff_ne]
        have := Nat.pow_lt_pow_right (a := 2) (by omega) hlt
        have h2 : (2 ^ m : Int) = ((2 ^ m : Nat) : Int) := by simp
        rw [h2]; omega
      go_wp2
      go_round
      case rel => exact ⟨m + 1, by omega, by go_num⟩
      case measure => simp [intOf]; omega
    · have hk : m = k := by omega
      subst hk
      have hne : ((n : Int) == wrap64 (2 ^ m)) = true := by
        rw [wrap_two_pow m (by omega), HN.out]
        simp
      go_wp2
      go_ret
      exact ⟨rfl, rfl⟩

/-- The cells of a row of Elems. -/
def E (xs : List Int) : List Value := xs.map (Value.int .u32)
theorem E_length (xs : List Int) : (E xs).length = xs.length := by simp [E]
theorem E_get (xs : List Int) (i : Nat) (h : i < xs.length) : (E xs)[i]? = some (.int .u32 (xs.getD i 0)) := by simp [E, h]
theorem E_set (xs : List Int) (i : Nat) (v : Int) : (E xs).set i (.int .u32 v) = E (xs.set i v) := by simp [E, List.map_set]

/-- Every entry is below B. -/
def Lt (B : Int) (xs : List Int) : Prop := ∀ i, i < xs.length → 0 ≤ xs.getD i 0 ∧ xs.getD i 0 < B

theorem Below_any (b : Nat) (xs : List Int) (w : World) (hn : xs.length ≤ 2048) (hx : Lt 998244353 xs) (hb : Blk w b 25 (E xs)) :
    Calls Takg.prog 38 #[.slice (some ⟨b, 0, none⟩) xs.length xs.length] w fun e w' => e = .returned (.bool true) ∧ w' = w := by
  go_enter Takg.func38, Takg.ntmps38
  go_wp2_with fail
  go_loop [3] (fun i => ∃ m : Nat, m ≤ xs.length ∧ i = .int .i64 m) (fun i => xs.length - (intOf i).toNat)
  case atStart => exact ⟨0, by omega, rfl⟩
  case round =>
    obtain ⟨m, hm, rfl⟩ := hrel
    by_cases hlt : m < xs.length
    · obtain ⟨v, hv⟩ : ∃ v, v = xs.getD m 0 := ⟨_, rfl⟩
      have hc : w.cell? ⟨b, m, none⟩ = some (.int .u32 v) := by rw [hv]; exact hb.cell _ _ (E_get _ _ hlt)
      obtain ⟨hv0, hv1⟩ := hx m hlt
      rw [← hv] at hv0 hv1
      clear hv hb hx
      go_wp2
      go_round
      case rel => exact ⟨m + 1, by omega, by go_num⟩
      case measure => simp [intOf]; omega
    · clear hb hx
      go_wp2
      go_ret
      exact ⟨rfl, rfl⟩

end Ntt
end Go.Proofs.Ygctak
