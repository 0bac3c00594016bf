/-
  Walks: Shl.
-/
import Derived.Test.YgctakAcc2
namespace Go.Proofs.Ygctak
open Go.RowKit
set_option linter.unusedVariables false
set_option linter.unusedSimpArgs false
attribute [local go_sem ↓] Go.wp_at_zero Go.wp_at_succ
namespace Ac

theorem or_shift (u v : Int) (l : Nat) (hl : l < 64) (u0 : 0 ≤ u) (v0 : 0 ≤ v) (v1 : v ≤ 18446744073709551615) :
    bits BinOp.or IntKind.u64 (IntKind.u64.wrap (u * 2 ^ l)) (v / 2 ^ (64 - l)) = u * 2 ^ l % 18446744073709551616 + v / 2 ^ (64 - l) := by
  obtain ⟨U, rfl⟩ := Int.eq_ofNat_of_zero_le u0
  obtain ⟨V, rfl⟩ := Int.eq_ofNat_of_zero_le v0
  have hV : V < 2 ^ 64 := by omega
  rw [IntKind.wrap_u64]
  have e1 : (U : Int) * 2 ^ l % 18446744073709551616 = ((2 ^ l * (U % 2 ^ (64 - l)) : Nat) : Int) := by
    have h1 : (2 : Nat) ^ 64 = 2 ^ l * 2 ^ (64 - l) := by rw [← Nat.pow_add]; congr 1; omega
    have h2 : 2 ^ l * U % 2 ^ 64 = 2 ^ l * (U % 2 ^ (64 - l)) := by rw [h1, Nat.mul_mod_mul_left]
    rw [← h2, Nat.mul_comm]
    simp
  have e2 : (V : Int) / 2 ^ (64 - l) = ((V / 2 ^ (64 - l) : Nat) : Int) := by simp
  have hlt : V / 2 ^ (64 - l) < 2 ^ l := by
    rw [Nat.div_lt_iff_lt_mul (Nat.two_pow_pos _), ← Nat.pow_add, show l + (64 - l) = 64 by omega]
    exact hV
  have hlt2 : 2 ^ l * (U % 2 ^ (64 - l)) < 18446744073709551616 := by
    have h3 : U % 2 ^ (64 - l) < 2 ^ (64 - l) := Nat.mod_lt _ (Nat.two_pow_pos _)
    have h4 := Nat.mul_lt_mul_of_pos_left h3 (Nat.two_pow_pos l)
    rw [← Nat.pow_add, show l + (64 - l) = 64 by omega] at h4
    exact h4
  have hlt3 : V / 2 ^ (64 - l) < 18446744073709551616 := Nat.lt_of_lt_of_le hlt (show 2 ^ l ≤ 2 ^ 64 from Nat.pow_le_pow_right (by omega) (by omega))
  rw [e1, e2, bits_or_u64_nat _ _ hlt2 hlt3, ← Nat.two_pow_add_eq_or_of_lt hlt]
  omega

set_option maxHeartbeats 1000000 in
/-- (*Acc).Shl. -/
theorem Shl_any (b o t : Nat) (p s : List Value) (x : Int) (n : Nat) (w : World) (hn : n ≤ 65535) (ha : At w b o t p (W x) s) :
    Calls Takg.prog 30 #[.pointer (some ⟨b, o, none⟩), .int .u16 n] w fun e w' => e = .returned (.tuple #[]) ∧ At w' b o t p (W (x * 2 ^ n)) s ∧ Chg [b] w w' := by
  obtain ⟨q, hq⟩ : ∃ q, q = n / 64 := ⟨_, rfl⟩
  obtain ⟨l, hl⟩ : ∃ l, l = n % 64 := ⟨_, rfl⟩
  have hl64 : l < 64 := by omega
  have hq2 : q ≤ 1023 := by omega
  have hsh := fun i => word_shl x q l i hl64
  have e0 : 64 * q + l = n := by omega
  rw [e0] at hsh
  have hqi : (n : Int) / 64 = (q : Int) := by omega
  have hli : (n : Int) % 64 = (l : Int) := by omega
  have HSH := hide hsh
  clear hsh e0 hq hl
  go_enter Takg.func30, Takg.ntmps30
  go_upto_region 1 with fail
  go_cut [4, 5] (fun x y wc => x = .int .i64 q ∧ y = .int .u16 l ∧ w = wc)
  case first =>
    go_wp2_with fail
    go_meet
    exact ⟨rfl, by rw [hli], rfl⟩
  case rest =>
    obtain ⟨rfl, rfl, rfl⟩ := hcut
    clear hqi hli
    go_wp2_with fail
    go_loopw [6] (fun i wr => ∃ (k : Nat) (f : Nat → Int), i = .int .i64 ((k : Int) - 1) ∧ k ≤ 68 ∧ (∀ j, f j = if j < k then word x j else word (x * 2 ^ n) j) ∧ At wr b o t p (Wd f) s ∧ Chg [b] w wr) (fun i _ => (intOf i + 1).toNat)
    case atStart => exact ⟨68, fun j => if j < 68 then word x j else word (x * 2 ^ n) j, rfl, by omega, fun j => rfl, by rw [Wd_congr (g := word x) (fun j hj => by simp [hj])]; exact ha, Chg.refl _ _⟩
    case round =>
      clear ha
      obtain ⟨k, f, rfl, hk, hf, ha, hch⟩ := hrel
      have HF := hide hf
      clear hf
      by_cases hk0 : 0 < k
      · obtain ⟨m, rfl⟩ : ∃ m, k = m + 1 := ⟨k - 1, by omega⟩
        have hm : m < 68 := by omega
        have hwm := HSH.out m
        have hcell : ∀ j, j < 68 → j ≤ m → wr.cell? ⟨b, o + j, none⟩ = some (.int .u64 (word x j)) := fun j h1 h2 => by rw [ha.cell j h1, HF.out j, if_pos (by omega)]
        have f0 := ha.blk.frozen (o + m) none
        have hkm := hcell m hm (Nat.le_refl _)
        rw [show (((m + 1 : Nat) : Int) - 1) = (m : Int) by omega]
        by_cases h1 : m < q
        · rw [if_pos h1] at hwm
          have hnext := ha.set m hm 0
          have HW := hide hwm
          clear hwm hcell
          go_wp2_with fail
          go_roundw
          case rel => exact ⟨m, _, by go_num, by omega, mix_down HF.out HW.out, hnext, hch.setCell _ (by simp) _⟩
          case measure => simp [intOf]
        · rw [if_neg h1] at hwm
          by_cases h2 : m = q
          · rw [if_pos h2] at hwm
            have k0 := hcell 0 (by omega) (by omega)
            rw [Nat.add_zero] at k0
            have ub := word_bd x 0
            obtain ⟨u, hu⟩ : ∃ u, u = word x 0 := ⟨_, rfl⟩
            rw [← hu] at k0 ub hwm
            obtain ⟨u0, u1⟩ := ub
            rw [← IntKind.wrap_u64] at hwm
            have hnext := ha.set m hm (IntKind.u64.wrap (u * 2 ^ l))
            subst h2
            have HW := hide hwm
            clear hwm hcell hu
            go_wp2_with fail
            go_roundw
            case rel => exact ⟨m, _, by go_num, by omega, mix_down HF.out HW.out, hnext, hch.setCell _ (by simp) _⟩
            case measure => simp [intOf]
          · rw [if_neg h2] at hwm
            have k0 := hcell (m - q) (by omega) (by omega)
            have k1 := hcell (m - q - 1) (by omega) (by omega)
            have ub := word_bd x (m - q)
            have vb := word_bd x (m - q - 1)
            obtain ⟨u, hu⟩ : ∃ u, u = word x (m - q) := ⟨_, rfl⟩
            obtain ⟨v, hv⟩ : ∃ u, u = word x (m - q - 1) := ⟨_, rfl⟩
            rw [← hu] at k0 ub hwm
            rw [← hv] at k1 vb hwm
            obtain ⟨u0, u1⟩ := ub
            obtain ⟨v0, v1⟩ := vb
            have hqm : q < m := by omega
            rw [← or_shift u v l hl64 u0 v0 v1] at hwm
            have HW := hide hwm
            have hnext := ha.set m hm (bits BinOp.or IntKind.u64 (IntKind.u64.wrap (u * 2 ^ l)) (v / 2 ^ (64 - l)))
            clear hwm hcell hu hv h1 h2
            go_wp2_with fail
            go_roundw
            case rel => exact ⟨m, _, by go_num, by omega, mix_down HF.out HW.out, hnext, hch.setCell _ (by simp) _⟩
            case measure => simp [intOf]
      · have hk00 : k = 0 := by omega
        subst hk00
        go_wp2_with fail
        go_end0
        refine ⟨rfl, ?_, hch⟩
        have : Wd f = W (x * 2 ^ n) := Wd_congr fun j hj => by rw [HF.out j, if_neg (by omega)]
        rw [← this]
        exact ha
end Ac
end Go.Proofs.Ygctak
