/-
  Walks: MulSmall.
-/
import Derived.Test.YgctakAcc1
namespace Go.Proofs.Ygctak
open Go.RowKit
set_option linter.unusedVariables false
set_option linter.unusedSimpArgs false
attribute [local go_sem ↓] Go.wp_at_zero Go.wp_at_succ
namespace Ac

theorem mix_step {f g h : Nat → Int} {k : Nat} (hf : ∀ j, f j = if j < k then g j else h j) {v : Int} (hv : g k = v) : ∀ j, upd f k v j = if j < k + 1 then g j else h j := by
  intro j
  unfold upd
  by_cases e : j = k
  · subst e; rw [if_pos rfl, if_pos (by omega), hv]
  · rw [if_neg e, hf j]
    by_cases e2 : j < k
    · rw [if_pos e2, if_pos (by omega)]
    · rw [if_neg e2, if_neg (by omega)]
theorem mix_down {f g h : Nat → Int} {k : Nat} (hf : ∀ j, f j = if j < k + 1 then g j else h j) {v : Int} (hv : h k = v) : ∀ j, upd f k v j = if j < k then g j else h j := by
  intro j
  unfold upd
  by_cases e : j = k
  · subst e; rw [if_pos rfl, if_neg (by omega), hv]
  · rw [if_neg e, hf j]
    by_cases e2 : j < k
    · rw [if_pos e2, if_pos (by omega)]
    · rw [if_neg e2, if_neg (by omega)]

theorem mulSmall_step (u m q : Int) (u0 : 0 ≤ u) (u1 : u ≤ 18446744073709551615) (m0 : 0 ≤ m) (m1 : m ≤ 4294967295) (q0 : 0 ≤ q) (q1 : q ≤ m) :
    (u * m % 18446744073709551616 + q + 0) % 18446744073709551616 = (u * m + q) % 18446744073709551616 ∧
    IntKind.u64.wrap (u * m / 18446744073709551616 + (u * m % 18446744073709551616 + q + 0) / 18446744073709551616) = (u * m + q) / 18446744073709551616 := by
  have h1 : u * m ≤ 18446744073709551615 * 4294967295 := Int.mul_le_mul u1 m1 m0 (by omega)
  have h0 : 0 ≤ u * m := Int.mul_nonneg u0 m0
  rw [IntKind.wrap_u64]
  generalize u * m = z at *
  omega

set_option maxHeartbeats 1000000 in
/-- (*Acc).MulSmall. -/
theorem MulSmall_any (b o t : Nat) (p s : List Value) (x m : Int) (w : World) (m0 : 0 ≤ m) (m1 : m ≤ 4294967295) (ha : At w b o t p (W x) s) :
    Calls Takg.prog 67 #[.pointer (some ⟨b, o, none⟩), .int .u32 m] w fun e w' => e = .returned (.tuple #[]) ∧ At w' b o t p (W (x * m)) s ∧ Chg [b] w w' := by
  go_enter Takg.func67, Takg.ntmps67
  go_wp2_with fail
  go_loopw [4, 5] (fun c i wr => ∃ (k : Nat) (f : Nat → Int), c = .int .u64 (over x m k) ∧ i = .int .i64 k ∧ k ≤ 68 ∧ (∀ j, f j = if j < k then word (x * m) j else word x j) ∧ At wr b o t p (Wd f) s ∧ Chg [b] w wr) (fun _ i _ => 68 - (intOf i).toNat)
  case atStart => exact ⟨0, word x, by rw [over_zero], rfl, by omega, fun j => by simp, ha, Chg.refl _ _⟩
  case round =>
    clear ha
    obtain ⟨k, f, rfl, rfl, hk, hf, ha, hch⟩ := hrel
    have HF := hide hf
    clear hf
    by_cases hlt : k < 68
    · obtain ⟨q, hq⟩ : ∃ c, c = over x m k := ⟨_, rfl⟩
      have qb := over_bd x m k m0
      obtain ⟨u, hu⟩ : ∃ u, u = word x k := ⟨_, rfl⟩
      have ub := word_bd x k
      have k0 : wr.cell? ⟨b, o + k, none⟩ = some (.int .u64 u) := by
        rw [ha.cell k hlt, HF.out k, if_neg (by omega), hu]
      have f0 := ha.blk.frozen (o + k) none
      have hnext := ha.set k hlt ((u * m + q) % 18446744073709551616)
      have hw : Hid (word (x * m) k = (u * m + q) % 18446744073709551616) := by rw [hu, hq]; exact word_mul x m k
      have hcn : Hid (over x m (k + 1) = (u * m + q) / 18446744073709551616) := by rw [hu, hq]; exact over_next x m k
      rw [← hq] at qb ⊢
      rw [← hu] at ub
      clear hq hu
      obtain ⟨q0, q1⟩ := qb
      obtain ⟨u0, u1⟩ := ub
      have hst := mulSmall_step u m q u0 u1 m0 m1 q0 q1
      rw [Int.add_zero] at hst
      have HST := hide hst
      clear hst
      have um0 : 0 ≤ u * m % 18446744073709551616 := by omega
      go_wp2_with fail
      refine (mul_any _ _ _ u0 u1 m0 (by omega)).mono ?_
      rintro e w' ⟨rfl, rfl⟩
      go_wp2_with fail
      refine (add_any _ _ 0 _ um0 q0 (by omega) (by omega)).mono ?_
      rintro e w' ⟨rfl, rfl⟩
      go_wp2_with fail
      go_roundw
      case rel =>
        refine ⟨k + 1, _, by rw [hcn.out, HST.out.2], by go_num, by omega, mix_step HF.out hw.out, hnext, hch.setCell _ (by simp) _⟩
      case measure => simp [intOf]; omega
    · have hke : k = 68 := by omega
      subst hke
      go_wp2_with fail
      go_end0
      refine ⟨rfl, ?_, hch⟩
      have : Wd f = W (x * m) := Wd_congr fun j hj => by rw [HF.out j, if_pos hj]
      rw [← this]
      exact ha
end Ac
end Go.Proofs.Ygctak
