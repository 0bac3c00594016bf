/-
  The cyclic convolution is the plain one where it fits; walk: sameInts.
-/
import Derived.Test.YgctakCx5
namespace Go.Proofs.Ygctak
open Go.RowKit
set_option linter.unusedVariables false
set_option linter.unusedSimpArgs false
attribute [local go_sem ↓] Go.wp_at_zero Go.wp_at_succ
namespace Cx
open Ac Fl Sh Ft Ieee

theorem dg_out {xs : List Int} {m : Nat} (h : xs.length ≤ m) : dg xs m = 0 := by
  unfold dg
  rw [List.getD_eq_getElem?_getD, List.getElem?_eq_none (by omega)]; rfl
theorem sm_cut {f : Nat → Int} {n k : Nat} (h : n ≤ k) (h0 : ∀ m, n ≤ m → f m = 0) : sm f k = sm f n := by
  obtain ⟨d, rfl⟩ : ∃ d, k = n + d := ⟨k - n, by omega⟩
  rw [sm_append, sm_congr (g := fun _ => 0) (fun m _ => h0 (n + m) (by omega)), sm_zero]
  omega
theorem sm_none {f : Nat → Int} {n : Nat} (h0 : ∀ m, m < n → f m = 0) : sm f n = 0 := by
  rw [sm_congr (g := fun _ => 0) h0, sm_zero]

theorem dl_nonneg {xs ys : List Int} (hx : Byte xs) (hy : Byte ys) (i m : Nat) : 0 ≤ dl xs ys i 0 m := by
  have pos : ∀ (f : Nat → Int) (n : Nat), (∀ m, 0 ≤ f m) → 0 ≤ sm f n := fun f n h => by
    induction n with
    | zero => simp [sm]
    | succ n ih => simp only [sm]; have := h n; omega
  unfold dl
  have h := pos (fun p => sm (fun q => if p + q = m then dg xs p * dg ys q else 0) ys.length) i (fun p => pos _ _ fun q => by
    split
    · exact Int.mul_nonneg (dg_byte hx p).1 (dg_byte hy q).1
    · exact Int.le_refl _)
  simp only [sm]
  omega

/-- s == nil. -/
theorem eql_nil (t e : TypeId) (a : Option Addr) (l c : Nat) (h : Takg.prog.underlying t = some (.slice e)) (w : World) : (binOp .eql t (.slice a l c) (.slice none 0 0)).run Takg.prog w = .ok (.bool a.isNone) w := by
  simp only [binOp]
  simp [run_equal_slice_nil w t e a l c h]

/-- Past the end there is nothing. -/
theorem dl_out (xs ys : List Int) (m : Nat) (h : xs.length + ys.length ≤ m + 1) (hy : 1 ≤ ys.length) : dl xs ys xs.length 0 m = 0 := by
  unfold dl
  simp only [sm]
  rw [sm_none (fun p hp => sm_none fun q hq => by rw [if_neg (by omega)])]
  rfl

theorem cv_dl (xs ys : List Int) (k m : Nat) (h : xs.length + ys.length ≤ 2 ^ k + 1) (hx : 1 ≤ xs.length) (hy : 1 ≤ ys.length) (hm : m < 2 ^ k) : cv xs ys k m = dl xs ys xs.length 0 m := by
  have key : ∀ n : Nat, n < 2 ^ k → ((if ((n : Int) - m) % ((2 ^ k : Nat) : Int) = 0 then 1 else 0 : Int) = if n = m then 1 else 0) := fun n hn => by
    by_cases e : n = m
    · subst e; rw [if_pos rfl, Int.sub_self, Int.zero_emod, if_pos rfl]
    · rw [if_neg e, if_neg]
      intro h0
      obtain ⟨c, hc⟩ := Int.dvd_of_emod_eq_zero h0
      generalize ((2 ^ k : Nat)) = N at *
      rcases Int.lt_trichotomy c 0 with h1 | h1 | h1
      · have := Int.mul_le_mul_of_nonneg_left (show c ≤ -1 by omega) (show (0 : Int) ≤ N by omega)
        omega
      · rw [h1] at hc; omega
      · have := Int.mul_le_mul_of_nonneg_left (show 1 ≤ c by omega) (show (0 : Int) ≤ N by omega)
        omega
  unfold cv s2 dl
  simp only [sm, Int.add_zero]
  rw [sm_cut (n := xs.length) (by omega) (fun p hp => sm_none fun q _ => by rw [dg_out hp, Int.zero_mul, Int.zero_mul])]
  refine sm_congr fun p hp => ?_
  rw [sm_cut (n := ys.length) (by omega) (fun q hq => by rw [dg_out hq, Int.mul_zero, Int.zero_mul])]
  refine sm_congr fun q hq => ?_
  rw [key (p + q) (by omega)]
  by_cases e : p + q = m
  · rw [if_pos e, if_pos e, Int.mul_one]
  · rw [if_neg e, if_neg e, Int.mul_zero]

set_option maxRecDepth 100000 in
set_option maxHeartbeats 1000000 in
theorem sameInts_any (b1 b2 n c1 c2 : Nat) (f : Nat → Int) (w : World) (hn : n ≤ 2000) (h1 : Blk w b1 2 (I64 f n)) (h2 : Blk w b2 2 (I64 f n)) :
    Calls Takg.prog 81 #[.slice (some ⟨b1, 0, none⟩) n c1, .slice (some ⟨b2, 0, none⟩) n c2] w fun e w' => e = .returned (.bool true) ∧ Chg [] w w' := by
  have E1 := eql_nil 28 2 (some ⟨b1, 0, none⟩) n c1 Takg.underlying28
  have E2 := eql_nil 28 2 (some ⟨b2, 0, none⟩) n c2 Takg.underlying28
  go_enter Takg.func81, Takg.ntmps81
  go_wp2_with fail
  go_loopw [5] (fun x wr => ∃ i : Nat, x = .int .i64 i ∧ i ≤ n ∧ Blk wr b1 2 (I64 f n) ∧ Blk wr b2 2 (I64 f n) ∧ Chg [] w wr) (fun x _ => n - (intOf x).toNat)
  case atStart => exact ⟨0, rfl, by omega, h1, h2, Chg.refl [] w⟩
  case round =>
    clear h1 h2
    obtain ⟨i, rfl, hi, h1, h2, hc⟩ := hrel
    by_cases hlt : i < n
    · have k1 := h1.cell _ _ (I64_get _ n i hlt)
      have k2 := h2.cell _ _ (I64_get _ n i hlt)
      obtain ⟨u, hu⟩ : ∃ u, u = f i := ⟨_, rfl⟩
      rw [← hu] at k1 k2
      have huu : (u != u) = false := by simp
      clear hu
      go_wp2_with fail
      go_region
      go_wp2_with fail
      go_roundw
      case rel => exact ⟨i + 1, by go_num, by omega, h1.drew, h2.drew, hc.drew⟩
      case measure => simp [intOf]; omega
    · have hie : i = n := by omega
      subst hie
      go_wp2_with fail
      go_ret
      exact ⟨rfl, hc⟩
set_option maxRecDepth 100000 in
theorem sameInts_nil (w : World) :
    Calls Takg.prog 81 #[.slice none 0 0, .slice none 0 0] w fun e w' => e = .returned (.bool true) ∧ w' = w := by
  have E1 := eql_nil 28 2 none 0 0 Takg.underlying28
  go_enter Takg.func81, Takg.ntmps81
  go_wp2_with fail
  go_loop [5] (fun x => x = .int .i64 0) (fun _ => 0)
  case atStart => rfl
  case round =>
    obtain rfl := hrel
    go_wp2_with fail
    go_ret
    exact ⟨rfl, rfl⟩
end Cx
end Go.Proofs.Ygctak
