/-
  Walks: shadow.Run.
-/
import Derived.Test.YgctakPt13
namespace Go.Proofs.Ygctak
open Go.RowKit
set_option linter.unusedVariables false
set_option linter.unusedSimpArgs false
attribute [local go_sem ↓] Go.wp_at_zero Go.wp_at_succ
attribute [local go_sem] Fl.run_store_complex Fl.run_store_float
namespace Sh
open Ac Fl

set_option maxRecDepth 100000 in
set_option maxHeartbeats 1000000 in
theorem Run_any (b1 o1 c1 b2 o2 c2 k d : Nat) (xa xb : List Int) (w : World) (hk0 : 1 ≤ k) (hk : k ≤ 10) (hd : d ≤ 255) (la : 1 ≤ xa.length) (lb : 1 ≤ xb.length) (la2 : xa.length ≤ 512) (lb2 : xb.length ≤ 512)
    (hfit : xa.length + xb.length ≤ 2 ^ k + 1) (hmin : k = 1 ∨ 2 ^ (k - 1) + 1 < xa.length + xb.length) (ga : Dig w b1 o1 xa) (gb : Dig w b2 o2 xb) (ha : Digs d xa) (hb : Digs d xb) :
    Calls Takg.prog 21 #[.slice (some ⟨b1, o1, none⟩) xa.length c1, .slice (some ⟨b2, o2, none⟩) xb.length c2, .int .u8 d] w fun e w' =>
      ∃ bx, e = .returned (.slice (some ⟨bx, 0, none⟩) (2 ^ k) (2 ^ k)) ∧ Blk w' bx 113 (Pts (shRun k d xa xb)) ∧ Chg [] w w' := by
  have hn2 : 2 ^ k ≤ 1024 := Nat.pow_le_pow_right (n := 2) (by omega) hk
  have hn1 : 1 ≤ 2 ^ k := Nat.pos_of_ne_zero (by simp)
  have HR := hide (run_any k d _ _ xa xb w hk0 hk hd ha hb (Laid.dig c1 _ hn1 hn2 (by omega) ga) (Laid.dig c2 _ hn1 hn2 (by omega) gb))
  have HA1 := hide (above_any b1 o1 c1 d xa w hd (by omega) ga ha)
  have HA2 := hide (above_any b2 o2 c2 d xb w hd (by omega) gb hb)
  have HP := hide (fun q (hq : q ≤ 62) => wrap64_pow q hq)
  have hlow : ∀ q, 1 ≤ q → q < k → 2 ^ q + 1 < xa.length + xb.length := fun q q1 q2 => by
    rcases hmin with h | h
    · omega
    · have : 2 ^ q ≤ 2 ^ (k - 1) := Nat.pow_le_pow_right (n := 2) (by omega) (by omega)
      omega
  have HLOW := hide hlow
  have HFIT := hide hfit
  clear hlow hmin hfit ga gb ha hb
  generalize shRun k d xa xb = X at *
  generalize 2 ^ k = n at HR hn2 hn1 ⊢
  generalize xa.length = A at *
  generalize xb.length = B at *
  have i1 : ((A : Int) == 0) = false := by rw [beq_eq_false_iff_ne]; omega
  have i2 : ((B : Int) == 0) = false := by rw [beq_eq_false_iff_ne]; omega
  have i3 : decide ((512 : Int) < (A : Int)) = false := decide_eq_false (by omega)
  have i4 : decide ((512 : Int) < (B : Int)) = false := decide_eq_false (by omega)
  go_enter Takg.func21, Takg.ntmps21
  go_wp2_with fail
  refine HA1.out.mono ?_
  rintro e1 w1 ⟨rfl, rfl⟩
  go_wp2_with fail
  refine HA2.out.mono ?_
  rintro e2 w2 ⟨rfl, rfl⟩
  clear i1 i2 i3 i4
  go_wp2_with fail
  go_loop [7] (fun v => ∃ q : Nat, v = .int .u8 q ∧ 1 ≤ q ∧ q ≤ k) (fun v => 20 - (intOf v).toNat)
  case atStart => exact ⟨1, rfl, by omega, by omega⟩
  case round =>
    obtain ⟨q, rfl, q1, q2⟩ := hrel
    have hw := HP.out q (by omega)
    have hsum : IntKind.i64.wrap ((A : Int) + (B : Int)) = (A : Int) + (B : Int) := by rw [IntKind.wrap_i64]; omega
    by_cases hlt : q < k
    · have hl := HLOW.out q q1 hlt
      generalize hqq : 2 ^ q = Q at *
      have hdec : decide (wrap64 (2 ^ q) < (A : Int) + (B : Int) - 1) = true := decide_eq_true (by rw [hw]; omega)
      clear hqq
      go_wp2_with fail
      go_round
      case rel => exact ⟨q + 1, by go_num, by omega, by omega⟩
      case measure => simp [intOf]; omega
    · have hqk : q = k := by omega
      have hl := HFIT.out
      rw [← hqk] at hl
      rw [← hqk] at HR
      generalize hqq : 2 ^ q = Q at *
      have hdec : decide (wrap64 (2 ^ q) < (A : Int) + (B : Int) - 1) = false := decide_eq_false (by rw [hw]; omega)
      clear hqk hqq
      go_wp2_with fail
      refine HR.out.mono ?_
      rintro e3 w3 ⟨bx, rfl, hkx, hc3⟩
      go_wp2_with fail
      go_ret
      exact ⟨bx, rfl, hkx, hc3⟩
end Sh
end Go.Proofs.Ygctak
