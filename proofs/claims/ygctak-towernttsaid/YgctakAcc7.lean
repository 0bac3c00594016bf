/-
  Walks: spread, joined.
-/
import Derived.Test.YgctakAcc6
namespace Go.Proofs.Ygctak
open Go.RowKit
set_option linter.unusedVariables false
set_option linter.unusedSimpArgs false
attribute [local go_sem ↓] Go.wp_at_zero Go.wp_at_succ
namespace Ac

theorem wpList_loadAcc {ops : Array Oper} {rest : List Oper} {o1 : Oper} {a : Act} {w : World} {Q : Exit → Act → World → Prop} (hg1 : o1.guard = none) (x : Operand) (ho1 : o1.op = .load 58 x)
    (b1 p1 t1 : Nat) (pre1 suf1 : List Value) (z : Int) (hx : a.eval x = .pointer (some ⟨b1, p1, none⟩)) (h1 : At w b1 p1 t1 pre1 (W z) suf1)
    (h : wpList Takg.prog ops Q rest (a.put o1.dst (.agg (W z).toArray)) w) : wpList Takg.prog ops Q (o1 :: rest) a w :=
  wpList_load_mid hg1 58 x ho1 b1 p1 hx (W z) _ h1.rangeAt Takg.underlying58 (by rfl) (by rw [W_length]; exact info58) h

theorem wpList_storeAcc {ops : Array Oper} {rest : List Oper} {o2 : Oper} {a : Act} {w : World} {Q : Exit → Act → World → Prop} (hg2 : o2.guard = none) (y v : Operand) (ho2 : o2.op = .store 58 y v) (hd2 : o2.dst = none)
    (b2 p2 t2 : Nat) (pre2 suf2 old : List Value) (z : Int) (hl : old.length = 68) (h2 : At w b2 p2 t2 pre2 old suf2)
    (hv : a.eval v = .agg (W z).toArray) (hy : a.eval y = .pointer (some ⟨b2, p2, none⟩))
    (h : ∀ w2, At w2 b2 p2 t2 pre2 (W z) suf2 → Chg [b2] w w2 → wpList Takg.prog ops Q rest a w2) : wpList Takg.prog ops Q (o2 :: rest) a w := by
  refine wpList_store_mid hg2 58 y v ho2 b2 p2 (W z).toArray hy hv (h2.there _ (by simp [W_length, hl])) (by rw [List.size_toArray, W_length]; exact info58) (Wd_one _) ?_
  rw [hd2]
  exact h _ (At.setCells (W z) _ _ _ _ h2 (by rw [W_length, hl])) (Chg.setCells b2 (by simp) (W z) p2 _ (Chg.refl _ _))

/-- spread, plainly. -/
def spr (x : Int) : Int := (x * 23171 + 16383) / 2 ^ 14

theorem half_big : (2 : Int) ^ 200 ≤ half := by
  unfold half
  rw [show 4351 = 200 + 4151 from rfl, Int.pow_add]
  have := pow_pos 4151
  have h2 := pow_pos 200
  generalize (2 : Int) ^ 4151 = B at *
  generalize (2 : Int) ^ 200 = A at *
  have : A * 1 ≤ A * B := Int.mul_le_mul_of_nonneg_left (by omega) (by omega)
  omega

set_option maxRecDepth 100000 in
set_option maxHeartbeats 1000000 in
theorem spread_any (x : Int) (w : World) (x0 : 0 ≤ x) (x1 : x ≤ 2 ^ 150) :
    Calls Takg.prog 68 #[.agg (W x).toArray] w fun e w' => e = .returned (.agg (W (spr x)).toArray) ∧ Chg [] w w' := by
  go_enter Takg.func68, Takg.ntmps68
  go_wp2_with (first | (refine wpList_boxAcc (by rfl) _ (by rfl) x (by rfl) ?_; intro b1 w1 hb1 hk1 hc1) | (refine wpList_zeroAcc (by rfl) (by rfl) ?_; intro b2 w2 hb2 hk2 hc2))
  have hk12 := hc2.blk hk1 (by simp)
  have hne : b1 ≠ b2 := by have := hk1.lt; have := hb2.out; omega
  have s1 := hc1.size
  have g1 : w.heap.size ≤ b1 := by have := hb1.out; omega
  have g2 : w.heap.size ≤ b2 := by have := hb2.out; omega
  have hc12 : Chg [] w w2 := hc1.trans hc2
  clear hk1 hc1 hc2 hb1 hb2
  refine (MulSmall_any b1 0 58 [] [] x 23171 _ (by omega) (by omega) (At.whole hk12)).mono ?_
  rintro e' w3 ⟨rfl, hk3, hc3⟩
  have hk23 := hc3.blk hk2 (by simpa using Ne.symm hne)
  have hc13 : Chg [] w w3 := hc12.news hc3 (by simp; omega)
  clear hk2 hk12 hc12 hc3
  go_wp2_with (first | (refine wpList_acc (by rfl) _ (by rfl) 16383 (by rfl) (by omega) (by omega) ?_) | (refine wpList_newAcc (by rfl) (by rfl) (by rfl) _ _ (by rfl) 16383 (by rfl) (fun _ => by rfl) (fun _ => by rfl) ?_; intro b4 w4 hb4 hk4 hc4))
  have hk34 := hk3.chg hc4 (by simp)
  have hk24 := hc4.blk hk23 (by simp)
  have h14 : b1 ≠ b4 := by have := hb4.out; have := hk3.blk.lt; omega
  refine (Add_any b1 0 58 b4 0 58 [] [] [] [] (x * 23171) 16383 _ h14 hk34 (At.whole hk4)).mono ?_
  rintro e' w5 ⟨rfl, hk5, hc5⟩
  have hk25 := hc5.blk hk24 (by simpa using Ne.symm hne)
  have hc15 : Chg [] w w5 := (hc13.trans hc4).news hc5 (by simp; omega)
  clear hk3 hk23 hk34 hk24 hk4 hc4 hc5 hc13 hb4
  go_wp2_with (refine wpList_loadAcc (by rfl) _ (by rfl) b1 0 58 [] [] (x * 23171 + 16383) (by rfl) hk5 ?_)
  have hbig := half_big
  have hx3 : x * 23171 + 16383 < half := by
    have e1 : (2 : Int) ^ 200 = 2 ^ 150 * 1125899906842624 := by rw [show (200 : Nat) = 150 + 50 from rfl, Int.pow_add]; rfl
    have := pow_pos 150
    generalize (2 : Int) ^ 150 = A at *
    omega
  refine (down_any (x * 23171 + 16383) 14 _ (by omega) hx3 (by omega) (by omega)).mono ?_
  rintro e' w6 ⟨rfl, hc6⟩
  have hk26 := hc6.blk hk25 (by simp)
  have hc16 : Chg [] w w6 := hc15.trans hc6
  clear hk25 hc15 hc6 hk5 hbig hx3
  go_wp2_with (refine wpList_storeAcc (by rfl) _ _ (by rfl) (by rfl) b2 0 58 [] [] (W 0) ((x * 23171 + 16383) / 2 ^ 14) (W_length _) (At.whole hk26) (by rfl) (by rfl) ?_; intro w7 hk7 hc7)
  exact bodyPost_ret (results_row (by rfl) _ _ _ b2 0 (by rfl) (W (spr x)) _ hk7.rangeAt Takg.underlying58 (by rfl) (by rw [W_length]; exact info58)) rfl ⟨rfl, hc16.news hc7 (by simp; omega)⟩
end Ac
end Go.Proofs.Ygctak
