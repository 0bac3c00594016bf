/-
  Walks: accOf, gap, small, shadowedPart; finite, finiteC.
-/
import Derived.Test.YgctakHo4
namespace Go.Proofs.Ygctak
open Go.RowKit
set_option linter.unusedVariables false
set_option linter.unusedSimpArgs false
attribute [local go_sem ↓] Go.wp_at_zero Go.wp_at_succ
namespace Ac
open Fb Fl

/-- What the accumulator holds of a double. -/
def av (x : Nat) : Int := V x * 2 ^ 1074

set_option maxRecDepth 100000 in
theorem accOf_any (x : Nat) (w : World) (hf : Finite x) (hx : x < 2 ^ 64) :
    Calls Takg.prog 108 #[.float .f64 x] w fun e w' => e = .returned (.agg (W (av x)).toArray) ∧ Chg [] w w' := by
  go_enter Takg.func108, Takg.ntmps108
  go_upto_region 1 with (refine wpList_zeroAcc (by rfl) (by rfl) ?_; intro b1 w1 hb1 hk1 hc1)
  go_upto_region 2 with (refine wpList_zeroAcc (by rfl) (by rfl) ?_; intro b2 w2 hb2 hk2 hc2)
  have s1 := hc1.size
  have l1 := hk1.lt
  have n1 := hb1.out
  have n2 := hb2.out
  have hc : Chg [] w w2 := hc1.trans hc2
  have k1 := hc2.blk hk1 (by simp)
  have e12 : b1 ≠ b2 := by omega
  have g1 : w.heap.size ≤ b1 := by omega
  have g2 : w.heap.size ≤ b2 := by omega
  clear hc1 hc2 hk1 hb1 hb2 n1 n2 l1 s1
  have HA := hide (AddFloat_any b2 0 58 [] [] 0 x w2 hf hx (At.whole hk2))
  have hz : Hid (0 + V x * 2 ^ 1074 = av x) := by unfold Hid av; generalize (2 : Int) ^ 1074 = A; omega
  rw [hz.out] at HA
  clear hk2
  go_wp2_with fail
  refine HA.out.mono ?_
  rintro e w3 ⟨rfl, k2, hc3⟩
  have k13 := hc3.blk k1 (by simpa using e12)
  have hc' := hc.news hc3 (by simp; omega)
  clear hc hc3 k1 HA hz
  go_wp2_with (refine wpList_moveAcc (by rfl) _ (by rfl) (by rfl) _ _ (by rfl) (by rfl) b2 0 58 b1 0 58 [] [] [] [] (W 0) (av x) (by rfl) k2 (W_length _) (At.whole k13) (fun _ => by rfl) (fun _ => by rfl) ?_; intro w7 hk7 hc7)
  exact bodyPost_ret (results_row (by rfl) _ _ _ b1 0 (by rfl) (W (av x)) _ hk7.rangeAt Takg.underlying58 (by rfl) (by rw [W_length]; exact info58)) rfl ⟨rfl, hc'.news hc7 (by simp; omega)⟩

set_option exponentiation.threshold 5000 in
theorem fits_sub {a b : Int} (ha : a.natAbs ≤ 2 ^ 4200) (hb : b.natAbs ≤ 2 ^ 4200) : Fits (a - b) := by
  unfold Fits half
  have : (2 : Int) ^ 4351 = ((2 ^ 4200 * 2 ^ 151 : Nat) : Int) := by rw [← Nat.pow_add, Fl.ipow]
  rw [this]
  generalize 2 ^ 4200 = A at *
  have h2 : A * 4 ≤ A * 2 ^ 151 := Nat.mul_le_mul_left A (by decide)
  generalize A * 2 ^ 151 = B at *
  omega

set_option maxRecDepth 100000 in
theorem gap_any (x y : Int) (w : World) (hx : x.natAbs ≤ 2 ^ 4200) (hy : y.natAbs ≤ 2 ^ 4200) :
    Calls Takg.prog 110 #[.agg (W x).toArray, .agg (W y).toArray] w fun e w' => e = .returned (.agg (W ((x - y).natAbs : Int)).toArray) ∧ Chg [] w w' := by
  have HF := hide (fits_sub hx hy)
  clear hx hy
  go_enter Takg.func110, Takg.ntmps110
  go_wp2_with (first | (refine wpList_boxAcc (by rfl) (.tmp 0) (by rfl) x (by rfl) ?_; intro b1 w1 hb1 hk1 hc1) | (refine wpList_boxAcc (by rfl) (.tmp 1) (by rfl) y (by rfl) ?_; intro b2 w2 hb2 hk2 hc2) | (refine wpList_zeroAcc (by rfl) (by rfl) ?_; intro b3 w3 hb3 hk3 hc3))
  have s1 := hc1.size
  have s2 := hc2.size
  have l1 := hk1.lt
  have l2 := hk2.lt
  have n1 := hb1.out
  have n2 := hb2.out
  have n3 := hb3.out
  have hc : Chg [] w w3 := (hc1.trans hc2).trans hc3
  have k1 := hc3.blk (hc2.blk hk1 (by simp)) (by simp)
  have k2 := hc3.blk hk2 (by simp)
  have e12 : b1 ≠ b2 := by omega
  have e13 : b1 ≠ b3 := by omega
  have e23 : b2 ≠ b3 := by omega
  have g1 : w.heap.size ≤ b1 := by omega
  have g2 : w.heap.size ≤ b2 := by omega
  have g3 : w.heap.size ≤ b3 := by omega
  clear hc1 hc2 hc3 hk1 hk2 hb1 hb2 hb3 n1 n2 n3 l1 l2 s1 s2
  refine (Neg_any b2 0 58 [] [] y _ (At.whole k2)).mono ?_
  rintro e w4 ⟨rfl, k24, hc4⟩
  have k14 := hc4.blk k1 (by simpa using e12)
  have k34 := hc4.blk hk3 (by simpa using Ne.symm e23)
  have hc' := hc.news hc4 (by simp; omega)
  clear hc hc4 k1 k2 hk3
  go_wp2_with fail
  refine (Add_any b1 0 58 b2 0 58 [] [] [] [] x (-y) _ e12 (At.whole k14) k24).mono ?_
  rintro e w5 ⟨rfl, k15, hc5⟩
  have k35 := hc5.blk k34 (by simpa using Ne.symm e13)
  have hc5' := hc'.news hc5 (by simp; omega)
  clear hc' hc5 k14 k24 k34
  rw [show x + -y = x - y by omega] at k15
  go_wp2_with fail
  refine (Abs_any b1 0 58 [] [] (x - y) _ HF.out k15).mono ?_
  rintro e w6 ⟨rfl, k16, hc6⟩
  have k36 := hc6.blk k35 (by simpa using Ne.symm e13)
  have hc6' := hc5'.news hc6 (by simp; omega)
  clear hc5' hc6 k15 k35
  go_wp2_with (refine wpList_moveAcc (by rfl) _ (by rfl) (by rfl) _ _ (by rfl) (by rfl) b1 0 58 b3 0 58 [] [] [] [] (W 0) ((x - y).natAbs : Int) (by rfl) k16 (W_length _) (At.whole k36) (fun _ => by rfl) (fun _ => by rfl) ?_; intro w7 hk7 hc7)
  exact bodyPost_ret (results_row (by rfl) _ _ _ b3 0 (by rfl) (W ((x - y).natAbs : Int)) _ hk7.rangeAt Takg.underlying58 (by rfl) (by rw [W_length]; exact info58)) rfl ⟨rfl, hc6'.news hc7 (by simp; omega)⟩

theorem cmp_le (z y : Int) : decide (cmp z y ≤ 0) = decide (z ≤ y) := by
  unfold cmp
  split
  · rw [decide_eq_true (by omega), decide_eq_true (by omega)]
  · split
    · rw [decide_eq_true (by omega), decide_eq_true (by omega)]
    · rw [decide_eq_false (by omega), decide_eq_false (by omega)]
theorem fits_abs {x : Int} (hx : Fits x) (hxx : -half < x) : Fits (x.natAbs : Int) := by unfold Fits at *; omega

set_option maxRecDepth 100000 in
set_option maxHeartbeats 1000000 in
theorem small_any (x y : Int) (b o t : Nat) (p s : List Value) (w : World) (hx : Fits x) (hxx : -half < x) (hy : Fits y) (hb : At w b o t p (W y) s) :
    Calls Takg.prog 109 #[.agg (W x).toArray, .pointer (some ⟨b, o, none⟩)] w fun e w' => e = .returned (.bool (decide ((x.natAbs : Int) ≤ y))) ∧ Chg [] w w' := by
  have lb := hb.blk.lt
  have fz := hide (fits_abs hx hxx)
  rw [← cmp_le]
  obtain ⟨z, hz⟩ : ∃ z, z = (x.natAbs : Int) := ⟨_, rfl⟩
  have HAB := hide (fun b (W : World) h => Abs_any b 0 58 [] [] x W hx h)
  rw [← hz] at fz HAB ⊢
  have HCM := hide (fun b1 (W : World) h1 h2 => Cmp_any b1 0 58 b o t [] [] p s z y W fz.out hy h1 h2)
  obtain ⟨c, hc⟩ : ∃ c, c = cmp z y := ⟨_, rfl⟩
  rw [← hc] at HCM ⊢
  clear hz hc hx hxx fz
  go_enter Takg.func109, Takg.ntmps109
  go_wp2_with (refine wpList_boxAcc (by rfl) (.tmp 0) (by rfl) x (by rfl) ?_; intro b1 w1 hb1 hk1 hc1)
  have n1 := hb1.out
  have hb2 := hb.chg hc1 (by simp)
  clear hb hb1
  refine (HAB.out b1 _ (At.whole hk1)).mono ?_
  rintro e w2 ⟨rfl, k2, hc2⟩
  have hb3 := hb2.chg hc2 (by simp; omega)
  have hc := hc1.news hc2 (by simp; omega)
  clear hc1 hc2 hk1 hb2 n1
  go_wp2_with fail
  refine (HCM.out b1 _ k2 hb3).mono ?_
  rintro e w3 ⟨rfl, n, rfl⟩
  go_wp2_with fail
  go_ret
  exact ⟨rfl, hc.drewN n⟩

set_option maxRecDepth 100000 in
set_option maxHeartbeats 1000000 in
/-- shadowedPart, the bound's answer. -/
theorem shadowedPart_any (v : Nat) (E y : Int) (sc b o t : Nat) (p s : List Value) (w : World) (hv : Finite v) (hv2 : v < 2 ^ 64) (hs : sc ≤ 1900) (h1 : (av v * 2 ^ sc).natAbs ≤ 2 ^ 4200) (h2 : (E * 2 ^ 2148).natAbs ≤ 2 ^ 4200) (hy : Fits y) (hb : At w b o t p (W y) s)
    (hle : ((av v * 2 ^ sc - E * 2 ^ 2148).natAbs : Int) ≤ y) :
    Calls Takg.prog 72 #[.float .f64 v, .agg (W E).toArray, .int .i64 sc, .pointer (some ⟨b, o, none⟩)] w fun e w' => e = .returned (.bool true) ∧ Chg [] w w' := by
  have lb := hb.blk.lt
  have HO := hide (fun W : World => accOf_any v W hv hv2)
  obtain ⟨A, hA⟩ : ∃ A, A = av v * 2 ^ sc := ⟨_, rfl⟩
  obtain ⟨B, hB⟩ : ∃ B, B = E * 2 ^ 2148 := ⟨_, rfl⟩
  obtain ⟨D, hD⟩ : ∃ D, D = ((A - B).natAbs : Int) := ⟨_, rfl⟩
  rw [← hA] at h1 hle
  rw [← hB] at h2 hle
  rw [← hD] at hle
  have HG := hide (fun W : World => gap_any A B W h1 h2)
  rw [← hD] at HG
  have fD : Fits D ∧ -half < D := by
    have := fits_sub h1 h2
    unfold Fits at *
    have := half_pos
    omega
  have HS := hide (fun (W : World) h => small_any D y b o t p s W fD.1 fD.2 hy h)
  have hd : decide ((D.natAbs : Int) ≤ y) = true := decide_eq_true (by omega)
  rw [hd] at HS
  have SE := hide (fun b (W : World) h => Shl_any b 0 58 [] [] E 2148 W (by omega) h)
  have SA := hide (fun b (W : World) h => Shl_any b 0 58 [] [] (av v) sc W (by omega) h)
  rw [← hA] at SA
  rw [← hB] at SE
  have hw : IntKind.u16.wrap (sc : Int) = (sc : Int) := by rw [IntKind.wrap_u16]; omega
  generalize av v = a at *
  clear hA hB hD hle fD hd h1 h2 hv hv2 hy
  go_enter Takg.func72, Takg.ntmps72
  go_wp2_with (refine wpList_boxAcc (by rfl) (.tmp 1) (by rfl) E (by rfl) ?_; intro b1 w1 hb1 hk1 hc1)
  have g1 : w.heap.size ≤ b1 := by have := hb1.out; omega
  have hb2 := hb.chg hc1 (by simp)
  clear hb hb1
  refine (SE.out b1 _ (At.whole hk1)).mono ?_
  rintro e w2 ⟨rfl, k2, hc2⟩
  have hb3 := hb2.chg hc2 (by simp; omega)
  have hc := hc1.news hc2 (by simp; omega)
  clear hc1 hc2 hk1 hb2 SE
  go_wp2_with fail
  refine (HO.out _).mono ?_
  rintro e w3 ⟨rfl, hc3⟩
  have k3 := k2.chg hc3 (by simp)
  have hb4 := hb3.chg hc3 (by simp)
  have hc' := hc.trans hc3
  clear k2 hb3 hc hc3 HO
  go_wp2_with (refine wpList_newAcc (by rfl) (by rfl) (by rfl) (.tmp 9) _ (by rfl) a (by rfl) (fun _ => by rfl) (fun _ => by rfl) ?_; intro b5 w5 hb5 hk5 hc5)
  have k5 := k3.chg hc5 (by simp)
  have hb6 := hb4.chg hc5 (by simp)
  have hc6 := hc'.trans hc5
  have n15 : b1 ≠ b5 := by have := hb5.out; have := k3.blk.lt; omega
  have n05 : b ≠ b5 := by have := hb5.out; have := hb4.blk.lt; omega
  have g5 : w.heap.size ≤ b5 := by have := hb5.out; have := hc'.size; omega
  clear hb5 k3 hb4 hc' hc5
  refine (SA.out b5 _ (At.whole hk5)).mono ?_
  rintro e w6 ⟨rfl, k6, hc7⟩
  have k7 := k5.chg hc7 (by simpa using n15)
  have hb8 := hb6.chg hc7 (by simpa using n05)
  have hc8 := hc6.news hc7 (by simp; omega)
  clear hk5 k5 hb6 hc6 hc7 SA
  go_wp2_with (first | (refine wpList_loadAcc (by rfl) (.tmp 9) (by rfl) b5 0 58 [] [] A (by rfl) k6 ?_) | (refine wpList_loadAcc (by rfl) (.tmp 5) (by rfl) b1 0 58 [] [] B (by rfl) k7 ?_))
  refine (HG.out _).mono ?_
  rintro e w9 ⟨rfl, hc9⟩
  have hb9 := hb8.chg hc9 (by simp)
  have hc10 := hc8.trans hc9
  clear hb8 hc8 hc9 k6 k7 HG
  go_wp2_with fail
  refine (HS.out _ hb9).mono ?_
  rintro e w10 ⟨rfl, hc11⟩
  go_wp2_with fail
  go_ret
  exact ⟨rfl, hc10.trans hc11⟩

theorem finite_any (x : Nat) (w : World) (hf : Finite x) (hx : x < 2 ^ 64) :
    Calls Takg.prog 107 #[.float .f64 x] w fun e w' => e = .returned (.bool true) ∧ w' = w := by
  have HS := hide (Split64_any x w hx)
  have HF := hide hf
  clear hf
  go_enter Takg.func107, Takg.ntmps107
  go_wp2_with fail
  refine HS.out.mono ?_
  rintro e w' ⟨neg, man, exp, c, rfl, hsp, rfl⟩
  have hc : decide ((c : Int) ≤ 1) = true := by
    rcases hsp with ⟨rfl, _⟩ | ⟨rfl, _⟩ | ⟨_, _, _, hn⟩
    · rfl
    · rfl
    · exact absurd HF.out hn
  have hc' : (c : Int) ≤ 1 := of_decide_eq_true hc
  have hc2 : c ≤ 1 := by omega
  clear hsp hc hc'
  go_wp2_with fail
  go_ret
  exact ⟨by simp; omega, rfl⟩
theorem finiteC_any (x y : Nat) (w : World) (hf : Finite x) (hx : x < 2 ^ 64) (hg : Finite y) (hy : y < 2 ^ 64) :
    Calls Takg.prog 71 #[.complex .f64 x y] w fun e w' => e = .returned (.bool true) ∧ w' = w := by
  have H1 := hide (finite_any x w hf hx)
  have H2 := hide (finite_any y w hg hy)
  clear hf hg hx hy
  go_enter Takg.func71, Takg.ntmps71
  go_wp2_with fail
  refine H1.out.mono ?_
  rintro e w' ⟨rfl, rfl⟩
  go_wp2_with fail
  refine H2.out.mono ?_
  rintro e w' ⟨rfl, rfl⟩
  go_wp2_with fail
  go_ret
  exact ⟨rfl, rfl⟩
end Ac
end Go.Proofs.Ygctak
