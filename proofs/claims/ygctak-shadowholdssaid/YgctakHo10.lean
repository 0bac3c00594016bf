/-
  Walk: accMul.
-/
import Derived.Test.YgctakHo5
namespace Go.Proofs.Ygctak
open Go.RowKit
set_option linter.unusedVariables false
set_option linter.unusedSimpArgs false
attribute [local go_sem ↓] Go.wp_at_zero Go.wp_at_succ
namespace Ac
open Fl

/-- The i-th half word. -/
def limb (m i : Nat) : Nat := m / 2 ^ (32 * i) % 4294967296
/-- What lies above, times its weight. -/
def above (m i : Nat) : Nat := m / 2 ^ (32 * i) * 2 ^ (32 * i)
theorem above_step (m i : Nat) : above m i = above m (i + 1) + limb m i * 2 ^ (32 * i) := by
  unfold above limb
  rw [Nat.mul_add, Nat.pow_add, ← Nat.div_div_eq_div_mul, show 2 ^ (32 * 1) = 4294967296 from rfl]
  have := Nat.div_add_mod (m / 2 ^ (32 * i)) 4294967296
  calc m / 2 ^ (32 * i) * 2 ^ (32 * i) = (4294967296 * (m / 2 ^ (32 * i) / 4294967296) + m / 2 ^ (32 * i) % 4294967296) * 2 ^ (32 * i) := by rw [this]
    _ = _ := by rw [Nat.add_mul, Nat.mul_comm 4294967296, Nat.mul_assoc, Nat.mul_comm (2 ^ (32 * i))]
theorem above_zero (m : Nat) : above m 0 = m := by simp [above]
theorem above_top (m i : Nat) (h : m < 2 ^ (32 * i)) : above m i = 0 := by
  unfold above
  rw [Nat.div_eq_of_lt h, Nat.zero_mul]
theorem limb_lt (m i : Nat) : limb m i < 4294967296 := Nat.mod_lt _ (by decide)
theorem word_limb (m i : Nat) : IntKind.u32.wrap (word (m : Int) (i / 2) / 2 ^ (32 * (i % 2))) = (limb m i : Int) := by
  have e1 : word (m : Int) (i / 2) = ((m / 2 ^ (64 * (i / 2)) % 18446744073709551616 : Nat) : Int) := by
    unfold word
    rw [← ipow, ← Int.natCast_ediv]
    rfl
  rw [e1, ← ipow, ← Int.natCast_ediv, IntKind.wrap_u32]
  unfold limb
  have e2 : m / 2 ^ (32 * i) = m / 2 ^ (64 * (i / 2)) / 2 ^ (32 * (i % 2)) := by
    rw [Nat.div_div_eq_div_mul, ← Nat.pow_add]; congr 2; omega
  rw [e2]
  generalize m / 2 ^ (64 * (i / 2)) = z
  rcases Nat.mod_two_eq_zero_or_one i with h | h
  · rw [h]; simp only [Nat.mul_zero, Nat.pow_zero, Nat.div_one]; omega
  · rw [h]
    show (((z % 18446744073709551616 / 4294967296 : Nat) : Int) % 4294967296) = ((z / 4294967296 % 4294967296 : Nat) : Int)
    omega

set_option exponentiation.threshold 5000 in
theorem fits_top {c : Int} (hf : Fits c) : above c.natAbs 136 = 0 := by
  have h1 := hf.1
  have h2 := hf.2
  have h3 := half_two
  have h5 : (0 : Int) < half := half_pos
  have h4 : (c.natAbs : Int) < 2 * half := by omega
  rw [h3, ← ipow] at h4
  exact above_top _ _ (Int.ofNat_lt.1 h4)

set_option maxRecDepth 100000 in
set_option maxHeartbeats 2000000 in
theorem accMul_any (a c : Int) (w : World) (hf : Fits c) :
    Calls Takg.prog 69 #[.agg (W a).toArray, .agg (W c).toArray] w fun e w' => e = .returned (.agg (W (a * c)).toArray) ∧ Chg [] w w' := by
  obtain ⟨m, hm⟩ : ∃ m, m = c.natAbs := ⟨_, rfl⟩
  have htop : Hid (above m 136 = 0) := by rw [hm]; exact fits_top hf
  obtain ⟨z, hz⟩ : ∃ z, z = a * c := ⟨_, rfl⟩
  have hend : Hid (z = if c < 0 then -(a * m) else a * m) := by
    unfold Hid
    rw [hz]
    split
    · rw [← Int.mul_neg]; congr 1; omega
    · congr 1; omega
  rw [← hz]
  have HM := hide hm
  have HF := hide hf
  clear hm hz hf
  go_enter Takg.func69, Takg.ntmps69
  go_upto_region 1 with (first | (refine wpList_boxAcc (by rfl) (.tmp 0) (by rfl) a (by rfl) ?_; intro ba wa hba hka hca) | (refine wpList_boxAcc (by rfl) (.tmp 1) (by rfl) c (by rfl) ?_; intro bc wc hbc hkc hcc) | (refine wpList_zeroAcc (by rfl) (by rfl) ?_; intro b4 w4 hb4 hk4 hc4))
  go_wp2_with (refine wpList_zeroAcc (by rfl) (by rfl) ?_; intro b5 w5 hb5 hk5 hc5)
  have lka := hka.lt
  have lkc := hkc.lt
  have lk4 := hk4.lt
  have lk5 := hk5.lt
  have sa := hca.size
  have sc := hcc.size
  have s4 := hc4.size
  have s5 := hc5.size
  have na : w.heap.size ≤ ba := by have := hba.out; omega
  have nc : w.heap.size ≤ bc := by have := hbc.out; omega
  have n4 : w.heap.size ≤ b4 := by have := hb4.out; omega
  have n5 : w.heap.size ≤ b5 := by have := hb5.out; omega
  have nac : ba ≠ bc := by have := hbc.out; omega
  have na4 : ba ≠ b4 := by have := hb4.out; omega
  have na5 : ba ≠ b5 := by have := hb5.out; omega
  have nc4 : bc ≠ b4 := by have := hb4.out; omega
  have nc5 : bc ≠ b5 := by have := hb5.out; omega
  have n45 : b4 ≠ b5 := by have := hb5.out; omega
  have k5a := hc5.blk (hc4.blk (hcc.blk hka (by simp)) (by simp)) (by simp)
  have k5c := hc5.blk (hc4.blk hkc (by simp)) (by simp)
  have k54 := hc5.blk hk4 (by simp)
  have cw5 : Chg [] w w5 := ((hca.trans hcc).trans hc4).trans hc5
  clear hka hkc hk4 hca hcc hc4 hc5 hba hbc hb4 hb5 lka lkc lk4 sa sc s4 s5
  refine (Sign_any bc 0 58 [] [] c _ HF.out (At.whole k5c)).mono ?_
  rintro e w' ⟨rfl, rfl⟩
  obtain ⟨neg, hneg⟩ : ∃ neg : Bool, neg = decide (sgn c < 0) := ⟨_, rfl⟩
  have hneg2 : Hid (neg = decide (c < 0)) := by
    unfold Hid
    rw [hneg]
    unfold sgn
    split
    · rename_i h; rw [decide_eq_true h, decide_eq_true (by omega)]
    · split
      · rw [decide_eq_false (by omega), decide_eq_false (by omega)]
      · rw [decide_eq_false (by omega), decide_eq_false (by omega)]
  go_upto_region 3 with fail
  rw [← hneg]
  clear hneg
  go_wp2_with fail
  refine (Abs_any bc 0 58 [] [] c _ HF.out (At.whole k5c)).mono ?_
  rintro e w6 ⟨rfl, k6c, hc6⟩
  have k6c := k6c.toBlk
  rw [← HM.out] at k6c
  have k6a := hc6.blk k5a (by simpa using nac)
  have k64 := hc6.blk k54 (by simpa using Ne.symm nc4)
  have k65 := hc6.blk hk5 (by simpa using Ne.symm nc5)
  have cw6 := cw5.news hc6 (by simp; omega)
  clear k5a k5c k54 hk5 hc6 cw5 HM lk5
  have k65 : Blk w6 b5 58 (W (a * (above m 136 : Nat))) := by rw [htop.out]; simpa using k65
  go_wp2_with fail
  go_loopw [7] (fun v wr => ∃ (i : Nat), v = .int .i64 ((i : Int) - 1) ∧ i ≤ 136 ∧ Blk wr ba 58 (W a) ∧ Blk wr bc 58 (W (m : Int)) ∧ Blk wr b4 58 (W 0) ∧ Blk wr b5 58 (W (a * (above m i : Nat))) ∧ Chg [] w wr) (fun v _ => (intOf v + 1).toNat)
  case atStart => exact ⟨136, rfl, by omega, k6a, k6c, k64, k65, cw6⟩
  case round =>
    clear k6a k6c k64 k65 cw6
    obtain ⟨i, rfl, hi, ka, kc, k4, k5, cw⟩ := hrel
    cases i with
    | zero =>
      rw [above_zero] at k5
      rw [show ((0 : Nat) : Int) - 1 = -1 from rfl]
      cases neg
      · have HE : Hid (a * (m : Int) = z) := by
          unfold Hid
          rw [hend.out, if_neg]
          exact of_decide_eq_false hneg2.out.symm
        rw [HE.out] at k5
        go_wp2_with (first | (refine wpList_loadAcc (by rfl) (.tmp 5) (by rfl) b5 0 58 [] [] z (by rfl) (At.whole k5) ?_) | (refine wpList_storeAcc (by rfl) (.tmp 4) (.tmp 38) (by rfl) (by rfl) b4 0 58 [] [] (W 0) z (W_length _) (At.whole k4) (by rfl) (by rfl) ?_; intro w7 hk7 hc7))
        exact bodyPost_ret (results_row (by rfl) _ _ _ b4 0 (by rfl) (W z) _ hk7.rangeAt Takg.underlying58 (by rfl) (by rw [W_length]; exact info58)) rfl ⟨rfl, cw.news hc7 (by simp; omega)⟩
      · have HE : Hid (-(a * (m : Int)) = z) := by
          unfold Hid
          rw [hend.out, if_pos]
          exact of_decide_eq_true hneg2.out.symm
        go_wp2_with fail
        refine (Neg_any b5 0 58 [] [] (a * m) _ (At.whole k5)).mono ?_
        rintro e w8 ⟨rfl, k58, hc8⟩
        rw [HE.out] at k58
        have k48 := hc8.blk k4 (by simpa using n45)
        have cw8 := cw.news hc8 (by simp; omega)
        clear cw hc8 k4 k5
        go_wp2_with (first | (refine wpList_loadAcc (by rfl) (.tmp 5) (by rfl) b5 0 58 [] [] z (by rfl) k58 ?_) | (refine wpList_storeAcc (by rfl) (.tmp 4) (.tmp 38) (by rfl) (by rfl) b4 0 58 [] [] (W 0) z (W_length _) (At.whole k48) (by rfl) (by rfl) ?_; intro w7 hk7 hc7))
        exact bodyPost_ret (results_row (by rfl) _ _ _ b4 0 (by rfl) (W z) _ hk7.rangeAt Takg.underlying58 (by rfl) (by rw [W_length]; exact info58)) rfl ⟨rfl, cw8.news hc7 (by simp; omega)⟩
    | succ i =>
      rw [show ((i + 1 : Nat) : Int) - 1 = (i : Int) by omega]
      have hl := word_limb m i
      obtain ⟨L, hL⟩ : ∃ L, L = limb m i := ⟨_, rfl⟩
      have hL1 : L < 4294967296 := by rw [hL]; exact limb_lt m i
      have hstep : Hid (a * ((above m (i + 1) : Nat) : Int) + a * L * 2 ^ (32 * i) = a * ((above m i : Nat) : Int)) := by
        unfold Hid
        rw [above_step m i, ← hL, Int.natCast_add, Int.natCast_mul, ipow, Int.mul_add, Int.mul_assoc]
      have hzero : Hid (L = 0 → above m (i + 1) = above m i) := fun h => by
        rw [above_step m i, ← hL, h]; simp
      rw [← hL] at hl
      have hX := kc.cell (i / 2) _ (Wd_get _ (i / 2) (by omega))
      have hXb := word_bd (m : Int) (i / 2)
      obtain ⟨X, hX0⟩ : ∃ X, X = word (m : Int) (i / 2) := ⟨_, rfl⟩
      rw [← hX0] at hl hX hXb
      obtain ⟨X0, X1⟩ := hXb
      obtain ⟨q, hq⟩ : ∃ q, q = i / 2 := ⟨_, rfl⟩
      have t1 : (i : Int).tdiv 2 = (q : Int) := by rw [Int.tdiv_eq_ediv_of_nonneg (by omega)]; omega
      rw [← hq] at hX
      have hq2 : q < 68 := by omega
      clear hX0 hL
      have i32 : IntKind.u16.wrap (32 * (i : Int)) = ((32 * i : Nat) : Int) := by rw [IntKind.wrap_u16]; omega
      go_upto_region 7 with fail
      go_cut [8] (fun v wc => v = .int .u32 L ∧ wr = wc)
      case first =>
        rcases Nat.mod_two_eq_zero_or_one i with h | h
        · have t2 : (i : Int).tmod 2 = 0 := by rw [Int.tmod_eq_emod_of_nonneg (by omega)]; omega
          rw [h, Nat.mul_zero] at hl
          simp only [Int.pow_zero, Int.ediv_one] at hl
          clear h hq
          go_wp2_with fail
          go_meet
          exact ⟨rfl, rfl⟩
        · have t2 : (i : Int).tmod 2 = 1 := by rw [Int.tmod_eq_emod_of_nonneg (by omega)]; omega
          rw [h] at hl
          have hl2 : X / 4294967296 = (L : Int) := by
            have : IntKind.u32.wrap (X / 4294967296) = (L : Int) := hl
            rw [IntKind.wrap_u32] at this
            omega
          clear h hq hl
          go_wp2_with fail
          go_meet
          exact ⟨rfl, rfl⟩
      case rest =>
        clear t1 hq hX hl
        obtain ⟨rfl, hww⟩ := hcut
        subst hww
        by_cases hL0 : L = 0
        · rw [hzero.out hL0] at k5
          subst hL0
          go_wp2_with fail
          go_roundw
          case rel => exact ⟨i, by go_num, by omega, ka, kc, k4, k5, cw⟩
          case measure => simp [intOf]
        · go_wp2_with (first | (refine wpList_loadAcc (by rfl) (.tmp 2) (by rfl) ba 0 58 [] [] a (by rfl) (At.whole ka) ?_) | (refine wpList_newAcc (by rfl) (by rfl) (by rfl) (.tmp 9) _ (by rfl) a (by rfl) (fun _ => by rfl) (fun _ => by rfl) ?_; intro b9 w9 hb9 hk9 hc9))
          have la := ka.lt
          have lc := kc.lt
          have l4 := k4.lt
          have l5 := k5.lt
          have swr := cw.size
          have n9 : wr.heap.size ≤ b9 := by have := hb9.out; omega
          have ka := hc9.blk ka (by simp)
          have kc := hc9.blk kc (by simp)
          have k4 := hc9.blk k4 (by simp)
          have k5 := hc9.blk k5 (by simp)
          have cw := cw.trans hc9
          clear hb9 hc9
          refine (MulSmall_any b9 0 58 [] [] a L _ (by omega) (by omega) (At.whole hk9)).mono ?_
          rintro e w10 ⟨rfl, k9, hc10⟩
          have ka := hc10.blk ka (by simp; omega)
          have kc := hc10.blk kc (by simp; omega)
          have k4 := hc10.blk k4 (by simp; omega)
          have k5 := hc10.blk k5 (by simp; omega)
          have cw := cw.news hc10 (by simp; omega)
          clear hk9 hc10
          go_wp2_with fail
          refine (Shl_any b9 0 58 [] [] (a * L) (32 * i) _ (by omega) k9).mono ?_
          rintro e w11 ⟨rfl, k9', hc11⟩
          have ka := hc11.blk ka (by simp; omega)
          have kc := hc11.blk kc (by simp; omega)
          have k4 := hc11.blk k4 (by simp; omega)
          have k5 := hc11.blk k5 (by simp; omega)
          have cw := cw.news hc11 (by simp; omega)
          clear k9 hc11
          go_wp2_with fail
          refine (Add_any b5 0 58 b9 0 58 [] [] [] [] _ (a * L * 2 ^ (32 * i)) _ (by omega) (At.whole k5) k9').mono ?_
          rintro e w12 ⟨rfl, k5', hc12⟩
          rw [hstep.out] at k5'
          have ka := hc12.blk ka (by simpa using na5)
          have kc := hc12.blk kc (by simpa using nc5)
          have k4 := hc12.blk k4 (by simpa using n45)
          have cw := cw.news hc12 (by simp; omega)
          have k5 := k5'.toBlk
          clear k5' k9' hc12
          go_wp2_with fail
          go_roundw
          case rel => exact ⟨i, by go_num, by omega, ka, kc, k4, k5, cw⟩
          case measure => simp [intOf]
end Ac
end Go.Proofs.Ygctak
