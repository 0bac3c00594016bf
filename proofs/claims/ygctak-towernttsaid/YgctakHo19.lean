/-
  Walk: fft.Stage.
-/
import Derived.Test.YgctakHo18
namespace Go.Proofs.Ygctak
open Go.RowKit
set_option linter.unusedVariables false
set_option linter.unusedSimpArgs false
attribute [local go_sem ↓] Go.wp_at_zero Go.wp_at_succ
attribute [local go_sem] Fl.run_store_complex Fl.run_store_float
namespace Fr
open Ac Fl Sh Ex
open Ft (zst)

/-- A stage, the pairs below p done. -/
def zU (f : Nat → Nat × Nat) (r : Nat → Nat × Nat) (half p i : Nat) : Nat × Nat := if lo half i < p then zst f r half i else f i

theorem lo_mod (half i : Nat) (h0 : 0 < half) : lo half i % (2 * half) < half := by
  unfold lo
  have h3 := Nat.div_add_mod i (2 * half)
  have h4 := Nat.mod_lt i (show 0 < 2 * half by omega)
  split
  · assumption
  · rename_i h
    have : i - half = i % (2 * half) - half + 2 * half * (i / (2 * half)) := by omega
    rw [this, Nat.add_mul_mod_self_left, Nat.mod_eq_of_lt (by omega)]
    omega
theorem lo_le (half i : Nat) : lo half i ≤ i := by unfold lo; split <;> omega
theorem zU_next (f : Nat → Nat × Nat) (r : Nat → Nat × Nat) (half p : Nat) (h0 : 0 < half) (h : p % (2 * half) < half) (m : Nat) :
    (if m = p + half then csub (f p) (cmul (f (p + half)) (r (p % half))) else if m = p then cadd (f p) (cmul (f (p + half)) (r (p % half))) else zU f r half p m) = zU f r half (p + 1) m := by
  obtain ⟨m1, m2⟩ := pair_mod p half h0 h
  unfold zU
  by_cases e1 : m = p + half
  · subst e1
    rw [if_pos rfl, if_pos (by unfold lo; rw [if_neg m1]; omega)]
    unfold zst
    rw [if_neg m1, m2, show p + half - half = p by omega]
  · rw [if_neg e1]
    by_cases e2 : m = p
    · subst e2
      rw [if_pos rfl, if_pos (by unfold lo; rw [if_pos h]; omega)]
      unfold zst
      rw [if_pos h]
    · rw [if_neg e2]
      have : lo half m ≠ p := by
        unfold lo
        split
        · exact e2
        · intro e
          rename_i h2
          have := Nat.mod_le m (2 * half)
          omega
      by_cases e : lo half m < p
      · rw [if_pos e, if_pos (by omega)]
      · rw [if_neg e, if_neg (by omega)]
theorem zU_here (f : Nat → Nat × Nat) (r : Nat → Nat × Nat) (half p : Nat) (h0 : 0 < half) (h : p % (2 * half) < half) : zU f r half p p = f p ∧ zU f r half p (p + half) = f (p + half) := by
  obtain ⟨m1, m2⟩ := pair_mod p half h0 h
  unfold zU
  constructor
  · rw [if_neg (by unfold lo; rw [if_pos h]; omega)]
  · rw [if_neg (by unfold lo; rw [if_neg m1]; omega)]
theorem zU_gap (f : Nat → Nat × Nat) (r : Nat → Nat × Nat) (half c m : Nat) (h0 : 0 < half) : zU f r half (c * (2 * half) + half) m = zU f r half ((c + 1) * (2 * half)) m := by
  have h1 := lo_mod half m h0
  have h2 := Nat.div_add_mod (lo half m) (2 * half)
  unfold zU
  by_cases e : lo half m < c * (2 * half) + half
  · rw [if_pos e, if_pos (by rw [Nat.add_mul]; omega)]
  · rw [if_neg e, if_neg]
    intro e2
    have h3 : lo half m / (2 * half) < c + 1 := Nat.div_lt_of_lt_mul (by rw [Nat.mul_comm]; exact e2)
    have h4 : 2 * half * (lo half m / (2 * half)) ≤ c * (2 * half) := by rw [Nat.mul_comm]; exact Nat.mul_le_mul_right _ (by omega)
    omega

set_option maxRecDepth 100000 in
set_option maxHeartbeats 2000000 in
theorem Stage_any (b bt k t E F : Nat) (f : Nat → Nat × Nat) (T : List (Nat × Nat)) (w : World) (hk : k ≤ 10) (ht1 : 1 ≤ t) (htk : t ≤ k)
    (hT : T.length = 2 ^ (k - 1)) (hb : Blk w b 103 (C (Zl (2 ^ k) f))) (hbt : Blk w bt 103 (C T)) (hx : ∀ i, i < 2 ^ k → Fc E (f i)) (hTf : AllC F T) (hE : E + F + 2 ≤ 1023) (hne : b ≠ bt) :
    Calls Takg.prog 143 #[.slice (some ⟨b, 0, none⟩) (2 ^ k) (2 ^ k), .slice (some ⟨bt, 0, none⟩) (2 ^ (k - 1)) (2 ^ (k - 1)), .int .u8 t] w fun e w' =>
      e = .returned (.tuple #[]) ∧ Blk w' b 103 (C (Zl (2 ^ k) (zst f (fun j => T.getD (j * 2 ^ (k - t)) (0, 0)) (2 ^ (t - 1))))) ∧ Chg [b] w w' := by
  have hlev := fun W => level_any k W (by omega)
  have hfit := fun W => fits_any k W (by omega) hk
  have hn2 : 2 ^ k ≤ 1024 := Nat.le_trans (Nat.pow_le_pow_right (n := 2) (by omega) hk) (by decide)
  have hnn : 2 ^ k = 2 * 2 ^ (k - 1) := by rw [← Nat.pow_succ']; congr 1; omega
  have hhalf : 2 ^ k = 2 ^ (k - t) * (2 * 2 ^ (t - 1)) := by rw [← Nat.pow_succ', ← Nat.pow_add]; congr 1; omega
  have w1 := wrap64_pow (t - 1) (by omega)
  have w2 := wrap64_pow (k - t) (by omega)
  have p1 : 0 < 2 ^ (t - 1) := Nat.two_pow_pos _
  have p2 : 0 < 2 ^ (k - t) := Nat.two_pow_pos _
  obtain ⟨n, en⟩ : ∃ n, n = 2 ^ k := ⟨_, rfl⟩
  obtain ⟨h, eh⟩ : ∃ h, h = 2 ^ (k - 1) := ⟨_, rfl⟩
  obtain ⟨half, ef⟩ : ∃ h, h = 2 ^ (t - 1) := ⟨_, rfl⟩
  obtain ⟨step, es⟩ : ∃ h, h = 2 ^ (k - t) := ⟨_, rfl⟩
  rw [← en, ← eh] at hnn
  rw [← en, ← ef, ← es] at hhalf
  rw [← ef] at w1 p1
  rw [← es] at w2 p2
  rw [← en] at hn2 hlev hb hx hfit
  rw [← eh] at hT hfit
  rw [← en, ← eh, ← ef, ← es]
  obtain ⟨R, hR⟩ : ∃ R : Nat → Nat × Nat, R = fun j => T.getD (j * step) (0, 0) := ⟨_, rfl⟩
  rw [← hR]
  have HEND : Hid (Zl n (zU f R half n) = Zl n (zst f R half)) := Zl_congr fun i hi => by
    unfold zU
    rw [if_pos (Nat.lt_of_le_of_lt (lo_le half i) hi)]
  have H0 : Hid (Zl n (zU f R half 0) = Zl n f) := Zl_congr fun i hi => by unfold zU; rw [if_neg (by omega)]
  rw [← HEND.out]
  rw [← H0.out] at hb
  have HL := hide hlev
  have HFT := hide hfit
  have HNN := hide hnn
  have HHALF := hide hhalf
  have HT := hide hT
  have HW1 := hide w1
  have HW2 := hide w2
  have HR := hide hR
  have HX := hide hx
  clear hlev hfit hnn hhalf hT w1 w2 en eh ef es hR H0 HEND hx
  have hn3 : n ≤ 2 * h := by have := HNN.out; omega
  have hn4 : 2 * h ≤ n := by have := HNN.out; omega
  go_enter Takg.func143, Takg.ntmps143
  go_wp2_with fail
  refine (HL.out _).mono ?_
  rintro e w' ⟨rfl, rfl⟩
  go_wp2_with fail
  refine (HFT.out _).mono ?_
  rintro e w' ⟨rfl, rfl⟩
  go_upto_region 2 with fail
  go_cut [7, 8] (fun x y wc => x = .int .i64 half ∧ y = .int .i64 step ∧ Blk wc b 103 (C (Zl n (zU f R half 0))) ∧ Blk wc bt 103 (C T) ∧ Chg [b] w' wc)
  case first =>
    have q1 : IntKind.u8.wrap ((t : Int) - 1) = (t : Int) - 1 := by rw [IntKind.wrap_u8]; omega
    have q2 : IntKind.i64.wrap ((k : Int) - (t : Int)) = (k : Int) - (t : Int) := by rw [IntKind.wrap_i64]; omega
    go_region
    go_wp2_with fail
    go_meet
    refine ⟨?_, ?_, hb.drew, hbt.drew, (Chg.refl [b] _).drew⟩
    · rw [HW1.out]
    · rw [HW2.out]
  case rest =>
    clear hb hbt
    obtain ⟨rfl, rfl, hb0, hbt0, hc0⟩ := hcut
    have hhs : Hid (half * step = h) := by
      have h1 := HNN.out; have h2 := HHALF.out
      have h3 : step * (2 * half) = 2 * (half * step) := by rw [Nat.mul_comm half, ← Nat.mul_assoc, Nat.mul_comm step 2, Nat.mul_assoc]
      unfold Hid; omega
    go_wp2_with fail
    go_loopw [9] (fun v wr => ∃ c s : Nat, v = .int .i64 s ∧ Hid (s = c * (2 * half)) ∧ s ≤ n ∧ Blk wr b 103 (C (Zl n (zU f R half s))) ∧ Blk wr bt 103 (C T) ∧ Chg [b] w' wr) (fun v _ => n - (intOf v).toNat)
    case atStart => exact ⟨0, 0, rfl, by unfold Hid; omega, by omega, hb0, hbt0, hc0⟩
    case round =>
      clear hb0 hbt0 hc0
      obtain ⟨c, s, rfl, HS, hsn, hbr, hbtr, hcr⟩ := hrel
      by_cases hsl : s < n
      · have hfit2 : s + 2 * half ≤ n := by
          have h1 := HS.out; have h2 := HHALF.out
          have h3 : c < step := by
            rcases Nat.lt_or_ge c step with h | h
            · exact h
            · have := Nat.mul_le_mul_right (2 * half) h; omega
          have := Nat.mul_le_mul_right (2 * half) (show c + 1 ≤ step by omega)
          rw [Nat.add_mul] at this
          omega
        go_wp2_with fail
        go_loopw [10] (fun v wr => ∃ j : Nat, v = .int .i64 j ∧ j ≤ half ∧ Blk wr b 103 (C (Zl n (zU f R half (s + j)))) ∧ Blk wr bt 103 (C T) ∧ Chg [b] w' wr) (fun v _ => half - (intOf v).toNat)
        case atStart => exact ⟨0, rfl, by omega, hbr, hbtr, hcr⟩
        case round =>
          clear hbr hbtr hcr
          obtain ⟨j, rfl, hj, hbr, hbtr, hcr⟩ := hrel
          by_cases hjl : j < half
          · have hmod : (s + j) % (2 * half) < half := by
              rw [HS.out, Nat.mul_comm c, Nat.mul_add_mod, Nat.mod_eq_of_lt (by omega)]; exact hjl
            have hmod2 : (s + j) % half = j := by
              rw [HS.out, show c * (2 * half) = half * (c * 2) by rw [Nat.mul_comm 2 half, ← Nat.mul_assoc, Nat.mul_comm c half, Nat.mul_assoc], Nat.mul_add_mod, Nat.mod_eq_of_lt hjl]
            obtain ⟨g1, g2⟩ := zU_here f R half (s + j) p1 hmod
            have hnext : Zl n _ = Zl n _ := Zl_congr fun m hm => zU_next f R half (s + j) p1 hmod m
            rw [hmod2] at hnext
            have hjs : j * step < h := by
              have := Nat.mul_le_mul_right step (show j + 1 ≤ half by omega)
              rw [Nat.add_mul, hhs.out] at this; omega
            have c1 := Zl_cell hbr (s + j) (by omega)
            have c2 := Zl_cell hbr (s + j + half) (by omega)
            rw [g1] at c1
            rw [g2] at c2
            have hTh := HT.out
            have c3 : wr.cell? ⟨bt, j * step, none⟩ = some (.complex .f64 (R j).1 (R j).2) := by rw [HR.out]; exact hbtr.cell _ _ (C_get _ _ (by omega))
            have ap1 := HX.out (s + j) (by omega)
            have aq1 := HX.out (s + j + half) (by omega)
            have hrf : Fc F (R j) := by rw [HR.out]; exact hTf.get _ (by omega)
            obtain ⟨pp, hpp⟩ : ∃ z, z = f (s + j) := ⟨_, rfl⟩
            obtain ⟨pq, hpq⟩ : ∃ z, z = f (s + j + half) := ⟨_, rfl⟩
            obtain ⟨r, hr⟩ : ∃ z, z = R j := ⟨_, rfl⟩
            rw [← hpp] at c1 ap1 hnext
            rw [← hpq] at c2 aq1 hnext
            rw [← hr] at c3 hrf hnext
            obtain ⟨hm1, hmf⟩ := cmul_fin aq1 hrf (by omega)
            obtain ⟨za, hza⟩ : ∃ z, z = cadd pp (cmul pq r) := ⟨_, rfl⟩
            obtain ⟨zb, hzb⟩ : ∃ z, z = csub pp (cmul pq r) := ⟨_, rfl⟩
            have ha1 := (cadd_fin (ap1.mono (show E ≤ E + F + 1 by omega)) hmf (by omega)).1
            have hb1 := (csub_fin (ap1.mono (show E ≤ E + F + 1 by omega)) hmf (by omega)).1
            rw [← hza] at ha1 hnext
            rw [← hzb] at hb1 hnext
            obtain ⟨zm, hzm⟩ : ∃ z, z = cmul pq r := ⟨_, rfl⟩
            rw [← hzm] at hm1 ha1 hb1
            have R1 := fun w => run_complex_sum (P := Takg.prog) w .add (Or.inl rfl) 103 .f64 pp.1 pp.2 zm.1 zm.2 za.1 za.2 ha1
            have R2 := fun w => run_complex_sum (P := Takg.prog) w .sub (Or.inr rfl) 103 .f64 pp.1 pp.2 zm.1 zm.2 zb.1 zb.2 hb1
            have HM := hide hm1
            have HNX := hide hnext
            have hI0 : (0 : Int) ≤ (j : Int) * (step : Int) := by rw [← Int.natCast_mul]; omega
            have hI1 : (j : Int) * (step : Int) < (h : Int) := by rw [← Int.natCast_mul]; omega
            clear hm1 hnext ha1 hb1 hza hzb hzm hmf hpp hpq hr hTh g1 g2 hmod hmod2 ap1 aq1 hrf
            go_upto_region 10 with fail
            go_cut [13, 14] (fun va vb w1 => va = .complex .f64 pp.1 pp.2 ∧ vb = .complex .f64 zm.1 zm.2 ∧ ∃ n, w1 = wr.drewN n)
            case first =>
              clear R1 R2
              go_quiet ((go_at_call 59; exact Calls.quiet_of_same (Mul_any _ _ _ _ zm.1 zm.2 _ HM.out)))
              go_wp2_with fail
              go_meet
              exact ⟨rfl, rfl, _, rfl⟩
            case rest =>
              obtain ⟨rfl, rfl, nq2, rfl⟩ := hcut
              have hbr := hbr.drewN nq2
              have hbtr := hbtr.drewN nq2
              have hcr := hcr.drewN nq2
              have c1 : (wr.drewN nq2).cell? ⟨b, s + j, none⟩ = _ := c1
              have c2 : (wr.drewN nq2).cell? ⟨b, s + j + half, none⟩ = _ := c2
              clear c3
              generalize wr.drewN nq2 = wd at *
              have f1 := hbr.frozen (s + j) none
              have f2 := hbr.frozen (s + j + half) none
              have V1 := Zl_setB (Zl_setB hbr (s + j) za) (s + j + half) zb
              rw [HNX.out] at V1
              have V2 := (hbtr.set_ne ⟨b, s + j, none⟩ (by simpa using Ne.symm hne) (.complex .f64 za.1 za.2)).set_ne ⟨b, s + j + half, none⟩ (by simpa using Ne.symm hne) (.complex .f64 zb.1 zb.2)
              have V3 := (hcr.setCell ⟨b, s + j, none⟩ (by simp) (.complex .f64 za.1 za.2)).setCell ⟨b, s + j + half, none⟩ (by simp) (.complex .f64 zb.1 zb.2)
              clear hbr hbtr hcr
              go_wp2_with fail
              go_roundw
              case rel => exact ⟨j + 1, by go_num, by omega, V1, V2, V3⟩
              case measure => simp [intOf]; omega
          · have hje : j = half := by omega
            subst hje
            have e1 : Zl n (zU f R j (s + j)) = Zl n (zU f R j (s + 2 * j)) := Zl_congr fun m hm => by
              have := zU_gap f R j c m p1
              rw [Nat.add_mul, Nat.one_mul, ← HS.out] at this
              exact this
            rw [e1] at hbr
            clear e1
            go_wp2_with fail
            go_roundw
            case rel => exact ⟨c + 1, s + 2 * j, by go_num, by unfold Hid; rw [Nat.add_mul, ← HS.out]; omega, by omega, hbr, hbtr, hcr⟩
            case measure => simp [intOf]; omega
      · have hse : s = n := by omega
        subst hse
        go_wp2_with fail
        go_end0
        exact ⟨rfl, hbr, hcr⟩
end Fr
end Go.Proofs.Ygctak
