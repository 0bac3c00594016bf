/-
  nat.Cmp.
-/
import Derived.Test.YgctakNa2
namespace Go.Proofs.Ygctak
open Go.RowKit
set_option linter.unusedVariables false
set_option linter.unusedSimpArgs false
attribute [local go_sem ↓] Go.wp_at_zero Go.wp_at_succ
namespace Na

def cmpN (x y : Nat) : Int := if x < y then -1 else if x = y then 0 else 1
theorem split_dgt (v i : Nat) : v / 256 ^ i = 256 * (v / 256 ^ (i + 1)) + dgt v i := by
  unfold dgt
  rw [Nat.pow_succ, ← Nat.div_div_eq_div_mul]
  exact (Nat.div_add_mod _ _).symm
theorem lt_of_div {x y : Nat} (n : Nat) (h : x / 256 ^ n < y / 256 ^ n) : x < y := by
  rcases Nat.lt_or_ge x y with h1 | h1
  · exact h1
  · have := Nat.div_le_div_right (c := 256 ^ n) h1
    omega
theorem dlen_mono {x y : Nat} (h : dlen x < dlen y) : x < y := by
  have hy : 0 < y := by
    rcases Nat.eq_zero_or_pos y with h0 | h0
    · subst h0; rw [dlen_zero] at h; omega
    · exact h0
  have h1 := dlen_lt x
  have h2 := dlen_ge hy
  have h3 : 256 ^ dlen x ≤ 256 ^ (dlen y - 1) := Nat.pow_le_pow_right (by decide) (by omega)
  omega

set_option maxHeartbeats 1000000 in
theorem Cmp_any (a1 a2 : Option Addr) (x y : Nat) (w : World) (l1 : dlen x ≤ 5000) (l2 : dlen y ≤ 5000) (h1 : Ent w a1 x) (h2 : Ent w a2 y) :
    Calls Takg.prog 96 #[.slice a1 (dlen x) (dlen x), .slice a2 (dlen y) (dlen y)] w fun e w' => e = .returned (.int .i8 (cmpN x y)) ∧ Chg [] w w' := by
  have t1 := trim_any a1 (dlen x) (dlen x) x w (by omega) (by omega) (dlen_lt x) h1.op
  have t2 := trim_any a2 (dlen y) (dlen y) y w (by omega) (by omega) (dlen_lt y) h2.op
  rw [h1.tr] at t1
  rw [h2.tr] at t2
  have T1 := hide t1
  have T2 := hide t2
  clear t1 t2
  obtain ⟨L, hL⟩ : ∃ L, L = dlen x := ⟨_, rfl⟩
  obtain ⟨M, hM⟩ : ∃ M, M = dlen y := ⟨_, rfl⟩
  have O1 := hide h1.op
  have O2 := hide h2.op
  have HLt : Hid (L < M → cmpN x y = -1) := fun h => by
    unfold cmpN; rw [if_pos (dlen_mono (by omega))]
  have HGt : Hid (M < L → cmpN x y = 1) := fun h => by
    have := dlen_mono (x := y) (y := x) (by omega)
    unfold cmpN; rw [if_neg (by omega), if_neg (by omega)]
  have HX : Hid (x / 256 ^ L = 0) := by unfold Hid; rw [hL]; exact Nat.div_eq_of_lt (dlen_lt x)
  have HY : Hid (y / 256 ^ M = 0) := by unfold Hid; rw [hM]; exact Nat.div_eq_of_lt (dlen_lt y)
  rw [← hL] at T1 O1 l1 ⊢
  rw [← hM] at T2 O2 l2 ⊢
  clear hL hM h1 h2
  obtain ⟨c, hc⟩ : ∃ c, c = cmpN x y := ⟨_, rfl⟩
  rw [← hc] at HLt HGt ⊢
  have HC := hide hc
  clear hc
  go_enter Takg.func96, Takg.ntmps96
  go_wp2_with fail
  refine T1.out.mono ?_
  rintro e w1 ⟨rfl, rfl⟩
  go_wp2_with fail
  refine T2.out.mono ?_
  rintro e w2 ⟨rfl, rfl⟩
  by_cases hLM : L = M
  · subst hLM
    go_wp2_with fail
    go_loopw [5] (fun v wr => ∃ i : Nat, v = .int .i64 ((i : Int) - 1) ∧ i ≤ L ∧ Hid (x / 256 ^ i = y / 256 ^ i) ∧ Chg [] w2 wr ∧ Op8 wr a1 L x ∧ Op8 wr a2 L y) (fun v _ => (intOf v + 1).toNat)
    case atStart => exact ⟨L, rfl, by omega, by unfold Hid; rw [HX.out, HY.out], Chg.refl _ _, O1.out, O2.out⟩
    case round =>
      obtain ⟨i, rfl, hi, HI, cw, o1, o2⟩ := hrel
      cases i with
      | zero =>
        rw [show ((0 : Nat) : Int) - 1 = -1 from rfl]
        have HE : Hid (c = 0) := by
          unfold Hid
          rw [HC.out]
          have := HI.out
          simp only [Nat.pow_zero, Nat.div_one] at this
          unfold cmpN
          rw [if_neg (by omega), if_pos this]
        go_wp2_with fail
        go_ret
        exact ⟨by rw [HE.out]; rfl, cw⟩
      | succ i =>
        rw [show ((i + 1 : Nat) : Int) - 1 = (i : Int) by omega]
        obtain ⟨b1, f1, rfl, r1⟩ : ∃ b off, a1 = some ⟨b, off, none⟩ ∧ Row8 wr b off L x := by
          rcases o1 with h | h
          · omega
          · exact h
        obtain ⟨b2, f2, rfl, r2⟩ : ∃ b off, a2 = some ⟨b, off, none⟩ ∧ Row8 wr b off L y := by
          rcases o2 with h | h
          · omega
          · exact h
        have c1 := r1.cell i (by omega)
        have c2 := r2.cell i (by omega)
        have s1 := split_dgt x i
        have s2 := split_dgt y i
        rw [HI.out] at s1
        have hlt : Hid (dgt x i < dgt y i → c = -1) := fun h => by
          rw [HC.out]; unfold cmpN; rw [if_pos (lt_of_div i (by omega))]
        have hgt : Hid (dgt y i < dgt x i → c = 1) := fun h => by
          have := lt_of_div (x := y) (y := x) i (by omega)
          rw [HC.out]; unfold cmpN; rw [if_neg (by omega), if_neg (by omega)]
        have heq : Hid (dgt x i = dgt y i → x / 256 ^ i = y / 256 ^ i) := fun h => by omega
        have o1' : Hid (Op8 wr (some ⟨b1, f1, none⟩) L x) := o1
        have o2' : Hid (Op8 wr (some ⟨b2, f2, none⟩) L y) := o2
        have z1 := dgt_lt x i
        have z2 := dgt_lt y i
        clear s1 s2 o1 o2 r1 r2
        obtain ⟨d1, e1⟩ : ∃ d, d = dgt x i := ⟨_, rfl⟩
        obtain ⟨d2, e2⟩ : ∃ d, d = dgt y i := ⟨_, rfl⟩
        rw [← e1] at c1 hlt hgt heq z1
        rw [← e2] at c2 hlt hgt heq z2
        clear e1 e2
        have hcf : ∀ n, (wr.drewN n).cell? ⟨b1, f1 + i, none⟩ = some (.int .u8 d1) ∧ (wr.drewN n).cell? ⟨b2, f2 + i, none⟩ = some (.int .u8 d2) := fun n => ⟨c1, c2⟩
        have HCF := hide hcf
        clear hcf
        go_upto_region 9 with fail
        go_cut [35] (fun v wc => v = .bool (decide (d1 < d2)) ∧ ∃ n, wc = wr.drewN n)
        case first =>
          go_quiet (fail)
          go_wp2_with fail
          go_meet
          exact ⟨rfl, _, rfl⟩
        case rest =>
          obtain ⟨rfl, nq, rfl⟩ := hcut
          have hc12 := HCF.out nq
          have cw2 := cw.drewN nq
          have p1 : Hid (Op8 (wr.drewN nq) (some ⟨b1, f1, none⟩) L x) := by
            rcases o1'.out with h | ⟨b, off, h1, h2⟩
            · exact .inl h
            · exact .inr ⟨b, off, h1, ⟨h2.lt, h2.cell⟩⟩
          have p2 : Hid (Op8 (wr.drewN nq) (some ⟨b2, f2, none⟩) L y) := by
            rcases o2'.out with h | ⟨b, off, h1, h2⟩
            · exact .inl h
            · exact .inr ⟨b, off, h1, ⟨h2.lt, h2.cell⟩⟩
          clear c1 c2 cw o1' o2' HCF
          obtain ⟨c1, c2⟩ := hc12
          generalize wr.drewN nq = wq at *
          by_cases q1 : d1 < d2
          · have hd : decide (d1 < d2) = true := decide_eq_true (by omega)
            have HE := hide (hlt.out q1)
            rw [hd]
            clear hd hlt hgt heq
            go_wp2_with fail
            go_ret
            exact ⟨by rw [HE.out]; rfl, cw2⟩
          · have hd : decide (d1 < d2) = false := decide_eq_false (by omega)
            rw [hd]
            clear hd
            have hcf : ∀ n, (wq.drewN n).cell? ⟨b1, f1 + i, none⟩ = some (.int .u8 d1) ∧ (wq.drewN n).cell? ⟨b2, f2 + i, none⟩ = some (.int .u8 d2) := fun n => ⟨c1, c2⟩
            have HCF := hide hcf
            clear hcf
            go_upto_region 11 with fail
            go_cut [44] (fun v wc => v = .bool (decide (d2 < d1)) ∧ ∃ n, wc = wq.drewN n)
            case first =>
              go_quiet (fail)
              go_wp2_with fail
              go_meet
              exact ⟨rfl, _, rfl⟩
            case rest =>
              obtain ⟨rfl, nq2, rfl⟩ := hcut
              have cw3 := cw2.drewN nq2
              have p3 : Op8 (wq.drewN nq2) (some ⟨b1, f1, none⟩) L x := by
                rcases p1.out with h | ⟨b, off, h1, h2⟩
                · exact .inl h
                · exact .inr ⟨b, off, h1, ⟨h2.lt, h2.cell⟩⟩
              have p4 : Op8 (wq.drewN nq2) (some ⟨b2, f2, none⟩) L y := by
                rcases p2.out with h | ⟨b, off, h1, h2⟩
                · exact .inl h
                · exact .inr ⟨b, off, h1, ⟨h2.lt, h2.cell⟩⟩
              clear c1 c2 cw2 p1 p2 HCF
              generalize wq.drewN nq2 = wz at *
              by_cases q2 : d2 < d1
              · have hd : decide (d2 < d1) = true := decide_eq_true (by omega)
                have HE := hide (hgt.out q2)
                rw [hd]
                clear hd hlt hgt heq
                go_wp2_with fail
                go_ret
                exact ⟨by rw [HE.out]; rfl, cw3⟩
              · have hd : decide (d2 < d1) = false := decide_eq_false (by omega)
                have HE := hide (heq.out (by omega))
                rw [hd]
                clear hd hlt hgt heq
                go_wp2_with fail
                go_roundw
                case rel => exact ⟨i, by go_num, by omega, HE, cw3, p3, p4⟩
                case measure => simp [intOf]
  · have hne : ((L : Int) == (M : Int)) = false := by rw [beq_eq_false_iff_ne]; omega
    have hne2 : ((L : Int) != (M : Int)) = true := by rw [bne, hne]; rfl
    by_cases hlt : L < M
    · have HE := hide (HLt.out hlt)
      have hd : decide ((L : Int) < (M : Int)) = true := decide_eq_true (by omega)
      go_wp2_with fail
      go_ret
      exact ⟨by rw [HE.out]; rfl, Chg.refl _ _⟩
    · have HE := hide (HGt.out (by omega))
      have hd : decide ((L : Int) < (M : Int)) = false := decide_eq_false (by omega)
      go_wp2_with fail
      go_ret
      exact ⟨by rw [HE.out]; rfl, Chg.refl _ _⟩
end Na
end Go.Proofs.Ygctak
