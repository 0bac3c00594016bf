/-
  Walk: exactStage.
-/
import Derived.Test.YgctakHo8
namespace Go.Proofs.Ygctak
open Go.RowKit
set_option linter.unusedVariables false
set_option linter.unusedSimpArgs false
attribute [local go_sem ↓] Go.wp_at_zero Go.wp_at_succ
attribute [local go_sem] Fl.neg_run
namespace Ex
open Ac Fl Sh

theorem and_half (p u : Nat) : (p &&& 2 ^ u = 0) ↔ p % (2 * 2 ^ u) < 2 ^ u := by
  have hp : 0 < 2 ^ u := Nat.two_pow_pos u
  have h1 := Nat.mod_lt p hp
  have h2 : (p &&& 2 ^ u = 0) ↔ p.testBit u = false := by
    constructor
    · intro h
      have := congrArg (fun z => z.testBit u) h
      simp only [Nat.testBit_and, Nat.testBit_two_pow_self, Bool.and_true, Nat.zero_testBit] at this
      exact this
    · intro h
      apply Nat.eq_of_testBit_eq
      intro i
      rw [Nat.testBit_and, Nat.testBit_two_pow, Nat.zero_testBit]
      by_cases e : u = i
      · subst e; rw [h]; rfl
      · simp [e]
  rw [h2, Nat.mul_comm 2, Nat.mod_mul, Nat.testBit_eq_decide_div_mod_eq]
  rcases Nat.mod_two_eq_zero_or_one (p / 2 ^ u) with h | h
  · rw [h]; simp [h1]
  · rw [h]; simp

theorem gs (y : List Q) (i : Nat) (p : Q) (h : i < y.length) : (y.set i p).getD i q0 = p := by rw [qget_set _ _ _ _ h, if_pos rfl]
theorem gs2 (y : List Q) (i j : Nat) (p s : Q) (h : i < y.length) (hne : i ≠ j) : ((y.set i p).set j s).getD i q0 = p := by
  rw [qget_set _ _ _ _ (by rw [List.length_set]; exact h), if_neg (Ne.symm hne), gs _ _ _ h]
theorem ss2 (y : List Q) (i j : Nat) (p s p' : Q) (hne : i ≠ j) : ((y.set i p).set j s).set i p' = (y.set i p').set j s := by
  rw [List.set_comm _ _ (Ne.symm hne), List.set_set]

theorem shlA (b t i n : Nat) (y : List Q) (c d : Int) (w : World) (hi : i < y.length) (hn : n ≤ 65535) (hg : y.getD i q0 = (c, d)) (hB : Blk w b t (Cs y)) :
    Calls Takg.prog 30 #[.pointer (some ⟨b, i * 136, none⟩), .int .u16 n] w fun e w' => e = .returned (.tuple #[]) ∧ Blk w' b t (Cs (y.set i (c * 2 ^ n, d))) ∧ Chg [b] w w' := by
  have := rowShl b t i n y w hi hn hB
  rw [hg] at this; exact this
theorem shlB (b t i n : Nat) (y : List Q) (c d : Int) (w : World) (hi : i < y.length) (hn : n ≤ 65535) (hg : y.getD i q0 = (c, d)) (hB : Blk w b t (Cs y)) :
    Calls Takg.prog 30 #[.pointer (some ⟨b, i * 136 + 68, none⟩), .int .u16 n] w fun e w' => e = .returned (.tuple #[]) ∧ Blk w' b t (Cs (y.set i (c, d * 2 ^ n))) ∧ Chg [b] w w' := by
  have := rowShlI b t i n y w hi hn hB
  rw [hg] at this; exact this
theorem addA (b t i b2 : Nat) (v : Int) (y : List Q) (c d : Int) (w : World) (hi : i < y.length) (hne : b ≠ b2) (h2 : Blk w b2 58 (W v)) (hg : y.getD i q0 = (c, d)) (hB : Blk w b t (Cs y)) :
    Calls Takg.prog 66 #[.pointer (some ⟨b, i * 136, none⟩), .pointer (some ⟨b2, 0, none⟩)] w fun e w' => e = .returned (.tuple #[]) ∧ Blk w' b t (Cs (y.set i (c + v, d))) ∧ Chg [b] w w' := by
  have := rowAdd b t i b2 v y w hi hne h2 hB
  rw [hg] at this; exact this
theorem addB (b t i b2 : Nat) (v : Int) (y : List Q) (c d : Int) (w : World) (hi : i < y.length) (hne : b ≠ b2) (h2 : Blk w b2 58 (W v)) (hg : y.getD i q0 = (c, d)) (hB : Blk w b t (Cs y)) :
    Calls Takg.prog 66 #[.pointer (some ⟨b, i * 136 + 68, none⟩), .pointer (some ⟨b2, 0, none⟩)] w fun e w' => e = .returned (.tuple #[]) ∧ Blk w' b t (Cs (y.set i (c, d + v))) ∧ Chg [b] w w' := by
  have := rowAddI b t i b2 v y w hi hne h2 hB
  rw [hg] at this; exact this

theorem wpList_loadCc {ops : Array Oper} {rest : List Oper} {o1 : Oper} {a : Act} {w : World} {Q' : Exit → Act → World → Prop} (hg1 : o1.guard = none) (x : Operand) (ho1 : o1.op = .load 119 x)
    (b1 p1 t1 : Nat) (pre1 suf1 : List Value) (z : Q) (hx : a.eval x = .pointer (some ⟨b1, p1, none⟩)) (h1 : At w b1 p1 t1 pre1 (Cc z) suf1)
    (h : wpList Takg.prog ops Q' rest (a.put o1.dst (.agg (Cc z).toArray)) w) : wpList Takg.prog ops Q' (o1 :: rest) a w :=
  wpList_load_mid hg1 119 x ho1 b1 p1 hx (Cc z) _ h1.rangeAt Takg.underlying119 (by rfl) (by rw [Cc_length]; exact info119) h
theorem wpList_storeCc {ops : Array Oper} {rest : List Oper} {o2 : Oper} {a : Act} {w : World} {Q' : Exit → Act → World → Prop} (hg2 : o2.guard = none) (y v : Operand) (ho2 : o2.op = .store 119 y v) (hd2 : o2.dst = none)
    (b2 i t2 : Nat) (X : List Q) (hi : i < X.length) (z : Q) (h2 : Blk w b2 t2 (Cs X))
    (hv : a.eval v = .agg (Cc z).toArray) (hy : a.eval y = .pointer (some ⟨b2, i * 136, none⟩))
    (h : ∀ w2, Blk w2 b2 t2 (Cs (X.set i z)) → Chg [b2] w w2 → wpList Takg.prog ops Q' rest a w2) : wpList Takg.prog ops Q' (o2 :: rest) a w := by
  have hc := ce h2 i hi
  refine wpList_store_mid hg2 119 y v ho2 b2 (i * 136) (Cc z).toArray hy hv (hc.there _ (by simp [Cc_length])) (by rw [List.size_toArray, Cc_length]; exact info119) (Cc_one _) ?_
  rw [hd2]
  exact h _ (unce i hi (At.setCells (Cc z) _ _ _ _ hc (by rw [Cc_length, Cc_length]))) (Chg.setCells b2 (by simp) (Cc z) (i * 136) _ (Chg.refl _ _))

set_option maxRecDepth 100000 in
set_option maxHeartbeats 4000000 in
theorem exactStage_any (b bt k t : Nat) (x : List Q) (T : List (Nat × Nat)) (r : Nat → Q) (w : World) (hk : k ≤ 10) (ht1 : 1 ≤ t) (htk : t ≤ k)
    (hn : x.length = 2 ^ k) (hT : T.length = 2 ^ (k - 1)) (hb : Blk w b 119 (Cs x)) (hbt : Blk w bt 103 (C T)) (hne : b ≠ bt)
    (hr : ∀ j, j < 2 ^ (t - 1) → Rp (T.getD (j * 2 ^ (k - t)) (0, 0)).1 (r j).1 ∧ Rp (T.getD (j * 2 ^ (k - t)) (0, 0)).2 (r j).2 ∧ Rp (fneg (T.getD (j * 2 ^ (k - t)) (0, 0)).2) (-(r j).2)) :
    Calls Takg.prog 64 #[.slice (some ⟨b, 0, none⟩) (2 ^ k) (2 ^ k), .slice (some ⟨bt, 0, none⟩) (2 ^ (k - 1)) (2 ^ (k - 1)), .int .u8 t] w fun e w' =>
      e = .returned (.bool true) ∧ Blk w' b 119 (Cs (esL x r (2 ^ (t - 1)))) ∧ Chg [b] w w' := by
  have hn2 : 2 ^ k ≤ 1024 := Nat.pow_le_pow_right (n := 2) (by omega) hk
  have hhalf : 2 ^ k = 2 * 2 ^ (t - 1) * 2 ^ (k - t) := by rw [← Nat.pow_succ', ← Nat.pow_add]; congr 1; omega
  have hhs : 2 ^ (k - 1) = 2 ^ (t - 1) * 2 ^ (k - t) := by rw [← Nat.pow_add]; congr 1; omega
  have hdiv : 2 ^ k / (2 * 2 ^ (t - 1)) = 2 ^ (k - t) := by rw [hhalf, Nat.mul_div_cancel_left]; have := Nat.two_pow_pos (t - 1); omega
  have w1 := wrap64_pow (t - 1) (by omega)
  have p1 : 0 < 2 ^ (t - 1) := Nat.two_pow_pos _
  have p2 : 0 < 2 ^ (k - t) := Nat.two_pow_pos _
  have hand := fun p => and_half p (t - 1)
  have hmod : ∀ p, p &&& (2 ^ (t - 1) - 1) = p % 2 ^ (t - 1) := fun p => Nat.and_two_pow_sub_one_eq_mod p (t - 1)
  have hblk : ∀ p, p % (2 * 2 ^ (t - 1)) < 2 ^ (t - 1) → p < 2 ^ k → p + 2 ^ (t - 1) < 2 ^ k := fun p hp hl => by
    rw [hhalf] at hl ⊢
    have h1 := Nat.div_add_mod p (2 * 2 ^ (t - 1))
    have h2 : p / (2 * 2 ^ (t - 1)) < 2 ^ (k - t) := Nat.div_lt_of_lt_mul hl
    have h3 : 2 * 2 ^ (t - 1) * (p / (2 * 2 ^ (t - 1)) + 1) ≤ 2 * 2 ^ (t - 1) * 2 ^ (k - t) := Nat.mul_le_mul_left _ h2
    rw [Nat.mul_add] at h3
    omega
  obtain ⟨n, en⟩ : ∃ n, n = 2 ^ k := ⟨_, rfl⟩
  obtain ⟨N, eN⟩ : ∃ h, h = 2 ^ (k - 1) := ⟨_, rfl⟩
  obtain ⟨h, ef⟩ : ∃ h, h = 2 ^ (t - 1) := ⟨_, rfl⟩
  obtain ⟨st, es⟩ : ∃ h, h = 2 ^ (k - t) := ⟨_, rfl⟩
  rw [← ef] at hhalf hhs hdiv w1 p1 hand hmod hblk hr
  rw [← es] at hhalf hhs hdiv p2 hr
  rw [← en] at hn2 hhalf hdiv hn hblk
  rw [← eN] at hhs hT
  rw [← en, ← eN, ← ef]
  have hqd : (n : Int).tdiv (2 * (h : Int)) = (st : Int) := by
    have : (2 : Int) * h = ((2 * h : Nat) : Int) := by omega
    rw [this, Int.tdiv_eq_ediv_of_nonneg (by omega), ← Int.natCast_ediv, hdiv]
  have hhn : 2 * h ≤ n := by rw [hhalf]; exact Nat.le_mul_of_pos_right _ p2
  have hstn : st ≤ n := by rw [hhalf]; exact Nat.le_mul_of_pos_left _ (by omega)
  have HN := hide hn
  have HT := hide hT
  have HHS := hide hhs
  have HAND := hide hand
  have HMOD := hide hmod
  have HB := hide hblk
  have HR := hide hr
  have HN2 : Hid (N ≤ 1024) := by unfold Hid; rw [eN]; exact Nat.le_trans (Nat.pow_le_pow_right (n := 2) (by omega) (show k - 1 ≤ 10 by omega)) (by decide)
  clear hhalf hn hT hhs hand hmod hblk hr hdiv en eN ef es
  have hNn : N ≤ 1024 := HN2.out
  go_enter Takg.func64, Takg.ntmps64
  have q1 : IntKind.u8.wrap ((t : Int) - 1) = (t : Int) - 1 := by rw [IntKind.wrap_u8]; omega
  go_upto_region 3 with fail
  rw [w1]
  clear w1 hqd q1
  go_wp2_with fail
  go_loopw [9] (fun v wr => ∃ p : Nat, v = .int .i64 p ∧ p ≤ n ∧ Blk wr b 119 (Cs (esU x r h p)) ∧ Blk wr bt 103 (C T) ∧ Chg [b] w wr) (fun v _ => n - (intOf v).toNat)
  case atStart => exact ⟨0, rfl, by omega, by rw [esU_zero]; exact hb, hbt, Chg.refl _ _⟩
  case round =>
    clear hb hbt
    obtain ⟨p, rfl, hp, hbr, hbtr, hcr⟩ := hrel
    by_cases hpn : p < n
    · by_cases hact : p % (2 * h) < h
      · have hz : bits .and .i64 (p : Int) (h : Int) = 0 := by rw [i64_and p h (by omega) (by omega), (HAND.out p).2 hact]; rfl
        have hm : bits .and .i64 (p : Int) ((h : Int) - 1) = ((p % h : Nat) : Int) := by
          rw [show (h : Int) - 1 = ((h - 1 : Nat) : Int) by omega, i64_and p (h - 1) (by omega) (by omega), HMOD.out]
        have hq := HB.out p hact hpn
        have hjl : p % h < h := Nat.mod_lt _ p1
        obtain ⟨j, ej⟩ : ∃ j, j = p % h := ⟨_, rfl⟩
        rw [← ej] at hm hjl
        have hjs : j * st < N := by
          have := Nat.mul_le_mul_right st (show j + 1 ≤ h by omega)
          rw [Nat.add_mul, ← HHS.out] at this; omega
        have hI0 : (0 : Int) ≤ (j : Int) * (st : Int) := by rw [← Int.natCast_mul]; omega
        have hI1 : (j : Int) * (st : Int) < (N : Int) := by rw [← Int.natCast_mul]; omega
        obtain ⟨⟨c1, c2⟩, hr0⟩ : ∃ z, z = T.getD (j * st) (0, 0) := ⟨_, rfl⟩
        obtain ⟨R1, R2, R3⟩ := HR.out j hjl
        rw [← hr0] at R1 R2 R3
        obtain ⟨⟨r1, r2⟩, hr1⟩ : ∃ z, z = r j := ⟨_, rfl⟩
        rw [← hr1] at R1 R2 R3
        dsimp only at R1 R2 R3
        have kr : wr.cell? ⟨bt, j * st, none⟩ = some (.complex .f64 c1 c2) := by
          have := hbtr.cell _ _ (C_get T (j * st) (by have := HT.out; omega))
          rw [← hr0] at this; exact this
        obtain ⟨g1, g2⟩ := esU_here x r h p p1 hact (by have := HN.out; omega)
        obtain ⟨⟨u1, u2⟩, hu⟩ : ∃ z, z = x.getD p q0 := ⟨_, rfl⟩
        obtain ⟨⟨v1, v2⟩, hv⟩ : ∃ z, z = x.getD (p + h) q0 := ⟨_, rfl⟩
        have hnext := esU_next x r h p p1 hact (by have := HN.out; omega)
        rw [← ej, ← hu, ← hv, ← hr1] at hnext
        rw [← hu] at g1
        rw [← hv] at g2
        obtain ⟨Y, hY⟩ : ∃ Y, Y = esU x r h p := ⟨_, rfl⟩
        have hYl : Y.length = n := by rw [hY, esU_length]; exact HN.out
        rw [← hY] at hbr g1 g2 hnext
        have HJ := hide ej
        have HNX := hide hnext
        have HG1 := hide g1
        have HG2 := hide g2
        have HYL := hide hYl
        have RR1 := hide R1
        have RR2 := hide R2
        have RR3 := hide R3
        clear ej hnext g1 g2 hYl R1 R2 R3 hr0 hr1 hu hv hY
        go_upto_region 9 with fail
        clear kr hI0 hI1 hz hm
        have lb := hbr.lt
        have lbt := hbtr.lt
        have yp : p < Y.length := by have := HYL.out; omega
        have yq : p + h < Y.length := by have := HYL.out; omega
        have a1 := cre hbr (p + h) yq
        rw [HG2.out] at a1
        go_wp2_with (refine wpList_loadAcc (by rfl) (.tmp 54) (by rfl) b ((p + h) * 136) 119 _ _ v1 (by rfl) a1 ?_)
        clear a1
        have gw0 := hcr.size
        have hb0 := hbr
        have hbt0 := hbtr
        have cw0 := hcr
        have sw0 := Nat.le_refl wr.heap.size
        clear hbr hbtr hcr
        refine (byRoot_any v1 c1 r1 _ RR1.out).mono ?_
        rintro e wa1 ⟨rfl, hca1⟩
        have ba1 := hca1.blk hb0 (by simp)
        have bta1 := hca1.blk hbt0 (by simp)
        have cwa1 := cw0.trans (hca1.mono (by simp))
        have swa1 := Nat.le_trans sw0 hca1.size
        clear hb0 hbt0 cw0 sw0 hca1
        go_upto_region 10 with (refine wpList_newAcc (by rfl) (by rfl) (by rfl) (.tmp 12) _ (by rfl) (v1 * r1) (by rfl) (fun _ => by rfl) (fun _ => by rfl) ?_; intro b1 w1 hx1 k1_1 hc1)
        have hb1 := hc1.blk ba1 (by simp)
        have hbt1 := hc1.blk bta1 (by simp)
        have cw1 := cwa1.trans (hc1.mono (by simp))
        have sw1 := Nat.le_trans swa1 hc1.size
        have g1 : wr.heap.size ≤ b1 := by have := hx1.out; omega
        clear ba1 bta1 cwa1 swa1 hc1 hx1
        have at1 := cim hb1 (p + h) yq
        rw [HG2.out] at at1
        go_wp2_with (refine wpList_loadAcc (by rfl) (.tmp 65) (by rfl) b ((p + h) * 136 + 68) 119 _ _ v2 (by rfl) at1 ?_)
        clear at1
        refine (byRoot_any v2 (fneg c2) (-r2) _ RR3.out).mono ?_
        rintro e wa2 ⟨rfl, hca2⟩
        have ba2 := hca2.blk hb1 (by simp)
        have bta2 := hca2.blk hbt1 (by simp)
        have cwa2 := cw1.trans (hca2.mono (by simp))
        have swa2 := Nat.le_trans sw1 hca2.size
        have ka1_2 := hca2.blk k1_1 (by simp)
        clear hb1 hbt1 cw1 sw1 hca2 k1_1
        go_upto_region 11 with (refine wpList_newAcc (by rfl) (by rfl) (by rfl) (.tmp 14) _ (by rfl) (v2 * (-r2)) (by rfl) (fun _ => by rfl) (fun _ => by rfl) ?_; intro b2 w2 hx2 k2_2 hc2)
        have hb2 := hc2.blk ba2 (by simp)
        have hbt2 := hc2.blk bta2 (by simp)
        have cw2 := cwa2.trans (hc2.mono (by simp))
        have sw2 := Nat.le_trans swa2 hc2.size
        have g2 : wr.heap.size ≤ b2 := by have := hx2.out; omega
        have k1_2 := hc2.blk ka1_2 (by simp)
        have n12 : b1 ≠ b2 := by have := hx2.out; have := ka1_2.lt; omega
        clear ba2 bta2 cwa2 swa2 hc2 hx2 ka1_2
        have at2 := cre hb2 (p + h) yq
        rw [HG2.out] at at2
        go_wp2_with (refine wpList_loadAcc (by rfl) (.tmp 77) (by rfl) b ((p + h) * 136) 119 _ _ v1 (by rfl) at2 ?_)
        clear at2
        refine (byRoot_any v1 c2 r2 _ RR2.out).mono ?_
        rintro e wa3 ⟨rfl, hca3⟩
        have ba3 := hca3.blk hb2 (by simp)
        have bta3 := hca3.blk hbt2 (by simp)
        have cwa3 := cw2.trans (hca3.mono (by simp))
        have swa3 := Nat.le_trans sw2 hca3.size
        have ka1_3 := hca3.blk k1_2 (by simp)
        have ka2_3 := hca3.blk k2_2 (by simp)
        clear hb2 hbt2 cw2 sw2 hca3 k1_2 k2_2
        go_upto_region 12 with (refine wpList_newAcc (by rfl) (by rfl) (by rfl) (.tmp 16) _ (by rfl) (v1 * r2) (by rfl) (fun _ => by rfl) (fun _ => by rfl) ?_; intro b3 w3 hx3 k3_3 hc3)
        have hb3 := hc3.blk ba3 (by simp)
        have hbt3 := hc3.blk bta3 (by simp)
        have cw3 := cwa3.trans (hc3.mono (by simp))
        have sw3 := Nat.le_trans swa3 hc3.size
        have g3 : wr.heap.size ≤ b3 := by have := hx3.out; omega
        have k1_3 := hc3.blk ka1_3 (by simp)
        have n13 : b1 ≠ b3 := by have := hx3.out; have := ka1_3.lt; omega
        have k2_3 := hc3.blk ka2_3 (by simp)
        have n23 : b2 ≠ b3 := by have := hx3.out; have := ka2_3.lt; omega
        clear ba3 bta3 cwa3 swa3 hc3 hx3 ka1_3 ka2_3
        have at3 := cim hb3 (p + h) yq
        rw [HG2.out] at at3
        go_wp2_with (refine wpList_loadAcc (by rfl) (.tmp 88) (by rfl) b ((p + h) * 136 + 68) 119 _ _ v2 (by rfl) at3 ?_)
        clear at3
        refine (byRoot_any v2 c1 r1 _ RR1.out).mono ?_
        rintro e wa4 ⟨rfl, hca4⟩
        have ba4 := hca4.blk hb3 (by simp)
        have bta4 := hca4.blk hbt3 (by simp)
        have cwa4 := cw3.trans (hca4.mono (by simp))
        have swa4 := Nat.le_trans sw3 hca4.size
        have ka1_4 := hca4.blk k1_3 (by simp)
        have ka2_4 := hca4.blk k2_3 (by simp)
        have ka3_4 := hca4.blk k3_3 (by simp)
        clear hb3 hbt3 cw3 sw3 hca4 k1_3 k2_3 k3_3
        go_upto_region 13 with (refine wpList_newAcc (by rfl) (by rfl) (by rfl) (.tmp 18) _ (by rfl) (v2 * r1) (by rfl) (fun _ => by rfl) (fun _ => by rfl) ?_; intro b4 w4 hx4 k4_4 hc4)
        have hb4 := hc4.blk ba4 (by simp)
        have hbt4 := hc4.blk bta4 (by simp)
        have cw4 := cwa4.trans (hc4.mono (by simp))
        have sw4 := Nat.le_trans swa4 hc4.size
        have g4 : wr.heap.size ≤ b4 := by have := hx4.out; omega
        have k1_4 := hc4.blk ka1_4 (by simp)
        have n14 : b1 ≠ b4 := by have := hx4.out; have := ka1_4.lt; omega
        have k2_4 := hc4.blk ka2_4 (by simp)
        have n24 : b2 ≠ b4 := by have := hx4.out; have := ka2_4.lt; omega
        have k3_4 := hc4.blk ka3_4 (by simp)
        have n34 : b3 ≠ b4 := by have := hx4.out; have := ka3_4.lt; omega
        clear ba4 bta4 cwa4 swa4 hc4 hx4 ka1_4 ka2_4 ka3_4
        go_upto_region 15 with fail
        go_wp2_with fail
        refine (Add_any b1 0 58 b2 0 58 [] [] [] [] (v1 * r1) (v2 * -r2) _ n12 (At.whole k1_4) (At.whole k2_4)).mono ?_
        rintro e w5 ⟨rfl, k1_5, hc5⟩
        have k1_5 := k1_5.toBlk
        have hb5 := hc5.blk hb4 (by simp; omega)
        have hbt5 := hc5.blk hbt4 (by simp; omega)
        have k3_5 := hc5.blk k3_4 (by simpa using Ne.symm n13)
        have k4_5 := hc5.blk k4_4 (by simpa using Ne.symm n14)
        have sw5 := Nat.le_trans sw4 hc5.size
        have gw : w.heap.size ≤ wr.heap.size := gw0
        have cw5 := cw4.news hc5 (by simp; omega)
        clear hb4 hbt4 k1_4 k2_4 k3_4 k4_4 cw4 hc5 sw4
        go_wp2_with fail
        refine (Add_any b3 0 58 b4 0 58 [] [] [] [] (v1 * r2) (v2 * r1) _ n34 (At.whole k3_5) (At.whole k4_5)).mono ?_
        rintro e w6 ⟨rfl, k3_6, hc6⟩
        have k3_6 := k3_6.toBlk
        have hb6 := hc6.blk hb5 (by simp; omega)
        have hbt6 := hc6.blk hbt5 (by simp; omega)
        have k1_6 := hc6.blk k1_5 (by simpa using n13)
        have cw6 := cw5.news hc6 (by simp; omega)
        clear hb5 hbt5 k1_5 k3_5 k4_5 cw5 hc6 sw5
        obtain ⟨m1, hm1⟩ : ∃ m, m = v1 * r1 + v2 * -r2 := ⟨_, rfl⟩
        obtain ⟨m2, hm2⟩ : ∃ m, m = v1 * r2 + v2 * r1 := ⟨_, rfl⟩
        rw [← hm1] at k1_6
        rw [← hm2] at k3_6
        have HM : Hid (mulq (v1, v2) (r1, r2) = (m1, m2)) := by unfold Hid mulq; rw [hm1, hm2]
        clear hm1 hm2
        have nb1 : b ≠ b1 := by omega
        have nb3 : b ≠ b3 := by omega
        have nt1 : bt ≠ b1 := by omega
        have nt3 : bt ≠ b3 := by omega
        go_wp2_with fail
        refine (shlA b 119 p 62 Y u1 u2 _ yp (by omega) HG1.out hb6).mono ?_
        rintro e w7 ⟨rfl, hb7, hc7⟩
        have hbt7 := hc7.blk hbt6 (by simpa using Ne.symm hne)
        have k1_7 := hc7.blk k1_6 (by simpa using Ne.symm nb1)
        have k3_7 := hc7.blk k3_6 (by simpa using Ne.symm nb3)
        have cw7 := cw6.trans hc7
        clear hb6 hbt6 k1_6 k3_6 cw6 hc7
        go_wp2_with fail
        refine (shlB b 119 p 62 (Y.set p (u1 * 2 ^ 62, u2)) (u1 * 2 ^ 62) u2 _ (by rw [List.length_set]; exact yp) (by omega) (gs Y p _ yp) hb7).mono ?_
        rintro e w8 ⟨rfl, hb8, hc8⟩
        rw [List.set_set] at hb8
        have hbt8 := hc8.blk hbt7 (by simpa using Ne.symm hne)
        have k1_8 := hc8.blk k1_7 (by simpa using Ne.symm nb1)
        have k3_8 := hc8.blk k3_7 (by simpa using Ne.symm nb3)
        have cw8 := cw7.trans hc8
        clear hb7 hbt7 k1_7 k3_7 cw7 hc8
        obtain ⟨U1, hU1⟩ : ∃ m, m = u1 * 2 ^ 62 := ⟨_, rfl⟩
        obtain ⟨U2, hU2⟩ : ∃ m, m = u2 * 2 ^ 62 := ⟨_, rfl⟩
        rw [← hU1, ← hU2] at hb8
        have HA : Hid (addq (u1, u2) (m1, m2) = (U1 + m1, U2 + m2)) := by unfold Hid addq; rw [hU1, hU2]
        have HS : Hid (subq (u1, u2) (m1, m2) = (U1 + -m1, U2 + -m2)) := by unfold Hid subq; rw [hU1, hU2]
        clear hU1 hU2
        have hne2 : p ≠ p + h := by omega
        have c8 := ce hb8 p (by rw [List.length_set]; exact yp)
        rw [gs Y p _ yp] at c8
        go_upto_region 20 with (first | (refine wpList_loadCc (by rfl) (.tmp 125) (by rfl) b (p * 136) 119 _ _ (U1, U2) (by rfl) c8 ?_) | (refine wpList_storeCc (by rfl) (.tmp 127) (.tmp 126) (by rfl) (by rfl) b (p + h) 119 (Y.set p (U1, U2)) (by rw [List.length_set]; exact yq) (U1, U2) hb8 (by rfl) (by rfl) ?_; intro w9 hb9 hc9))
        have hbt9 := hc9.blk hbt8 (by simpa using Ne.symm hne)
        have k1_9 := hc9.blk k1_8 (by simpa using Ne.symm nb1)
        have k3_9 := hc9.blk k3_8 (by simpa using Ne.symm nb3)
        have cw9 := cw8.trans hc9
        clear hb8 hbt8 k1_8 k3_8 cw8 hc9 c8
        go_wp2_with fail
        refine (addA b 119 p b1 m1 ((Y.set p (U1, U2)).set (p + h) (U1, U2)) U1 U2 _ (by rw [List.length_set, List.length_set]; exact yp) nb1 k1_9 (gs2 Y p (p + h) _ _ yp hne2) hb9).mono ?_
        rintro e w10 ⟨rfl, hb10, hc10⟩
        rw [ss2 _ _ _ _ _ _ hne2] at hb10
        have hbt10 := hc10.blk hbt9 (by simpa using Ne.symm hne)
        have k1_10 := hc10.blk k1_9 (by simpa using Ne.symm nb1)
        have k3_10 := hc10.blk k3_9 (by simpa using Ne.symm nb3)
        have cw10 := cw9.trans hc10
        clear hb9 hbt9 k1_9 k3_9 cw9 hc10
        go_wp2_with fail
        refine (addB b 119 p b3 m2 ((Y.set p (U1 + m1, U2)).set (p + h) (U1, U2)) (U1 + m1) U2 _ (by rw [List.length_set, List.length_set]; exact yp) nb3 k3_10 (gs2 Y p (p + h) _ _ yp hne2) hb10).mono ?_
        rintro e w11 ⟨rfl, hb11, hc11⟩
        rw [ss2 _ _ _ _ _ _ hne2] at hb11
        have hbt11 := hc11.blk hbt10 (by simpa using Ne.symm hne)
        have k1_11 := hc11.blk k1_10 (by simpa using Ne.symm nb1)
        have k3_11 := hc11.blk k3_10 (by simpa using Ne.symm nb3)
        have cw11 := cw10.trans hc11
        clear hb10 hbt10 k1_10 k3_10 cw10 hc11
        go_wp2_with fail
        refine (Neg_any b1 0 58 [] [] m1 _ (At.whole k1_11)).mono ?_
        rintro e w12 ⟨rfl, k1_12, hc12⟩
        have k1_12 := k1_12.toBlk
        have hb12 := hc12.blk hb11 (by simpa using nb1)
        have hbt12 := hc12.blk hbt11 (by simpa using nt1)
        have k3_12 := hc12.blk k3_11 (by simpa using Ne.symm n13)
        have cw12 := cw11.news hc12 (by simp; omega)
        clear hb11 hbt11 k1_11 k3_11 cw11 hc12
        go_wp2_with fail
        refine (Neg_any b3 0 58 [] [] m2 _ (At.whole k3_12)).mono ?_
        rintro e w13 ⟨rfl, k3_13, hc13⟩
        have k3_13 := k3_13.toBlk
        have hb13 := hc13.blk hb12 (by simpa using nb3)
        have hbt13 := hc13.blk hbt12 (by simpa using nt3)
        have k1_13 := hc13.blk k1_12 (by simpa using n13)
        have cw13 := cw12.news hc13 (by simp; omega)
        clear hb12 hbt12 k1_12 k3_12 cw12 hc13
        obtain ⟨Z, hZ⟩ : ∃ Z, Z = Y.set p (U1 + m1, U2 + m2) := ⟨_, rfl⟩
        rw [← hZ] at hb13
        have zq : p + h < Z.length := by rw [hZ, List.length_set]; exact yq
        have HZ := hide hZ
        clear hZ
        go_wp2_with fail
        refine (addA b 119 (p + h) b1 (-m1) (Z.set (p + h) (U1, U2)) U1 U2 _ (by rw [List.length_set]; exact zq) nb1 k1_13 (gs Z (p + h) _ zq) hb13).mono ?_
        rintro e w14 ⟨rfl, hb14, hc14⟩
        rw [List.set_set] at hb14
        have hbt14 := hc14.blk hbt13 (by simpa using Ne.symm hne)
        have k3_14 := hc14.blk k3_13 (by simpa using Ne.symm nb3)
        have cw14 := cw13.trans hc14
        clear hb13 hbt13 k1_13 k3_13 cw13 hc14
        go_wp2_with fail
        refine (addB b 119 (p + h) b3 (-m2) (Z.set (p + h) (U1 + -m1, U2)) (U1 + -m1) U2 _ (by rw [List.length_set]; exact zq) nb3 k3_14 (gs Z (p + h) _ zq) hb14).mono ?_
        rintro e w15 ⟨rfl, hb15, hc15⟩
        rw [List.set_set] at hb15
        have hbt15 := hc15.blk hbt14 (by simpa using Ne.symm hne)
        have cw15 := cw14.trans hc15
        clear hb14 hbt14 k3_14 cw14 hc15
        have HF := HNX.out
        rw [HM.out, HA.out, HS.out, ← HZ.out] at HF
        rw [HF] at hb15
        clear HF
        go_wp2_with fail
        go_roundw
        case rel => exact ⟨p + 1, by go_num, by omega, hb15, hbt15, cw15⟩
        case measure => simp [intOf]; omega
      · have hz : ((p &&& h : Nat) : Int) ≠ 0 := fun e => hact ((HAND.out p).1 (by omega))
        have hz2 := i64_and p h (by omega) (by omega)
        obtain ⟨v, ev⟩ : ∃ v, v = p &&& h := ⟨_, rfl⟩
        rw [← ev] at hz hz2
        have hvb : v ≤ p := by rw [ev]; exact Nat.and_le_left
        clear ev
        have hsk := esU_skip x r h p p1 hact
        rw [← hsk] at hbr
        clear hsk
        go_wp2_with fail
        go_roundw
        case rel => exact ⟨p + 1, by go_num, by omega, hbr, hbtr, hcr⟩
        case measure => simp [intOf]; omega
    · have hpe : p = n := by omega
      subst hpe
      rw [esU_end _ _ _ _ (by have := HN.out; omega)] at hbr
      go_wp2_with fail
      go_ret
      exact ⟨rfl, hbr, hcr⟩
end Ex
end Go.Proofs.Ygctak
