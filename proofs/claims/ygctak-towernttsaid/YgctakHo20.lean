/-
  Walks: fft.Forward, fft.Inverse.
-/
import Derived.Test.YgctakHo19
namespace Go.Proofs.Ygctak
open Go.RowKit
set_option linter.unusedVariables false
set_option linter.unusedSimpArgs false
attribute [local go_sem ↓] Go.wp_at_zero Go.wp_at_succ
attribute [local go_sem] Fl.run_store_complex Fl.run_store_float
namespace Fr
open Ac Fl Sh Ex
open Ft (zst rev)

/-- The row behind t stages. -/
def zit (f : Nat → Nat × Nat) (T : List (Nat × Nat)) (k : Nat) : Nat → Nat → Nat × Nat
  | 0 => fun m => f (rev k m)
  | t + 1 => zst (zit f T k t) (fun j => T.getD (j * 2 ^ (k - (t + 1))) (0, 0)) (2 ^ t)

set_option maxHeartbeats 1000000 in
theorem Forward_any (b bt k E F : Nat) (f : Nat → Nat × Nat) (T : List (Nat × Nat)) (w : World) (hk0 : 1 ≤ k) (hk : k ≤ 10)
    (hT : T.length = 2 ^ (k - 1)) (hb : Blk w b 103 (C (Zl (2 ^ k) f))) (hbt : Blk w bt 103 (C T)) (hx : ∀ t, t < k → ∀ i, i < 2 ^ k → Fc E (zit f T k t i)) (hTf : AllC F T) (hE : E + F + 2 ≤ 1023) (hne : b ≠ bt) :
    Calls Takg.prog 112 #[.slice (some ⟨b, 0, none⟩) (2 ^ k) (2 ^ k), .slice (some ⟨bt, 0, none⟩) (2 ^ (k - 1)) (2 ^ (k - 1))] w fun e w' =>
      e = .returned (.bool true) ∧ Blk w' b 103 (C (Zl (2 ^ k) (zit f T k k))) ∧ Chg [b] w w' := by
  have HL := hide (fun W => level_any k W (by omega))
  have HFT := hide (fun W => fits_any k W (by omega) hk)
  have HRV := hide (fun W (hW : Blk W b 103 (C (Zl (2 ^ k) f))) => Reverse_any b k f W hk hW)
  have HST : Hid (∀ s W, s < k → Blk W b 103 (C (Zl (2 ^ k) (zit f T k s))) → Blk W bt 103 (C T) → Calls Takg.prog 143 #[.slice (some ⟨b, 0, none⟩) (2 ^ k) (2 ^ k), .slice (some ⟨bt, 0, none⟩) (2 ^ (k - 1)) (2 ^ (k - 1)), .int .u8 ((s : Int) + 1)] W fun e w' =>
      e = .returned (.tuple #[]) ∧ Blk w' b 103 (C (Zl (2 ^ k) (zit f T k (s + 1)))) ∧ Chg [b] W w') := fun s W hs h1 h2 =>
    Stage_any b bt k (s + 1) E F (zit f T k s) T W hk (by omega) (by omega) hT h1 h2 (hx s hs) hTf hE hne
  have hn2 : 2 ^ k ≤ 1024 := Nat.le_trans (Nat.pow_le_pow_right (n := 2) (by omega) hk) (by decide)
  clear hx hTf hT
  generalize 2 ^ (k - 1) = N at *
  generalize 2 ^ k = n at *
  have hu8 : IntKind.u8.wrap (k : Int) = (k : Int) := by rw [IntKind.wrap_u8]; omega
  go_enter Takg.func112, Takg.ntmps112
  go_wp2_with fail
  refine (HFT.out _).mono ?_
  rintro e w' ⟨rfl, rfl⟩
  go_wp2_with fail
  refine (HRV.out _ hb).mono ?_
  rintro e w1 ⟨rfl, kb1, hc1⟩
  have kt1 := hc1.blk hbt (by simpa using Ne.symm hne)
  clear hb hbt HRV
  go_wp2_with fail
  refine (HL.out _).mono ?_
  rintro e w2 ⟨rfl, rfl⟩
  go_wp2_with fail
  go_loopw [6] (fun v wr => ∃ s : Nat, v = .int .u8 ((s : Int) + 1) ∧ s ≤ k ∧ Blk wr b 103 (C (Zl n (zit f T k s))) ∧ Blk wr bt 103 (C T) ∧ Chg [b] w' wr) (fun v _ => k + 1 - (intOf v).toNat)
  case atStart => exact ⟨0, rfl, by omega, kb1, kt1, hc1⟩
  case round =>
    clear kb1 kt1 hc1
    obtain ⟨s, rfl, hs, kb, kt, cw⟩ := hrel
    by_cases hsk : s < k
    · go_wp2_with fail
      refine (HST.out s _ hsk kb kt).mono ?_
      rintro e w4 ⟨rfl, kb4, hc4⟩
      have kt4 := hc4.blk kt (by simpa using Ne.symm hne)
      have cw4 := cw.trans hc4
      clear kb kt cw hc4
      go_wp2_with fail
      go_roundw
      case rel => exact ⟨s + 1, by go_num, by omega, kb4, kt4, cw4⟩
      case measure => simp [intOf]; omega
    · have hse : s = k := by omega
      subst hse
      go_wp2_with fail
      go_ret
      exact ⟨rfl, kb, cw⟩

/-- Both parts divided. -/
def zdv (k : Nat) (z : Nat × Nat) : Nat × Nat := (fquo z.1 (dbl ((2 ^ k : Nat) : Int)), fquo z.2 (dbl ((2 ^ k : Nat) : Int)))

set_option maxHeartbeats 1000000 in
theorem Inverse_any (b bt k E F : Nat) (f : Nat → Nat × Nat) (T : List (Nat × Nat)) (w : World) (hk0 : 1 ≤ k) (hk : k ≤ 10)
    (hT : T.length = 2 ^ (k - 1)) (hb : Blk w b 103 (C (Zl (2 ^ k) f))) (hbt : Blk w bt 103 (C T)) (hx : ∀ t, t ≤ k → ∀ i, i < 2 ^ k → Fc E (zit f (T.map conj) k t i)) (hTf : AllC F T) (hE : E + F + 2 ≤ 1023) (hne : b ≠ bt) :
    Calls Takg.prog 113 #[.slice (some ⟨b, 0, none⟩) (2 ^ k) (2 ^ k), .slice (some ⟨bt, 0, none⟩) (2 ^ (k - 1)) (2 ^ (k - 1))] w fun e w' =>
      e = .returned (.bool true) ∧ Blk w' b 103 (C (Zl (2 ^ k) fun i => zdv k (zit f (T.map conj) k k i))) ∧ Chg [b] w w' := by
  have HFT := hide (fun W => fits_any k W (by omega) hk)
  have HFW : Hid (∀ bc W, b ≠ bc → Blk W b 103 (C (Zl (2 ^ k) f)) → Blk W bc 103 (C (T.map conj)) → Calls Takg.prog 112 #[.slice (some ⟨b, 0, none⟩) (2 ^ k) (2 ^ k), .slice (some ⟨bc, 0, none⟩) (2 ^ (k - 1)) (2 ^ (k - 1))] W fun e w' =>
      e = .returned (.bool true) ∧ Blk w' b 103 (C (Zl (2 ^ k) (zit f (T.map conj) k k))) ∧ Chg [b] W w') := fun bc W hne h1 h2 =>
    Forward_any b bc k E F f (T.map conj) W hk0 hk (by rw [List.length_map]; exact hT) h1 h2 (fun t ht => hx t (by omega)) hTf.conj hE hne
  have hn2 : 2 ^ k ≤ 1024 := Nat.le_trans (Nat.pow_le_pow_right (n := 2) (by omega) hk) (by decide)
  have hN2 : 2 ^ (k - 1) ≤ 1024 := Nat.le_trans (Nat.pow_le_pow_right (n := 2) (by omega) (show k - 1 ≤ 10 by omega)) (by decide)
  have HQ : Hid (∀ i, i < 2 ^ k → ∃ d1 d2, zdv k (zit f (T.map conj) k k i) = (d1, d2) ∧ floatBits .quo .f64 (zit f (T.map conj) k k i).1 (dbl ((2 ^ k : Nat) : Int)) = some d1 ∧ floatBits .quo .f64 (zit f (T.map conj) k k i).2 (dbl ((2 ^ k : Nat) : Int)) = some d2) := fun i hi =>
    ⟨_, _, rfl, quo_some _ k hk (hx k (Nat.le_refl _) i hi).1.1, quo_some _ k hk (hx k (Nat.le_refl _) i hi).2.1⟩
  obtain ⟨g, hg⟩ : ∃ g, g = zit f (T.map conj) k k := ⟨_, rfl⟩
  obtain ⟨D, hD⟩ : ∃ D : Nat × Nat → Nat × Nat, D = zdv k := ⟨_, rfl⟩
  rw [← hg] at HFW HQ ⊢
  rw [← hD] at HQ ⊢
  clear hx hTf hg hD
  obtain ⟨N, eN⟩ : ∃ N, N = 2 ^ (k - 1) := ⟨_, rfl⟩
  rw [← eN] at HFT HFW hN2 hT ⊢
  generalize 2 ^ k = n at *
  have HT := hide hT
  clear eN hT
  have hmk := make_run (P := Takg.prog) 46 103 (.complex .f64 0 0) 16 N rfl Takg.underlying46 info103 (by omega) (by omega)
  go_enter Takg.func113, Takg.ntmps113
  go_wp2_with fail
  refine (HFT.out _).mono ?_
  rintro e w' ⟨rfl, rfl⟩
  go_upto_region 4 with fail
  clear hmk
  obtain ⟨c, hcc⟩ : ∃ b, b = w'.heap.size := ⟨_, rfl⟩
  have hbn := Blk.newRep w' N (Value.complex .f64 0 0) 103
  have hch := (Chg.refl [] w').alloc (.cells (Array.replicate N (Value.complex .f64 0 0)) 103)
  have hb1 := hb.alloc (.cells (Array.replicate N (Value.complex .f64 0 0)) 103)
  have hbt1 := hbt.alloc (.cells (Array.replicate N (Value.complex .f64 0 0)) 103)
  rw [← hcc] at hbn ⊢
  have nbc : b ≠ c := by have := hb.lt; omega
  have ntc : bt ≠ c := by have := hbt.lt; omega
  have gc : w'.heap.size ≤ c := by omega
  clear hcc hb hbt
  have e0 : List.replicate N (Value.complex .f64 0 0) = C (padC ((T.map conj).take 0) T.length) := by simp [padC, C, HT.out]
  rw [e0] at hbn
  clear e0
  generalize w'.alloc (.cells (Array.replicate N (Value.complex .f64 0 0)) 103) = w1 at *
  go_wp2_with fail
  go_loopw [6] (fun v wr => ∃ i : Nat, v = .int .i64 i ∧ i ≤ N ∧ Blk wr b 103 (C (Zl n f)) ∧ Blk wr bt 103 (C T) ∧ Blk wr c 103 (C (padC ((T.map conj).take i) T.length)) ∧ Chg [] w' wr) (fun v _ => N - (intOf v).toNat)
  case atStart => exact ⟨0, rfl, by omega, hb1, hbt1, hbn, hch⟩
  case round =>
    clear hb1 hbt1 hbn hch
    obtain ⟨i, rfl, hi, hbr, hbt, hbc, hcr⟩ := hrel
    by_cases hil : i < N
    · have hlt : i < T.length := by have := HT.out; omega
      have hnx := conj_next T i hlt
      have k1 := hbt.cell _ _ (C_get T i hlt)
      have hpl : (padC ((T.map conj).take i) T.length).length = T.length := padC_length _ _ (by simp; omega)
      have k2 := hbc.cell _ _ (C_get _ i (by rw [hpl]; exact hlt))
      have f2 := hbc.frozen i none
      obtain ⟨⟨c1, c2⟩, hc⟩ : ∃ z, z = T.getD i (0, 0) := ⟨_, rfl⟩
      rw [← hc] at k1 hnx
      obtain ⟨⟨d1, d2⟩, hd⟩ : ∃ z, z = (padC ((T.map conj).take i) T.length).getD i (0, 0) := ⟨_, rfl⟩
      rw [← hd] at k2
      dsimp only at k1 k2
      have V0 := hbr.set_ne ⟨c, i, none⟩ nbc (.complex .f64 c1 (fneg c2))
      have V1 := hbt.set_ne ⟨c, i, none⟩ ntc (.complex .f64 c1 (fneg c2))
      have V2 := hbc.set i (.complex .f64 (conj (c1, c2)).1 (conj (c1, c2)).2)
      rw [C_set, hnx] at V2
      have V3 := hcr.setNew ⟨c, i, none⟩ gc (.complex .f64 c1 (fneg c2))
      clear hnx hpl hc hd hlt hbr hbt hbc hcr
      go_wp2_with fail
      refine (Conj_any c1 c2 _).mono ?_
      rintro e w2 ⟨rfl, rfl⟩
      go_wp2_with fail
      go_roundw
      case rel => exact ⟨i + 1, by go_num, by omega, V0, V1, V2, V3⟩
      case measure => simp [intOf]; omega
    · have hie : i = N := by omega
      subst hie
      have e1 : padC ((T.map conj).take i) T.length = T.map conj := by
        rw [← HT.out, List.take_of_length_le (by simp)]
        simp [padC]
      rw [e1] at hbc
      clear e1
      go_wp2_with fail
      refine (HFW.out c _ nbc hbr hbc).mono ?_
      rintro e w2 ⟨rfl, kb2, hc2⟩
      have cw2 := (hcr.mono (T := [b]) (by simp)).trans hc2
      clear hbr hbt hbc hcr hc2
      have H0 : Hid (Zl n (fun m => if m < 0 then D (g m) else g m) = Zl n g) := Zl_congr fun m _ => by rw [if_neg (by omega)]
      rw [← H0.out] at kb2
      clear H0
      have hconv : ∀ v : Int, floatOfInt .f64 v = dbl v := fun _ => rfl
      go_wp2_with fail
      obtain ⟨q, hq⟩ : ∃ q, q = dbl (n : Int) := ⟨_, rfl⟩
      rw [← hq] at HQ ⊢
      clear hq hconv
      go_loopw [8] (fun v wr => ∃ i : Nat, v = .int .i64 i ∧ i ≤ n ∧ Blk wr b 103 (C (Zl n fun m => if m < i then D (g m) else g m)) ∧ Chg [b] w' wr) (fun v _ => n - (intOf v).toNat)
      case atStart => exact ⟨0, rfl, by omega, kb2, cw2⟩
      case round =>
        clear kb2 cw2
        obtain ⟨i, rfl, hi, hbr, hcr⟩ := hrel
        by_cases hil : i < n
        · obtain ⟨d1, d2, hd, q1, q2⟩ := HQ.out i hil
          have c1 := Zl_cell hbr i hil
          rw [if_neg (by omega)] at c1
          have V1 := Zl_setB hbr i (d1, d2)
          have e1 : Zl n (fun m => if m = i then (d1, d2) else if m < i then D (g m) else g m) = Zl n (fun m => if m < i + 1 then D (g m) else g m) := Zl_congr fun m _ => by
            by_cases e : m = i
            · subst e
              rw [if_pos rfl, if_pos (by omega), hd]
            · rw [if_neg e]
              by_cases e2 : m < i
              · rw [if_pos e2, if_pos (by omega)]
              · rw [if_neg e2, if_neg (by omega)]
          rw [e1] at V1
          obtain ⟨⟨g1, g2⟩, hgi⟩ : ∃ z, z = g i := ⟨_, rfl⟩
          rw [← hgi] at c1 q1 q2
          dsimp only at c1 q1 q2 V1
          have R1 := fun w => run_float_arith (P := Takg.prog) w .quo 122 .f64 g1 q d1 q1
          have R2 := fun w => run_float_arith (P := Takg.prog) w .quo 122 .f64 g2 q d2 q2
          have f0 := hbr.frozen i none
          have V3 := hcr.setCell ⟨b, i, none⟩ (by simp) (.complex .f64 d1 d2)
          clear e1 hd q1 q2 hgi hbr hcr
          go_upto_region 13 with fail
          go_region
          all_goals (
            go_wp2_with fail
            go_roundw
            case rel => exact ⟨i + 1, by go_num, by omega, V1.drew, V3.drew⟩
            case measure => simp [intOf]; omega)
        · have hie : i = n := by omega
          subst hie
          have e1 : Zl i (fun m => if m < i then D (g m) else g m) = Zl i (fun m => D (g m)) := Zl_congr fun m hm => by rw [if_pos hm]
          rw [e1] at hbr
          clear e1
          go_wp2_with fail
          go_ret
          exact ⟨rfl, hbr, hcr⟩
end Fr
end Go.Proofs.Ygctak
