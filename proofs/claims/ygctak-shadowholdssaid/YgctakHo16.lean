/-
  Walk: shadowForward.
-/
import Derived.Test.YgctakHo15
namespace Go.Proofs.Ygctak
open Go.RowKit
set_option linter.unusedVariables false
set_option linter.unusedSimpArgs false
attribute [local go_sem ↓] Go.wp_at_zero Go.wp_at_succ
namespace Ex
open Ac Fl Sh

set_option maxRecDepth 100000 in
set_option maxHeartbeats 1000000 in
theorem shadowForward_any (bd off cap bt k : Nat) (ds : List Int) (w : World) (hk0 : 1 ≤ k) (hk : k ≤ 10) (hl : ds.length ≤ 2 ^ k) (hg : Dig w bd off ds) (hd : Digs 255 ds) (hbt : Blk w bt 103 (C (tab k)))
    (hH : ∀ t, 1 ≤ t → t ≤ k → ∀ i, i < 2 ^ k → Holds (62 * t + 0) ((fwA k ds t).getD i p0) ((exF k ds t).getD i q0)) :
    Calls Takg.prog 23 #[.slice (some ⟨bd, off, none⟩) ds.length cap, .slice (some ⟨bt, 0, none⟩) (2 ^ (k - 1)) (2 ^ (k - 1)), .int .i64 k, .int .u8 255] w fun e w' =>
      ∃ bx be, e = .returned (.tuple #[.slice (some ⟨bx, 0, none⟩) (2 ^ k) (2 ^ k), .slice (some ⟨be, 0, none⟩) (2 ^ k) (2 ^ k), .bool true]) ∧ bx ≠ be ∧ w.heap.size ≤ bx ∧ w.heap.size ≤ be ∧
        Blk w' bx 113 (Pts (fwA k ds k)) ∧ Blk w' be 119 (Cs (exF k ds k)) ∧ Chg [] w w' := by
  have hn2 : 2 ^ k ≤ 1024 := Nat.le_trans (Nat.pow_le_pow_right (n := 2) (by omega) hk) (by decide)
  have hn1 : 1 ≤ 2 ^ k := Nat.one_le_two_pow
  have hw := wrap64_pow k (by omega)
  have HST := hide (fun W (hW : Dig W bd off ds) => Start_any bd off cap (2 ^ k) ds W hn1 hn2 (by omega) hW)
  have HES := hide (fun W (hW : Dig W bd off ds) => exactStart_any bd off cap k ds W hk hl hW hd)
  have HRV := hide (fun b W (hW : Blk W b 113 (Pts (Sh.start ds (2 ^ k)))) => Reverse_any b 113 k (Sh.start ds (2 ^ k)) W hk (start_length _ _) hW)
  have hT := tab_keep k hk0 (by omega)
  have HSG : Hid (∀ s b W, s < k → b ≠ bt → Blk W b 113 (Pts (fwA k ds s)) → Blk W bt 103 (C (tab k)) →
      Calls Takg.prog 63 #[.slice (some ⟨b, 0, none⟩) (2 ^ k) (2 ^ k), .slice (some ⟨bt, 0, none⟩) (2 ^ (k - 1)) (2 ^ (k - 1)), .int .u8 ((s : Int) + 1), .int .u64 (most (s + 1) 255 : Nat)] W fun e w' =>
        e = .returned (.tuple #[]) ∧ Blk w' b 113 (Pts (fwA k ds (s + 1))) ∧ Chg [b] W w') := fun s b W hs hne h1 h2 => by
    have := Stage_any b bt 113 k (s + 1) (most (s + 1) 255) 118 (k - 1) (fwA k ds s) (tab k) W hk (by omega) (by omega) (by have := most_le (s + 1) 255 (by omega); omega) (fwA_length _ _ _) hT.1 h1 h2 ((fwA_keep k ds s hk0 hk (by omega) hd).mono (by omega) (by omega)) hT.2 (by omega) hne
    rw [show s + 1 - 1 = s by omega, ← fwA_succ] at this
    exact this
  have HEG : Hid (∀ s b W, s < k → b ≠ bt → Blk W b 119 (Cs (exF k ds s)) → Blk W bt 103 (C (tab k)) →
      Calls Takg.prog 64 #[.slice (some ⟨b, 0, none⟩) (2 ^ k) (2 ^ k), .slice (some ⟨bt, 0, none⟩) (2 ^ (k - 1)) (2 ^ (k - 1)), .int .u8 ((s : Int) + 1)] W fun e w' =>
        e = .returned (.bool true) ∧ Blk w' b 119 (Cs (exF k ds (s + 1))) ∧ Chg [b] W w') := fun s b W hs hne h1 h2 =>
    exactStage_any b bt k (s + 1) (exF k ds s) (tab k) (rr (s + 1)) W hk (by omega) (by omega) (exF_length _ _ _) hT.1 h1 h2 hne (rp_fwd k (s + 1) hk0 hk (by omega) (by omega))
  have HSH : Hid (∀ s b b2 W, s < k → Blk W b 113 (Pts (fwA k ds (s + 1))) → Blk W b2 119 (Cs (exF k ds (s + 1))) →
      Calls Takg.prog 27 #[.slice (some ⟨b, 0, none⟩) (2 ^ k) (2 ^ k), .slice (some ⟨b2, 0, none⟩) (2 ^ k) (2 ^ k), .int .i64 (62 * ((s : Int) + 1)), .int .i64 0] W fun e w' => e = .returned (.bool true) ∧ Chg [] W w') := fun s b b2 W hs h1 h2 => by
    have := shadowed_any b b2 (2 ^ k) (62 * (s + 1)) 0 (fwA k ds (s + 1)) (exF k ds (s + 1)) W hn2 (by omega) (fwA_length _ _ _) (exF_length _ _ _) h1 h2 (hH (s + 1) (by omega) (by omega))
    rw [show ((62 * (s + 1) : Nat) : Int) = 62 * ((s : Int) + 1) by omega] at this
    exact this
  have HF0 : Hid (rvs k (Sh.start ds (2 ^ k)) = fwA k ds 0) := rfl
  clear hH hT
  generalize 2 ^ (k - 1) = N at *
  generalize 2 ^ k = n at *
  have HM : Hid (∀ s W, s < k → Calls Takg.prog 25 #[.int .u8 ((s : Int) + 1), .int .u8 255] W fun e w' => e = .returned (.int .u64 (most (s + 1) 255 : Nat)) ∧ w' = W) := fun s W hs => Most_any (s + 1) 255 W (by omega) (by omega) (by omega)
  go_enter Takg.func23, Takg.ntmps23
  go_wp2_with fail
  refine (HST.out _ hg).mono ?_
  rintro e w1 ⟨bx, rfl, hbx, kx, hc1⟩
  have hg1 := hc1.dig hg (by simp)
  have kt1 := hc1.blk hbt (by simp)
  have gx : w.heap.size ≤ bx := by have := hbx.out; omega
  have nxt : bx ≠ bt := by have := hbx.out; have := hbt.lt; omega
  have lbt := hbt.lt
  have lx := kx.lt
  have s1 := hc1.size
  clear hbx hbt hg HST
  go_wp2_with fail
  refine (HES.out _ hg1).mono ?_
  rintro e w2 ⟨be, rfl, hbe, ke, hc2⟩
  have kx2 := hc2.blk kx (by simp)
  have kt2 := hc2.blk kt1 (by simp)
  have nxe : bx ≠ be := by have := hbe.out; omega
  have net : be ≠ bt := by have := hbe.out; omega
  have ge : w.heap.size ≤ be := by have := hbe.out; omega
  have cw2 := hc1.trans hc2
  clear hbe kx kt1 hc1 hc2 HES hg1 lx s1
  go_wp2_with fail
  refine (HRV.out _ _ kx2).mono ?_
  rintro e w3 ⟨rfl, kx3, hc3⟩
  rw [HF0.out] at kx3
  have ke3 := hc3.blk ke (by simpa using Ne.symm nxe)
  have kt3 := hc3.blk kt2 (by simpa using Ne.symm nxt)
  have cw3 := cw2.news hc3 (by simp; omega)
  clear kx2 ke kt2 cw2 hc3 HRV HF0
  go_wp2_with fail
  go_loopw [13] (fun v wr => ∃ s : Nat, v = .int .u8 ((s : Int) + 1) ∧ s ≤ k ∧ Blk wr bx 113 (Pts (fwA k ds s)) ∧ Blk wr be 119 (Cs (exF k ds s)) ∧ Blk wr bt 103 (C (tab k)) ∧ Chg [] w wr) (fun v _ => k + 1 - (intOf v).toNat)
  case atStart => exact ⟨0, rfl, by omega, kx3, ke3, kt3, cw3⟩
  case round =>
    clear kx3 ke3 kt3 cw3
    obtain ⟨s, rfl, hs, kx, ke, kt, cw⟩ := hrel
    by_cases hsk : s < k
    · go_wp2_with fail
      refine (HM.out s _ hsk).mono ?_
      rintro e w' ⟨rfl, rfl⟩
      go_wp2_with fail
      refine (HSG.out s bx _ hsk nxt kx kt).mono ?_
      rintro e w4 ⟨rfl, kx4, hc4⟩
      have ke4 := hc4.blk ke (by simpa using Ne.symm nxe)
      have kt4 := hc4.blk kt (by simpa using Ne.symm nxt)
      have cw4 := cw.news hc4 (by simp; omega)
      clear kx ke kt cw hc4
      go_wp2_with fail
      refine (HEG.out s be _ hsk net ke4 kt4).mono ?_
      rintro e w5 ⟨rfl, ke5, hc5⟩
      have kx5 := hc5.blk kx4 (by simpa using nxe)
      have kt5 := hc5.blk kt4 (by simpa using Ne.symm net)
      have cw5 := cw4.news hc5 (by simp; omega)
      clear kx4 ke4 kt4 cw4 hc5
      go_wp2_with fail
      refine (HSH.out s bx be _ hsk kx5 ke5).mono ?_
      rintro e w6 ⟨rfl, hc6⟩
      have kx6 := hc6.blk kx5 (by simp)
      have ke6 := hc6.blk ke5 (by simp)
      have kt6 := hc6.blk kt5 (by simp)
      have cw6 := cw5.trans hc6
      clear kx5 ke5 kt5 cw5 hc6
      go_wp2_with fail
      go_roundw
      case rel => exact ⟨s + 1, by go_num, by omega, kx6, ke6, kt6, cw6⟩
      case measure => simp [intOf]; omega
    · have hse : s = k := by omega
      subst hse
      go_wp2_with fail
      refine bodyPost_ret (Cx.results3 rfl _ _ _) rfl ?_
      exact ⟨bx, be, rfl, nxe, gx, ge, kx, ke, cw⟩
end Ex
end Go.Proofs.Ygctak
