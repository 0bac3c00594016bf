/-
  Walk: law.ShadowHolds.
-/
import Derived.Test.YgctakHo23
import Derived.Test.YgctakHo11
import Derived.Test.YgctakCx8
namespace Go.Proofs.Ygctak
open Go.RowKit
set_option linter.unusedVariables false
set_option linter.unusedSimpArgs false
attribute [local go_sem ↓] Go.wp_at_zero Go.wp_at_succ
namespace Ex
open Ac Fl Sh Fr Cx

theorem digits512 (a : Option Addr) (n cap : Nat) (w : World) (hnc : n ≤ cap) (hc : cap ≤ 9223372036854775807) (ha : 512 < n → ∃ b off, a = some ⟨b, off, none⟩) :
    Calls Takg.prog 20 #[.slice a n cap, .int .i64 512] w fun e w' => ∃ cap', e = .returned (.slice a (min n 512) cap') ∧ w' = w := by
  by_cases h : 512 < n
  · obtain ⟨b, off, rfl⟩ := ha h
    have e : min n 512 = 512 := by omega
    rw [e]
    clear e ha
    go_enter Takg.func20, Takg.ntmps20
    go_wp2_with fail
    go_ret
    exact ⟨_, rfl, rfl⟩
  · have e : min n 512 = n := by omega
    rw [e]
    clear e ha
    go_enter Takg.func20, Takg.ntmps20
    go_wp2_with fail
    go_ret
    exact ⟨_, rfl, rfl⟩

theorem Run_empty (a1 a2 : Option Addr) (A B c1 c2 d : Nat) (w : World) (h : A = 0 ∨ B = 0) :
    Calls Takg.prog 21 #[.slice a1 A c1, .slice a2 B c2, .int .u8 d] w fun e w' => e = .returned (.slice none 0 0) ∧ w' = w := by
  by_cases hA0 : A = 0
  · subst hA0
    clear h
    go_enter Takg.func21, Takg.ntmps21
    go_wp2_with fail
    go_ret
    exact ⟨rfl, rfl⟩
  · have hB : B = 0 := by omega
    subst hB
    have i1 : ((A : Int) == 0) = false := by rw [beq_eq_false_iff_ne]; omega
    clear h
    go_enter Takg.func21, Takg.ntmps21
    go_wp2_with fail
    go_ret
    exact ⟨rfl, rfl⟩

/-- An operand is empty. -/
theorem law_empty (a1 a2 : Option Addr) (n1 cap1 n2 cap2 A B : Nat) (w : World)
    (hd1 : Calls Takg.prog 20 #[.slice a1 n1 cap1, .int .i64 512] w fun e w' => ∃ c, e = .returned (.slice a1 A c) ∧ w' = w)
    (hd2 : Calls Takg.prog 20 #[.slice a2 n2 cap2, .int .i64 512] w fun e w' => ∃ c, e = .returned (.slice a2 B c) ∧ w' = w) (h : A = 0 ∨ B = 0) :
    Calls Takg.prog 10 #[.slice a1 n1 cap1, .slice a2 n2 cap2] w fun e w' => e = .returned (.bool true) ∧ Chg [] w w' := by
  have D1 := hide hd1
  have D2 := hide hd2
  have HR := hide (fun c1 c2 => Run_empty a1 a2 A B c1 c2 255 w h)
  have E2 := eql_nil 44 113 none 0 0 Takg.underlying44
  clear hd1 hd2
  by_cases hA0 : A = 0
  · subst hA0
    clear h
    go_enter Takg.func10, Takg.ntmps10
    go_wp2_with fail
    refine D1.out.mono ?_
    rintro e w1 ⟨k1, rfl, rfl⟩
    go_wp2_with fail
    refine D2.out.mono ?_
    rintro e w2 ⟨k2, rfl, rfl⟩
    go_wp2_with fail
    refine (HR.out k1 k2).mono ?_
    rintro e w3 ⟨rfl, rfl⟩
    go_wp2_with fail
    go_ret
    exact ⟨rfl, Chg.refl [] _⟩
  · have hB : B = 0 := by omega
    subst hB
    have i1 : ((A : Int) == 0) = false := by rw [beq_eq_false_iff_ne]; omega
    clear h
    go_enter Takg.func10, Takg.ntmps10
    go_wp2_with fail
    refine D1.out.mono ?_
    rintro e w1 ⟨k1, rfl, rfl⟩
    go_wp2_with fail
    refine D2.out.mono ?_
    rintro e w2 ⟨k2, rfl, rfl⟩
    go_wp2_with fail
    refine (HR.out k1 k2).mono ?_
    rintro e w3 ⟨rfl, rfl⟩
    go_wp2_with fail
    go_ret
    exact ⟨rfl, Chg.refl [] _⟩

theorem dec_lt {q A B : Nat} {W : Int} (hw : W = ((2 ^ q : Nat) : Int)) (h : 2 ^ q + 1 < A + B) : decide (W < (A : Int) + (B : Int) - 1) = true := by
  rw [hw]
  apply decide_eq_true
  generalize 2 ^ q = Q at *
  omega

/-- The products, plainly. -/
abbrev mid (k : Nat) (xs ys : List Int) : List P := tms (fwd k 255 xs) (fwd k 255 ys) (most (k + 1) 255)
abbrev exM (k : Nat) (xs ys : List Int) : List Q := etL (exF k xs k) (exF k ys k)
/-- What the law asks, plainly. -/
structure AllHold (k : Nat) (xs ys : List Int) : Prop where
  fx : ∀ t, 1 ≤ t → t ≤ k → ∀ i, i < 2 ^ k → Holds (62 * t + 0) ((fwA k xs t).getD i p0) ((exF k xs t).getD i q0)
  fy : ∀ t, 1 ≤ t → t ≤ k → ∀ i, i < 2 ^ k → Holds (62 * t + 0) ((fwA k ys t).getD i p0) ((exF k ys t).getD i q0)
  ft : ∀ i, i < 2 ^ k → Fits ((exF k ys k).getD i q0).1 ∧ Fits ((exF k ys k).getD i q0).2
  md : ∀ i, i < 2 ^ k → Holds (124 * k + 0) ((mid k xs ys).getD i p0) ((exM k xs ys).getD i q0)
  bk : ∀ t, 1 ≤ t → t ≤ k → ∀ i, i < 2 ^ k → Holds (124 * k + 62 * t + 0) ((bwA k (rvs k (mid k xs ys)) t).getD i p0) ((exB (turn (exM k xs ys) k) t).getD i q0)
  en : ∀ i, i < 2 ^ k → Holds (124 * k + 62 * k + k) ((shRun k 255 xs ys).getD i p0) ((exB (turn (exM k xs ys) k) k).getD i q0)

set_option maxRecDepth 100000 in
set_option maxHeartbeats 2000000 in
theorem law_main (b1 o1 b2 o2 n1 cap1 n2 cap2 k : Nat) (xa xb : List Int) (w : World)
    (hd1 : Calls Takg.prog 20 #[.slice (some ⟨b1, o1, none⟩) n1 cap1, .int .i64 512] w fun e w' => ∃ c, e = .returned (.slice (some ⟨b1, o1, none⟩) xa.length c) ∧ w' = w)
    (hd2 : Calls Takg.prog 20 #[.slice (some ⟨b2, o2, none⟩) n2 cap2, .int .i64 512] w fun e w' => ∃ c, e = .returned (.slice (some ⟨b2, o2, none⟩) xb.length c) ∧ w' = w)
    (hk0 : 1 ≤ k) (hk : k ≤ 10) (la : 1 ≤ xa.length) (lb : 1 ≤ xb.length) (la2 : xa.length ≤ 512) (lb2 : xb.length ≤ 512)
    (hfit : xa.length + xb.length ≤ 2 ^ k + 1) (hmin : k = 1 ∨ 2 ^ (k - 1) + 1 < xa.length + xb.length) (ga : Dig w b1 o1 xa) (gb : Dig w b2 o2 xb) (ha : Digs 255 xa) (hb : Digs 255 xb) (hA : AllHold k xa xb) :
    Calls Takg.prog 10 #[.slice (some ⟨b1, o1, none⟩) n1 cap1, .slice (some ⟨b2, o2, none⟩) n2 cap2] w fun e w' => e = .returned (.bool true) ∧ Chg [] w w' := by
  have hn2 : 2 ^ k ≤ 1024 := Nat.le_trans (Nat.pow_le_pow_right (n := 2) (by omega) hk) (by decide)
  have D1 := hide hd1
  have D2 := hide hd2
  have HTB := hide (fun W => Table_any k W hk0 (by omega))
  have HFA := hide (fun c bt W (g : Dig W b1 o1 xa) (h : Blk W bt 103 (C (tab k))) => shadowForward_any b1 o1 c bt k xa W hk0 hk (by omega) g ha h hA.fx)
  have HFB := hide (fun c bt W (g : Dig W b2 o2 xb) (h : Blk W bt 103 (C (tab k))) => shadowForward_any b2 o2 c bt k xb W hk0 hk (by omega) g hb h hA.fy)
  have HM : Hid (∀ W, Calls Takg.prog 25 #[.int .u8 ((k : Int) + 1), .int .u8 255] W fun e w' => e = .returned (.int .u64 (most (k + 1) 255 : Nat)) ∧ w' = W) := fun W => Most_any (k + 1) 255 W (by omega) (by omega) (by omega)
  have HTM : Hid (∀ bx bY W, bx ≠ bY → Blk W bx 113 (Pts (fwA k xa k)) → Blk W bY 113 (Pts (fwA k xb k)) → Calls Takg.prog 24 #[.slice (some ⟨bx, 0, none⟩) (2 ^ k) (2 ^ k), .slice (some ⟨bY, 0, none⟩) (2 ^ k) (2 ^ k), .int .u64 (most (k + 1) 255 : Nat)] W fun e w' =>
      e = .returned (.tuple #[]) ∧ Blk w' bx 113 (Pts (mid k xa xb)) ∧ Chg [bx] W w') := fun bx bY W hne h1 h2 =>
    Times_any bx 113 bY 113 (2 ^ k) (most (k + 1) 255) 118 118 (fwd k 255 xa) (fwd k 255 xb) W hn2 (most_le _ _ (by omega)) (fwd_length _ _ _) (fwd_length _ _ _) hne h1 h2 ((fwd_keep k 255 xa hk0 hk (by omega) ha).mono (by omega) (by omega)) ((fwd_keep k 255 xb hk0 hk (by omega) hb).mono (by omega) (by omega)) (by omega)
  have HET := hide (fun b b2' W (hne : b ≠ b2') (h1 : Blk W b 119 (Cs (exF k xa k))) (h2 : Blk W b2' 119 (Cs (exF k xb k))) => exactTimes_any b b2' (2 ^ k) (exF k xa k) (exF k xb k) W hn2 (exF_length _ _ _) (exF_length _ _ _) h1 h2 hne hA.ft)
  have HSH : Hid (∀ S b b2' W, S = 124 * k → Blk W b 113 (Pts (mid k xa xb)) → Blk W b2' 119 (Cs (exM k xa xb)) →
      Calls Takg.prog 27 #[.slice (some ⟨b, 0, none⟩) (2 ^ k) (2 ^ k), .slice (some ⟨b2', 0, none⟩) (2 ^ k) (2 ^ k), .int .i64 (S : Int), .int .i64 0] W fun e w' => e = .returned (.bool true) ∧ Chg [] W w') := fun S b b2' W hS h1 h2 => by
    subst hS
    exact shadowed_any b b2' (2 ^ k) (124 * k) 0 (mid k xa xb) (exM k xa xb) W hn2 (by omega) (by rw [tms_length, fwd_length]) (by rw [etL_length, exF_length]) h1 h2 hA.md
  have HIN : Hid (∀ S c1 c2 bx be bt W, S = 124 * k → Dig W b1 o1 xa → Dig W b2 o2 xb → Blk W bx 113 (Pts (mid k xa xb)) → Blk W be 119 (Cs (exM k xa xb)) → Blk W bt 103 (C (tab k)) → bx ≠ be → bx ≠ bt → bx ≠ b1 → bx ≠ b2 →
      Calls Takg.prog 28 #[.slice (some ⟨b1, o1, none⟩) xa.length c1, .slice (some ⟨b2, o2, none⟩) xb.length c2, .slice (some ⟨bx, 0, none⟩) (2 ^ k) (2 ^ k), .slice (some ⟨be, 0, none⟩) (2 ^ k) (2 ^ k), .slice (some ⟨bt, 0, none⟩) (2 ^ (k - 1)) (2 ^ (k - 1)), .int .i64 k, .int .i64 (S : Int)] W fun e w' =>
        e = .returned (.bool true) ∧ Chg [bx] W w') := fun S c1 c2 bx be bt W hS g1 g2 h1 h2 h3 m1 m2 m3 m4 => by
    subst hS
    exact shadowInverse_any b1 o1 c1 b2 o2 c2 bx be bt k xa xb (exM k xa xb) W hk0 hk la lb la2 lb2 hfit hmin g1 g2 ha hb h1 h2 h3 (by rw [etL_length, exF_length]) m1 m2 m3 m4 hA.bk hA.en
  have HP := hide (fun q (hq : q ≤ 62) => wrap64_pow q hq)
  have hlow : ∀ q, 1 ≤ q → q < k → 2 ^ q + 1 < xa.length + xb.length := fun q q1 q2 => by
    rcases hmin with h | h
    · omega
    · have : 2 ^ q ≤ 2 ^ (k - 1) := Nat.pow_le_pow_right (n := 2) (by omega) (by omega)
      omega
  have HLOW := hide hlow
  have HFIT := hide hfit
  have hwk := wrap64_pow k (by omega)
  clear hlow hmin hfit ha hb hA hd1 hd2
  obtain ⟨MM, hMM⟩ : ∃ M, M = mid k xa xb := ⟨_, rfl⟩
  obtain ⟨EM, hEM⟩ : ∃ M, M = exM k xa xb := ⟨_, rfl⟩
  rw [← hMM] at HTM HSH HIN
  rw [← hEM] at HSH HIN
  have HEM : Hid (etL (exF k xa k) (exF k xb k) = EM) := hEM.symm
  clear hMM hEM
  obtain ⟨n, en⟩ : ∃ n, n = 2 ^ k := ⟨_, rfl⟩
  obtain ⟨N, eN⟩ : ∃ N, N = 2 ^ (k - 1) := ⟨_, rfl⟩
  rw [← eN] at HTB HFA HFB HIN
  rw [← en] at HFA HFB HTM HET HSH HIN hwk hn2 HFIT
  clear en eN
  generalize xa.length = A at *
  generalize xb.length = B at *
  have i1 : ((A : Int) == 0) = false := by rw [beq_eq_false_iff_ne]; omega
  have i2 : ((B : Int) == 0) = false := by rw [beq_eq_false_iff_ne]; omega
  have lg1 := ga.lt
  have lg2 := gb.lt
  go_enter Takg.func10, Takg.ntmps10
  go_wp2_with fail
  refine D1.out.mono ?_
  rintro e w1 ⟨k1, rfl, rfl⟩
  go_wp2_with fail
  refine D2.out.mono ?_
  rintro e w2 ⟨k2, rfl, rfl⟩
  go_wp2_with fail
  clear i1 i2
  go_loop [5] (fun v => ∃ q : Nat, v = .int .i64 q ∧ 1 ≤ q ∧ q ≤ k) (fun v => 20 - (intOf v).toNat)
  case atStart => exact ⟨1, rfl, by omega, by omega⟩
  case round =>
    obtain ⟨q, rfl, q1, q2⟩ := hrel
    have hw := HP.out q (by omega)
    have hsum : IntKind.i64.wrap ((A : Int) + (B : Int)) = (A : Int) + (B : Int) := by rw [IntKind.wrap_i64]; omega
    by_cases hlt : q < k
    · have hl := HLOW.out q q1 hlt
      have hdec := dec_lt hw hl
      clear hwk hw hl
      go_wp2_with fail
      go_round
      case rel => exact ⟨q + 1, by go_num, by omega, by omega⟩
      case measure => simp [intOf]; omega
    · have hqk : q = k := by omega
      subst hqk
      have hl := HFIT.out
      have hdec : decide ((n : Int) < (A : Int) + (B : Int) - 1) = false := decide_eq_false (by omega)
      clear hw hlt HLOW HFIT hl HP
      have hu8 : IntKind.u8.wrap (q : Int) = (q : Int) := by rw [IntKind.wrap_u8]; omega
      have hu8' : IntKind.u8.wrap ((q : Int) + 1) = (q : Int) + 1 := by rw [IntKind.wrap_u8]; omega
      go_wp2_with fail
      refine (HTB.out _).mono ?_
      rintro e w3 ⟨bt, rfl, hbt, kt3, hc3⟩
      have ga3 := hc3.dig ga (by simp)
      have gb3 := hc3.dig gb (by simp)
      have gt : w2.heap.size ≤ bt := by have := hbt.out; omega
      have lt3 := kt3.lt
      clear hdec hsum ga gb hbt HTB hwk
      go_wp2_with fail
      refine (HFA.out k1 bt _ ga3 kt3).mono ?_
      rintro e w4 ⟨bx, be, rfl, nxe, gx, ge, kx4, ke4, hc4⟩
      have ga4 := hc4.dig ga3 (by simp)
      have gb4 := hc4.dig gb3 (by simp)
      have kt4 := hc4.blk kt3 (by simp)
      have cw4 := hc3.trans hc4
      have s3 := hc3.size
      have s4 := hc4.size
      have lx4 := kx4.lt
      have le4 := ke4.lt
      have nxt : bx ≠ bt := by omega
      clear ga3 gb3 kt3 hc3 hc4 HFA
      go_wp2_with fail
      refine (HFB.out k2 bt _ gb4 kt4).mono ?_
      rintro e w5 ⟨bY, bf, rfl, nyf, gy, gf, ky5, kf5, hc5⟩
      have ga5 := hc5.dig ga4 (by simp)
      have gb5 := hc5.dig gb4 (by simp)
      have kt5 := hc5.blk kt4 (by simp)
      have kx5 := hc5.blk kx4 (by simp)
      have ke5 := hc5.blk ke4 (by simp)
      have cw5 := cw4.trans hc5
      have nxy : bx ≠ bY := by omega
      have nef : be ≠ bf := by omega
      have nxf : bx ≠ bf := by omega
      clear ga4 gb4 kt4 kx4 ke4 cw4 hc5 HFB s4
      go_wp2_with fail
      refine (HM.out _).mono ?_
      rintro e w6 ⟨rfl, rfl⟩
      go_wp2_with fail
      refine (HTM.out bx bY _ nxy kx5 ky5).mono ?_
      rintro e w7 ⟨rfl, kx7, hc7⟩
      have ga7 := hc7.dig ga5 (by simp; omega)
      have gb7 := hc7.dig gb5 (by simp; omega)
      have kt7 := hc7.blk kt5 (by simpa using Ne.symm nxt)
      have ke7 := hc7.blk ke5 (by simpa using Ne.symm nxe)
      have kf7 := hc7.blk kf5 (by simpa using Ne.symm nxf)
      have cw7 := cw5.news hc7 (by simp; omega)
      clear ga5 gb5 kt5 kx5 ky5 ke5 kf5 cw5 hc7 HTM HM
      go_wp2_with fail
      refine (HET.out be bf _ nef ke7 kf7).mono ?_
      rintro e w8 ⟨rfl, ke8, hc8⟩
      rw [HEM.out] at ke8
      have ga8 := hc8.dig ga7 (by simp; omega)
      have gb8 := hc8.dig gb7 (by simp; omega)
      have kt8 := hc8.blk kt7 (by simp; omega)
      have kx8 := hc8.blk kx7 (by simpa using nxe)
      have cw8 := cw7.news hc8 (by simp; omega)
      clear ga7 gb7 kt7 kx7 ke7 kf7 cw7 hc8 HET HEM
      obtain ⟨S, hS⟩ : ∃ S, S = 124 * q := ⟨_, rfl⟩
      have h124 : 2 * (q : Int) * 62 = (S : Int) := by omega
      have HSQ := hide hS
      clear hS
      go_upto_region 14 with fail
      go_cut [13] (fun v wc => v = .int .i64 S ∧ w8 = wc)
      case first =>
        go_wp2_with fail
        go_meet
        exact ⟨rfl, rfl⟩
      case rest =>
        obtain ⟨rfl, hww⟩ := hcut
        subst hww
        clear h124
        go_wp2_with fail
        refine (HSH.out S bx be _ HSQ.out kx8 ke8).mono ?_
        rintro e w9 ⟨rfl, hc9⟩
        have ga9 := hc9.dig ga8 (by simp)
        have gb9 := hc9.dig gb8 (by simp)
        have kt9 := hc9.blk kt8 (by simp)
        have kx9 := hc9.blk kx8 (by simp)
        have ke9 := hc9.blk ke8 (by simp)
        have cw9 := cw8.trans hc9
        clear ga8 gb8 kt8 kx8 ke8 cw8 hc9 HSH
        go_wp2_with fail
        refine (HIN.out S k1 k2 bx be bt _ HSQ.out ga9 gb9 kx9 ke9 kt9 nxe nxt (by omega) (by omega)).mono ?_
        rintro e w10 ⟨rfl, hc10⟩
        have cw10 := cw9.news hc10 (by simp; omega)
        go_wp2_with fail
        go_ret
        exact ⟨rfl, cw10⟩
end Ex
end Go.Proofs.Ygctak
