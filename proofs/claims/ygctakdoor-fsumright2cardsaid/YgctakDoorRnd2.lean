/-
  Walk: (*Acc).Round.
-/
import Derived.Test.YgctakDoorRnd
import Derived.Test.YgctakDoorSh1
namespace Go.Proofs.YgctakDoor
open Go.RowKit
set_option linter.unusedVariables false
set_option linter.unusedSimpArgs false
attribute [local go_sem ↓] Go.wp_at_zero Go.wp_at_succ
namespace Rd
open Ac Rn Fl Bt Jn

theorem natAbs_scale (N : Int) (e : Nat) : (N * 2 ^ e).natAbs = N.natAbs * 2 ^ e := by rw [Int.natAbs_mul, Int.natAbs_pow]; rfl
set_option exponentiation.threshold 5000 in
theorem fits_of (n : Nat) (Z : Int) (hZ : Z.natAbs = n * 2 ^ 1074) (h : n ≤ 2 ^ 2097) : Fits Z ∧ (Z.natAbs : Int) < half := by
  have h1 : Z.natAbs ≤ 2 ^ 3171 := by
    rw [hZ, pow_split 3171 2097 1074 (by omega)]
    exact Nat.mul_le_mul_right _ h
  have h2 : 2 ^ 3171 < 2 ^ 4351 := Nat.pow_lt_pow_right (by omega) (by omega)
  have h3 : half = ((2 ^ 4351 : Nat) : Int) := by unfold half; exact (Fl.ipow 4351).symm
  unfold Fits
  rw [h3]
  generalize 2 ^ 4351 = A at *
  generalize 2 ^ 3171 = B at *
  omega

set_option maxRecDepth 100000 in
set_option maxHeartbeats 2000000 in
theorem Round_any (b o t : Nat) (p s : List Value) (N : Int) (w : World) (hN : N.natAbs ≤ 2 ^ 2096) (ha : At w b o t p (W (N * 2 ^ 1074)) s) (ht : Tab w) :
    Calls Takg.prog 9 #[.pointer (some ⟨b, o, none⟩)] w fun e w' => ∃ r, e = .returned (.float .f64 r) ∧ Is r N ∧ Chg [] w w' := by
  obtain ⟨n, hn⟩ : ∃ n, n = N.natAbs := ⟨_, rfl⟩
  obtain ⟨Z, hZ⟩ : ∃ Z, Z = N * 2 ^ 1074 := ⟨_, rfl⟩
  obtain ⟨y, hy⟩ : ∃ y, y = n * 2 ^ 1074 := ⟨_, rfl⟩
  have hZy : Z.natAbs = y := by rw [hZ, hy, hn]; exact natAbs_scale N 1074
  obtain ⟨neg, hneg⟩ : ∃ b : Bool, b = decide (N < 0) := ⟨_, rfl⟩
  have hNs : N = sg neg n := by
    rw [hneg, hn]
    by_cases h : N < 0
    · rw [decide_eq_true h]; simp only [sg, if_true]; omega
    · rw [decide_eq_false h]; simp only [sg, Bool.false_eq_true, if_false]; omega
  have hNN := hN
  have hn2 : n ≤ 2 ^ 2097 := by
    rw [← hn] at hN
    exact Nat.le_trans hN (pow_mono 2096 2097 (by omega))
  obtain ⟨fz, fy⟩ := fits_of n Z (by rw [hZy, hy]) hn2
  have hsv : decide (sgn Z < 0) = neg := by
    have h1 : (Z < 0) ↔ (N < 0) := by
      rw [hZ]
      have := ip2 1074
      constructor
      · intro h
        rcases Int.lt_or_le N 0 with h2 | h2
        · exact h2
        · have := Int.mul_nonneg h2 (Int.le_of_lt this)
          generalize N * 2 ^ 1074 = A at *; omega
      · intro h; exact Int.mul_neg_of_neg_of_pos h this
    rw [hneg]
    unfold sgn
    by_cases h : Z < 0
    · rw [if_pos h, decide_eq_true (h1.1 h)]; rfl
    · rw [if_neg h, decide_eq_false (fun h2 => h (h1.2 h2))]
      split <;> rfl
  have HSG := hide (fun (W' : World) (b' : Nat) hW => Sign_any b' 0 31 [] [] Z W' fz (At.whole hW))
  have HAB := hide (fun (W' : World) (b' : Nat) hW => Abs_any b' 0 31 [] [] Z W' fz (At.whole hW))
  rw [hZy] at HAB fy
  have HHI := hide (fun (W' : World) (b' : Nat) hW => highest_any b' 0 31 [] [] y W' fy hW)
  have HT := hide ht
  rw [← hZ] at ha
  obtain ⟨sv, hsv2⟩ : ∃ v, v = sgn Z := ⟨_, rfl⟩
  have svb : -1 ≤ sv ∧ sv ≤ 1 := by rw [hsv2]; unfold sgn; split; omega; split <;> omega
  rw [← hsv2] at HSG hsv
  obtain ⟨svb0, svb1⟩ := svb
  have HIS := hide (is_of neg n N · hNs)
  have HPU := hide (round_pure n y · · hy)
  have HN0 : Hid (n = 0 → N = 0) := fun h => by omega
  clear hsv2 hZ hneg hZy fz fy ht hN hNs
  by_cases h0 : n = 0
  · have hhi : hi y = -1 := by unfold hi; rw [if_pos (zmul h0 hy)]
    rw [hhi] at HHI
    have hN0 := HN0.out h0
    have HNZ := hide hN0
    clear h0 hhi hN0 hy hn hn2 HIS HPU HN0 hNN
    go_enter Takg.func9, Takg.ntmps9
    go_wp2_with (first | (refine wpList_loadAcc (by rfl) _ (by rfl) b o t p s Z (by rfl) ha ?_) | (refine wpList_newAcc (by rfl) (by rfl) (by rfl) _ _ (by rfl) Z (by rfl) (fun _ => by rfl) (fun _ => by rfl) ?_; intro bm w1 hbm hkm hc1))
    refine (HSG.out _ _ hkm).mono ?_
    rintro e w2 ⟨rfl, rfl⟩
    go_wp2_with fail
    refine (HAB.out _ _ hkm).mono ?_
    rintro e w3 ⟨rfl, hk3, hc3⟩
    go_wp2_with fail
    refine (HHI.out _ _ hk3).mono ?_
    rintro e w4 ⟨rfl, rfl⟩
    go_wp2_with fail
    go_ret
    exact ⟨0, rfl, ⟨Shw.zero_fin.1, by omega, by rw [Shw.zero_fin.2, HNZ.out, RN_zero], fun _ => rfl⟩, hc1.news hc3 (by have := hbm.out; simp; omega)⟩
  · obtain ⟨L, hL⟩ : ∃ L, L = n.log2 - 52 := ⟨_, rfl⟩
    obtain ⟨p1, p2, p3, p4, p5, p6⟩ := HPU.out L h0 hL
    have hhi : hi y = (n.log2 : Int) + 1074 := by
      unfold hi
      rw [if_neg (by intro h; rw [hy] at h; rcases Nat.mul_eq_zero.1 h with h1 | h1; exact h0 h1; exact absurd h1 (Nat.ne_of_gt (Nat.two_pow_pos 1074))), p1]
      omega
    have hlg : n.log2 ≤ 2096 := by
      have h1 := Nat.log2_self_le h0
      exact pow_le_of (Nat.le_trans h1 (hn ▸ hNN))
    have hIS := fun r => HIS.out r h0
    rw [← hL] at hIS
    have HR := hide hIS
    obtain ⟨K, hK⟩ : ∃ K, K = cu n L := ⟨_, rfl⟩
    rw [← hK] at p4 p5 p6 HR
    have hKl : K.log2 ≤ 53 := by
      have h1 := Nat.log2_self_le p5
      exact pow_le_of (Nat.le_trans h1 p6)
    obtain ⟨q, hq⟩ : ∃ q, q = n / 2 ^ L := ⟨_, rfl⟩
    rw [← hq] at p2 p3 p4
    obtain ⟨lo, hlo⟩ : ∃ i, i = L + 1074 := ⟨_, rfl⟩
    obtain ⟨lo1, hlo1⟩ : ∃ i, i = L + 1073 := ⟨_, rfl⟩
    obtain ⟨ei, hei⟩ : ∃ i, i = (L : Int) - 1074 := ⟨_, rfl⟩
    rw [← hlo] at p2
    rw [← hlo1] at p4
    have HJ := hide (fun W' hW => Join64_any neg K L ei W' p5 p6 hei (by omega) hW)
    have HFD := hide (fun W' b' hW => field_any b' 0 31 [] [] y lo W' (by omega) hW)
    rw [p2] at HFD
    have HBT := hide (fun W' b' hW => Bit_any b' 0 31 [] [] y lo1 W' (by omega) hW)
    have HAN := hide (fun W' b' hW => anyBelow_any b' 0 31 [] [] y lo1 W' (by omega) hW)
    have ell : (lo : Int) - 1 = (lo1 : Int) := by omega
    have eii : (lo : Int) - 2148 = ei := by omega
    have eib : -1074 ≤ ei ∧ ei ≤ 2000 := by omega
    have lob : lo ≤ 4000 := by omega
    have lo1b : lo1 ≤ 4000 := by omega
    obtain ⟨eib0, eib1⟩ := eib
    have HLO := hide hlo
    have hq1 := mask1 q (by omega)
    have hLL : L ≤ 2044 := by omega
    obtain ⟨lg, hlgv⟩ : ∃ g, g = n.log2 := ⟨_, rfl⟩
    rw [← hlgv] at hL hlg hhi
    rw [hhi] at HHI
    have HL := hide hL
    have HK4 := hide p4
    have hKb : (K : Int) ≤ 18446744073709551615 := by omega
    have hqb : (q : Int) ≤ 9007199254740992 := by omega
    clear hlo hlo1 hei p1 p2 p4 p5 p6 hhi hK hKl hq hlgv hL HIS HPU HN0 hIS hy hn hn2 h0 p3 hNN
    go_enter Takg.func9, Takg.ntmps9
    go_wp2_with (first | (refine wpList_loadAcc (by rfl) _ (by rfl) b o t p s Z (by rfl) ha ?_) | (refine wpList_newAcc (by rfl) (by rfl) (by rfl) _ _ (by rfl) Z (by rfl) (fun _ => by rfl) (fun _ => by rfl) ?_; intro bm w1 hbm hkm hc1))
    refine (HSG.out _ _ hkm).mono ?_
    rintro e w2 ⟨rfl, rfl⟩
    go_wp2_with fail
    refine (HAB.out _ _ hkm).mono ?_
    rintro e w3 ⟨rfl, hk3, hc3⟩
    have hc13 : Chg [] w w3 := hc1.news hc3 (by have := hbm.out; simp; omega)
    clear hc1 hc3 hkm ha HSG HAB hbm
    go_wp2_with fail
    refine (HHI.out _ _ hk3).mono ?_
    rintro e w4 ⟨rfl, rfl⟩
    clear HHI
    go_upto_region 9 with fail
    obtain ⟨lw, hlw⟩ : ∃ i : Int, i = (lg : Int) + 1074 - 52 := ⟨_, rfl⟩
    have HLW := hide hlw
    clear hlw
    go_cut [6] (fun x wc => x = .int .i64 lw ∧ w4 = wc)
    case first =>
      go_wp2_with fail
      go_meet
      exact ⟨by rw [HLW.out], rfl⟩
    case rest =>
      obtain ⟨rfl, rfl⟩ := hcut
      go_upto_if 24 with fail
      go_cut [6] (fun x wc => x = .int .i64 (lo : Int) ∧ w4 = wc)
      case first =>
        have hl := HL.out
        have hlv := HLW.out
        have hlo := HLO.out
        by_cases h52 : 52 ≤ lg
        · have e : lw = (lo : Int) := by omega
          have hnl : ¬ lw < 1074 := by omega
          have HE := hide e
          clear e hl hlv h52 hlo ell eii
          go_wp2_with fail
          go_meet
          exact ⟨by rw [HE.out], rfl⟩
        · have e : (lo : Int) = 1074 := by omega
          have hnl : lw < 1074 := by omega
          have HE := hide e
          clear e hl hlv h52 hlo ell eii
          go_wp2_with fail
          go_meet
          exact ⟨by rw [HE.out], rfl⟩
      case rest =>
        obtain ⟨rfl, rfl⟩ := hcut
        clear HLW HL
        go_upto_region 12 with fail
        go_cut [7] (fun x wc => x = .int .u64 q ∧ w4 = wc)
        case first =>
          go_wp2_with fail
          refine (HFD.out _ _ hk3).mono ?_
          rintro e w5 ⟨rfl, rfl⟩
          go_wp2_with fail
          go_meet
          exact ⟨rfl, rfl⟩
        case rest =>
          obtain ⟨rfl, rfl⟩ := hcut
          clear HFD
          go_upto_region 13 with fail
          go_cut [39] (fun x wc => ∃ B : Bool, x = .bool B ∧ Hid (K = if B then q + 1 else q) ∧ w4 = wc)
          case first =>
            have hk4 := HK4.out
            by_cases hb1 : y / 2 ^ lo1 % 2 = 1
            · rw [decide_eq_true hb1] at HBT
              by_cases ho : q % 2 = 1
              · rw [if_pos ⟨hb1, .inl ho⟩] at hk4
                rw [ho] at hq1
                have HKV := hide hk4
                clear hk4 hb1 ho HK4
                go_wp2_with fail
                refine (HBT.out _ _ hk3).mono ?_
                rintro e w5 ⟨rfl, rfl⟩
                go_wp2_with fail
                go_meet
                exact ⟨true, rfl, HKV, rfl⟩
              · have ho0 : q % 2 = 0 := by omega
                rw [ho0] at hq1
                by_cases hz : y % 2 ^ lo1 = 0
                · rw [if_neg (by omega)] at hk4
                  rw [decide_eq_false (by simpa using hz)] at HAN
                  have HKV := hide hk4
                  clear hk4 hb1 ho HK4 hz ho0
                  go_wp2_with fail
                  refine (HBT.out _ _ hk3).mono ?_
                  rintro e w5 ⟨rfl, rfl⟩
                  go_wp2_with fail
                  refine (HAN.out _ _ hk3).mono ?_
                  rintro e w5 ⟨rfl, rfl⟩
                  go_wp2_with fail
                  go_meet
                  exact ⟨false, rfl, HKV, rfl⟩
                · rw [if_pos ⟨hb1, .inr hz⟩] at hk4
                  rw [decide_eq_true hz] at HAN
                  have HKV := hide hk4
                  clear hk4 hb1 ho HK4 hz ho0
                  go_wp2_with fail
                  refine (HBT.out _ _ hk3).mono ?_
                  rintro e w5 ⟨rfl, rfl⟩
                  go_wp2_with fail
                  refine (HAN.out _ _ hk3).mono ?_
                  rintro e w5 ⟨rfl, rfl⟩
                  go_wp2_with fail
                  go_meet
                  exact ⟨true, rfl, HKV, rfl⟩
            · rw [decide_eq_false hb1] at HBT
              rw [if_neg (fun h => hb1 h.1)] at hk4
              have HKV := hide hk4
              clear hk4 hb1 HK4
              go_wp2_with fail
              refine (HBT.out _ _ hk3).mono ?_
              rintro e w5 ⟨rfl, rfl⟩
              go_wp2_with fail
              go_meet
              exact ⟨false, rfl, HKV, rfl⟩
          case rest =>
            obtain ⟨B, rfl, HKV, rfl⟩ := hcut
            have hkv := HKV.out
            cases B
            · simp only [Bool.false_eq_true, if_false] at hkv
              subst hkv
              clear HBT HAN HK4 hq1
              have ex : IntKind.i16.wrap ei = ei := IntWalk.i16_in _ (by omega)
              have htb : Tab w4 := HT.out.chg hc13 (by simp)
              go_wp2_with fail
              refine (HJ.out _ htb).mono ?_
              rintro e w5 ⟨r, rfl, hrf, hrl, hrv, hc5⟩
              have HRI := hide (HR.out r hrf hrl hrv)
              clear hrv hrf hrl HR
              go_wp2_with fail
              go_ret
              exact ⟨r, rfl, HRI.out, hc13.trans hc5⟩
            · simp only [if_true] at hkv
              subst hkv
              clear HBT HAN HK4 hq1
              have ex : IntKind.i16.wrap ei = ei := IntWalk.i16_in _ (by omega)
              have htb : Tab w4 := HT.out.chg hc13 (by simp)
              go_wp2_with fail
              refine (HJ.out _ htb).mono ?_
              rintro e w5 ⟨r, rfl, hrf, hrl, hrv, hc5⟩
              have HRI := hide (HR.out r hrf hrl hrv)
              clear hrv hrf hrl HR
              go_wp2_with fail
              go_ret
              exact ⟨r, rfl, HRI.out, hc13.trans hc5⟩
end Rd
end Go.Proofs.YgctakDoor
