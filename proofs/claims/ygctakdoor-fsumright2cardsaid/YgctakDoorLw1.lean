/-
  Walks: law.accTotal, sum.Exact, sum.Fsum, law.same.
-/
import Derived.Test.YgctakDoorRnd2
import Derived.Test.YgctakDoorSh4
namespace Go.Proofs.YgctakDoor
open Go.RowKit
set_option linter.unusedVariables false
set_option linter.unusedSimpArgs false
attribute [local go_sem ↓] Go.wp_at_zero Go.wp_at_succ
namespace Lw
open Ac Rn Fl Bt Shw Rd Fb

/-- The exact sum, in units of 2^-1074. -/
def tot (xs : List Nat) : Int := (xs.map V).sum
theorem tot_next (xs : List Nat) (i : Nat) (h : i < xs.length) : tot (xs.take (i + 1)) = tot (xs.take i) + V (xs.getD i 0) := by
  unfold tot
  rw [List.take_succ_eq_append_getElem h, List.map_append, List.sum_append, List.getD_eq_getElem?_getD, List.getElem?_eq_getElem h]
  simp
theorem tot_all (xs : List Nat) : tot (xs.take xs.length) = tot xs := by rw [List.take_of_length_le (Nat.le_refl _)]

theorem getD_mem {xs : List Nat} {P : Nat → Prop} (h : ∀ x ∈ xs, P x) (j : Nat) (hj : j < xs.length) : P (xs.getD j 0) := by
  apply h
  rw [List.getD_eq_getElem?_getD, List.getElem?_eq_getElem hj]
  exact List.getElem_mem _

set_option maxRecDepth 100000 in
set_option maxHeartbeats 1000000 in
theorem accTotal_any (b cap : Nat) (xs : List Nat) (w : World) (hn : xs.length ≤ 3) (hr : Row w b xs) (hd : ∀ x ∈ xs, Dbl 1000 x) :
    Calls Takg.prog 8 #[.slice (some ⟨b, 0, none⟩) xs.length cap] w fun e w' => e = .returned (.agg (W (tot xs * 2 ^ 1074)).toArray) ∧ Chg [] w w' := by
  have HD := hide (getD_mem hd)
  have HN := hide (tot_next xs)
  have HA := hide (tot_all xs)
  have HRow := hide hr
  have hb0 := hr.lt
  obtain ⟨Y, hS⟩ : ∃ S, Hid (S = tot xs * 2 ^ 1074) := ⟨_, hide rfl⟩
  have hS2 := hS
  unfold Hid at hS2
  rw [← hS2]
  obtain ⟨n, hn0⟩ : ∃ n, n = xs.length := ⟨_, rfl⟩
  rw [← hn0] at hn HD HN HA ⊢
  have HNN := hide hn0
  clear hn0 hS2 hd hr
  go_enter Takg.func8, Takg.ntmps8
  go_upto_region 1 with (refine wpList_zeroAcc (by rfl) (by rfl) ?_; intro bB wB hbB hkB hcB)
  go_wp2_with (refine wpList_zeroAcc (by rfl) (by rfl) ?_; intro b1 w1 hb1 hk1 hc1)
  have hkB2 := hc1.blk hkB (by simp)
  have hcw : Chg [] w w1 := hcB.trans hc1
  have s1 := hcB.size
  have gB : w.heap.size ≤ bB := by have := hbB.out; omega
  have g1 : w.heap.size ≤ b1 := by have := hb1.out; omega
  have hne : bB ≠ b1 := by have := hb1.out; have := hkB.lt; omega
  have hrow := HRow.out.chg hcw (by simp)
  have hA := At.whole hk1
  clear hkB hcB hc1 hk1 hb1 hbB s1
  go_loopw [4] (fun i wr => ∃ i' : Nat, i = .int .i64 i' ∧ i' ≤ n ∧ At wr b1 0 31 [] (W (tot (xs.take i') * 2 ^ 1074)) [] ∧ Blk wr bB 31 (W 0) ∧ Hid (Row wr b xs) ∧ Chg [] w wr) (fun i _ => n - (intOf i).toNat)
  case atStart => exact ⟨0, rfl, by omega, by rw [List.take_zero, show tot [] = 0 from rfl, Int.zero_mul]; exact hA, hkB2, hrow, hcw⟩
  case round =>
    clear hA hkB2 hrow hcw
    obtain ⟨i, rfl, hi, hA, hkB, HR, hc⟩ := hrel
    by_cases hlt : i < n
    · have hcell := HR.out.2 i (by have := HNN.out; omega)
      have hx := HD.out i hlt
      have hnx := HN.out i hlt
      generalize xs.getD i 0 = x at *
      have HADD := hide (fun W' hW => AddFloat_any b1 0 31 [] [] (tot (xs.take i) * 2 ^ 1074) x W' hx.fin hx.lt hW)
      have e : tot (xs.take i) * 2 ^ 1074 + V x * 2 ^ 1074 = tot (xs.take (i + 1)) * 2 ^ 1074 := by rw [hnx, Int.add_mul]
      rw [e] at HADD
      clear e hnx hx
      go_wp2_with fail
      refine (HADD.out _ hA).mono ?_
      rintro e w2 ⟨rfl, hA2, hc2⟩
      have hkB2 := hc2.blk hkB (by simpa using hne)
      have HR2 : Hid (Row w2 b xs) := HR.out.chg hc2 (by simp; omega)
      have hc3 : Chg [] w w2 := hc.news hc2 (by simp; omega)
      clear hA hkB HR hc hc2 hcell
      go_wp2_with fail
      go_roundw
      case rel => exact ⟨i + 1, by go_num, by omega, hA2, hkB2, HR2, hc3⟩
      case measure => simp [intOf]; omega
    · have hin : i = n := by omega
      subst hin
      rw [HA.out, ← hS.out] at hA
      go_wp2_with (refine wpList_moveAcc (by rfl) _ (by rfl) (by rfl) _ _ (by rfl) (by rfl) b1 0 31 bB 0 31 [] [] [] [] (W 0) Y (by rfl) hA (W_length _) (At.whole hkB) (fun _ => by rfl) (fun _ => by rfl) ?_; intro w6 hk6 hc6)
      exact bodyPost_ret (results_row (by rfl) _ _ _ bB 0 (by rfl) (W Y) _ hk6.rangeAt Takg.underlying31 (by rfl) (by rw [W_length]; exact info31)) rfl ⟨rfl, hc.news hc6 (by simp; omega)⟩

set_option maxRecDepth 100000 in
set_option maxHeartbeats 1000000 in
theorem Exact_any (b cap : Nat) (xs : List Nat) (w : World) (hn : xs.length ≤ 3) (hr : Row w b xs) (hd : ∀ x ∈ xs, Dbl 1000 x) (hb : (tot xs).natAbs ≤ 2 ^ 2096) (ht : Tab w) :
    Calls Takg.prog 13 #[.slice (some ⟨b, 0, none⟩) xs.length cap] w fun e w' => ∃ r, e = .returned (.float .f64 r) ∧ Is r (tot xs) ∧ Chg [] w w' := by
  have HRF := hide (refusedS_any b cap xs w hn hr hd)
  have HD := hide (getD_mem hd)
  have HN := hide (tot_next xs)
  have HA := hide (tot_all xs)
  have HRow := hide hr
  have HT := hide ht
  have HB := hide hb
  have hb0 := hr.lt
  obtain ⟨S, hS⟩ : ∃ S, Hid (S = tot xs) := ⟨_, hide rfl⟩
  have hS2 := hS
  unfold Hid at hS2
  rw [← hS2] at HB ⊢
  obtain ⟨n, hn0⟩ : ∃ n, n = xs.length := ⟨_, rfl⟩
  rw [← hn0] at hn HD HN HA HRF ⊢
  have HNN := hide hn0
  clear hn0 hS2 hd hr ht hb
  go_enter Takg.func13, Takg.ntmps13
  go_wp2_with fail
  refine HRF.out.mono ?_
  rintro e w' ⟨rfl, rfl⟩
  go_wp2_with (refine wpList_zeroAcc (by rfl) (by rfl) ?_; intro b1 w1 hb1 hk1 hc1)
  have g1 : w'.heap.size ≤ b1 := by have := hb1.out; omega
  have hrow := HRow.out.chg hc1 (by simp)
  have hA := At.whole hk1
  clear hk1 hb1
  go_loopw [4] (fun i wr => ∃ i' : Nat, i = .int .i64 i' ∧ i' ≤ n ∧ At wr b1 0 31 [] (W (tot (xs.take i') * 2 ^ 1074)) [] ∧ Hid (Row wr b xs) ∧ Chg [] w' wr) (fun i _ => n - (intOf i).toNat)
  case atStart => exact ⟨0, rfl, by omega, by rw [List.take_zero, show tot [] = 0 from rfl, Int.zero_mul]; exact hA, hrow, hc1⟩
  case round =>
    clear hA hrow hc1
    obtain ⟨i, rfl, hi, hA, HR, hc⟩ := hrel
    by_cases hlt : i < n
    · have hcell := HR.out.2 i (by have := HNN.out; omega)
      have hx := HD.out i hlt
      have hnx := HN.out i hlt
      generalize xs.getD i 0 = x at *
      have HADD := hide (fun W' hW => AddFloat_any b1 0 31 [] [] (tot (xs.take i) * 2 ^ 1074) x W' hx.fin hx.lt hW)
      have e : tot (xs.take i) * 2 ^ 1074 + V x * 2 ^ 1074 = tot (xs.take (i + 1)) * 2 ^ 1074 := by rw [hnx, Int.add_mul]
      rw [e] at HADD
      clear e hnx hx
      go_wp2_with fail
      refine (HADD.out _ hA).mono ?_
      rintro e w2 ⟨rfl, hA2, hc2⟩
      have HR2 : Hid (Row w2 b xs) := HR.out.chg hc2 (by simp; omega)
      have hc3 : Chg [] w' w2 := hc.news hc2 (by simp; omega)
      clear hA HR hc hc2 hcell
      go_wp2_with fail
      go_roundw
      case rel => exact ⟨i + 1, by go_num, by omega, hA2, HR2, hc3⟩
      case measure => simp [intOf]; omega
    · have hin : i = n := by omega
      subst hin
      rw [HA.out, ← hS.out] at hA
      have HRD := hide (Round_any b1 0 31 [] [] S wr HB.out hA (HT.out.chg hc (by simp)))
      clear hA HB
      go_wp2_with fail
      refine HRD.out.mono ?_
      rintro e w2 ⟨r, rfl, hri, hc2⟩
      have HRI := hide hri
      clear hri
      go_wp2_with fail
      go_ret
      exact ⟨r, rfl, HRI.out, hc.trans hc2⟩

theorem sumFsum_any (b cap : Nat) (xs : List Nat) (w : World) (hn : xs.length ≤ 3) (hr : Row w b xs) (hd : ∀ x ∈ xs, Dbl 1000 x) :
    Calls Takg.prog 12 #[.slice (some ⟨b, 0, none⟩) xs.length cap] w fun e w' => ∃ r, e = .returned (.float .f64 r) ∧ Finite r ∧ r < 2 ^ 64 ∧ (growAll (xs.map V) = [] → r = 0) ∧ V r = finV (growAll (xs.map V)).reverse ∧ Chg [] w w' := by
  have HF := hide (Fsum_any b cap xs w hn hr hd)
  generalize growAll (xs.map V) = G at *
  generalize xs.length = n at *
  clear hr hd
  go_enter Takg.func12, Takg.ntmps12
  go_wp2_with fail
  refine HF.out.mono ?_
  rintro e w2 ⟨r, rfl, h1, h2, h3, h4, h5⟩
  have H := hide (And.intro h1 (And.intro h2 (And.intro h3 h4)))
  clear h1 h2 h3 h4
  go_wp2_with fail
  go_ret
  exact ⟨r, rfl, H.out.1, H.out.2.1, H.out.2.2.1, H.out.2.2.2, h5⟩

theorem same_any (r : Nat) (w : World) : Calls Takg.prog 10 #[.float .f64 r, .float .f64 r] w fun e w' => e = .returned (.bool true) ∧ w' = w := by
  have HB := hide (fun W : World => b64_any r W)
  go_enter Takg.func10, Takg.ntmps10
  go_wp2_with fail
  refine (HB.out _).mono ?_
  rintro e w' ⟨rfl, rfl⟩
  go_wp2_with fail
  refine (HB.out _).mono ?_
  rintro e w' ⟨rfl, rfl⟩
  go_wp2_with fail
  go_ret
  exact ⟨rfl, rfl⟩
end Lw
end Go.Proofs.YgctakDoor
