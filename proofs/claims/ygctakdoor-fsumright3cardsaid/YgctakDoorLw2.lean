/-
  Walks: law.ends, atMost, admitted, floats.
-/
import Derived.Test.YgctakDoorLw1
namespace Go.Proofs.YgctakDoor
open Go.RowKit
set_option linter.unusedVariables false
set_option linter.unusedSimpArgs false
attribute [local go_sem ↓] Go.wp_at_zero Go.wp_at_succ
attribute [local go_sem] Shw.run_store_float
namespace Lw
open Ac Rn Fl Bt Shw Rd Fb

/-- The places of the lowest and of the highest 1 among the first i bits of m, as far as they are wanted. -/
def En (m i : Nat) (lo hi : Int) : Prop := (lo = -1 ∧ hi = -1 ∧ m % 2 ^ i = 0) ∨ (0 ≤ lo ∧ ∃ h : Nat, hi = h ∧ h < i ∧ lo ≤ hi ∧ m % 2 ^ i < 2 ^ (h + 1) ∧ (lo = hi → m % 2 ^ i = 2 ^ h))

theorem En.zero {m i : Nat} {lo hi : Int} (h : En m i lo hi) (hb : m / 2 ^ i % 2 = 0) : En m (i + 1) lo hi := by
  have e : m % 2 ^ (i + 1) = m % 2 ^ i := by rw [Nat.pow_succ, Nat.mod_mul, hb]; omega
  rcases h with ⟨h1, h2, h3⟩ | ⟨h1, h, h2, h3, h4, h5, h6⟩
  · exact .inl ⟨h1, h2, by rw [e]; exact h3⟩
  · exact .inr ⟨h1, h, h2, by omega, h4, by rw [e]; exact h5, fun hh => by rw [e]; exact h6 hh⟩
theorem En.first {m i : Nat} {lo hi : Int} (h : En m i lo hi) (hlo : lo < 0) (hb : m / 2 ^ i % 2 = 1) : En m (i + 1) i i := by
  rcases h with ⟨h1, h2, h3⟩ | ⟨h1, _⟩
  · have e : m % 2 ^ (i + 1) = 2 ^ i := by rw [Nat.pow_succ, Nat.mod_mul, hb, h3]; omega
    refine .inr ⟨by omega, i, rfl, by omega, by omega, ?_, fun _ => e⟩
    rw [e, Nat.pow_succ]
    have := Nat.two_pow_pos i
    omega
  · omega
theorem En.more {m i : Nat} {lo hi : Int} (h : En m i lo hi) (hlo : 0 ≤ lo) (hb : m / 2 ^ i % 2 = 1) : En m (i + 1) lo i := by
  rcases h with ⟨h1, _⟩ | ⟨h1, h, h2, h3, h4, h5, h6⟩
  · omega
  · exact .inr ⟨h1, i, rfl, by omega, by omega, Nat.mod_lt _ (Nat.two_pow_pos _), fun hh => by omega⟩

set_option maxHeartbeats 1000000 in
theorem ends_any (m : Nat) (w : World) (hm : m < 2 ^ 53) : Calls Takg.prog 34 #[.int .u64 m] w fun e w' => ∃ lo hi : Int, e = .returned (.tuple #[.int .i64 lo, .int .i64 hi]) ∧ En m 64 lo hi ∧ -1 ≤ lo ∧ lo ≤ 63 ∧ -1 ≤ hi ∧ hi ≤ 63 ∧ w' = w := by
  have hm1 : (m : Int) ≤ 18446744073709551615 := by omega
  go_enter Takg.func34, Takg.ntmps34
  go_wp2_with fail
  go_loop [2, 3, 4] (fun l h i => ∃ (lo hi : Int) (i' : Nat), l = .int .i64 lo ∧ h = .int .i64 hi ∧ i = .int .i64 i' ∧ i' ≤ 64 ∧ Hid (En m i' lo hi) ∧ -1 ≤ lo ∧ lo ≤ 63 ∧ -1 ≤ hi ∧ hi ≤ 63) (fun _ _ i => 64 - (intOf i).toNat)
  case atStart => exact ⟨-1, -1, 0, rfl, rfl, rfl, by omega, .inl ⟨rfl, rfl, by rw [Nat.pow_zero, Nat.mod_one]⟩, by omega, by omega, by omega, by omega⟩
  case round =>
    obtain ⟨lo, hi, i, rfl, rfl, rfl, hi64, HE, l0, l1, h0, h1⟩ := hrel
    by_cases hlt : i < 64
    · obtain ⟨v, hv⟩ : ∃ v, v = m / 2 ^ i := ⟨_, rfl⟩
      have e1 : (m : Int) / 2 ^ i = (v : Int) := by rw [hv, ← Fl.ipow, ← Int.natCast_ediv]
      have e2 := mask1 v (by rw [hv]; exact Nat.lt_of_le_of_lt (Nat.div_le_self _ _) (by omega))
      have hb : v % 2 = 0 ∨ v % 2 = 1 := by omega
      rcases hb with hb | hb
      · rw [hb] at e2
        have HE2 : Hid (En m (i + 1) lo hi) := HE.out.zero (by rw [← hv]; exact hb)
        clear hv hb HE
        go_wp2_with fail
        go_round
        case rel => exact ⟨lo, hi, i + 1, rfl, rfl, by go_num, by omega, HE2, l0, l1, h0, h1⟩
        case measure => simp [intOf]; omega
      · rw [hb] at e2
        by_cases hl : lo < 0
        · have HE2 : Hid (En m (i + 1) i i) := HE.out.first hl (by rw [← hv]; exact hb)
          clear hv hb HE
          go_wp2_with fail
          go_round
          case rel => exact ⟨i, i, i + 1, rfl, rfl, by go_num, by omega, HE2, by omega, by omega, by omega, by omega⟩
          case measure => simp [intOf]; omega
        · have HE2 : Hid (En m (i + 1) lo i) := HE.out.more (by omega) (by rw [← hv]; exact hb)
          clear hv hb HE
          go_wp2_with fail
          go_round
          case rel => exact ⟨lo, i, i + 1, rfl, rfl, by go_num, by omega, HE2, by omega, by omega, by omega, by omega⟩
          case measure => simp [intOf]; omega
    · have hin : i = 64 := by omega
      subst hin
      go_wp2_with fail
      go_ret2
      exact ⟨lo, hi, rfl, HE.out, l0, l1, h0, h1, rfl⟩


set_option exponentiation.threshold 5000 in
theorem most_of (x : Nat) (hx : x < 2 ^ 64) (neg : Bool) (man : Nat) (exp lo hi : Int) (hs : Sp x neg man exp 1) (he : En man 64 lo hi) (h : exp + hi < 1000 ∨ (exp + hi = 1000 ∧ lo = hi)) : Dbl 1000 x := by
  rcases hs with ⟨h1, _⟩ | ⟨_, m0, m1, e0, e1, hf, hv⟩ | ⟨h1, _⟩
  · omega
  · refine ⟨hf, hx, ?_⟩
    rw [hv, sg_abs]
    rw [show man = man % 2 ^ 64 by rw [Nat.mod_eq_of_lt (by omega)]] at m0 ⊢
    rcases he with ⟨_, _, h3⟩ | ⟨_, k, hk, h3, h4, h5, h6⟩
    · omega
    · obtain ⟨u, hu⟩ : ∃ u : Nat, exp + 1074 = u := ⟨(exp + 1074).toNat, by omega⟩
      rw [show (exp + 1074).toNat = u by omega]
      rcases h with h | ⟨h, hl⟩
      · have h7 : man % 2 ^ 64 * 2 ^ u ≤ 2 ^ (k + 1) * 2 ^ u := Nat.mul_le_mul_right _ (Nat.le_of_lt h5)
        rw [← Nat.pow_add] at h7
        exact Nat.le_trans h7 (pow_mono (k + 1 + u) (1000 + 1074) (by omega))
      · rw [h6 hl, ← Nat.pow_add]
        exact pow_mono (k + u) (1000 + 1074) (by omega)
  · omega
theorem most_zero (x : Nat) (hx : x < 2 ^ 64) (neg : Bool) (man : Nat) (exp : Int) (hs : Sp x neg man exp 0) : Dbl 1000 x := by
  rcases hs with ⟨_, _, _, hf, hv⟩ | ⟨h1, _⟩ | ⟨h1, _⟩
  · exact ⟨hf, hx, by rw [hv]; exact Nat.zero_le _⟩
  · omega
  · omega

set_option maxHeartbeats 1000000 in
theorem atMost_any (x : Nat) (w : World) (hx : x < 2 ^ 64) : Calls Takg.prog 15 #[.float .f64 x, .int .i64 1000] w fun e w' => ∃ B : Bool, e = .returned (.bool B) ∧ (B = true → Dbl 1000 x) ∧ w' = w := by
  have HSP := hide (Split64_any x w hx)
  have HZ := hide (most_zero x hx)
  have HM := hide (most_of x hx)
  go_enter Takg.func15, Takg.ntmps15
  go_wp2_with fail
  refine HSP.out.mono ?_
  rintro e w' ⟨neg, man, exp, c, rfl, hsp, rfl⟩
  have hb : c ≤ 3 ∧ man < 2 ^ 53 ∧ -1074 ≤ exp ∧ exp ≤ 971 := by
    rcases hsp with ⟨h1, h2, h3, _⟩ | ⟨h1, h2, h3, h4, h5, _⟩ | ⟨h1, h2, h3, _⟩ <;> omega
  obtain ⟨hc3, hm53, e0, e1⟩ := hb
  have HS := hide hsp
  clear hsp HSP
  by_cases hc1 : c = 1
  · subst hc1
    have HEN := hide (fun W : World => ends_any man W hm53)
    have hm1 : (man : Int) ≤ 18446744073709551615 := by omega
    go_wp2_with fail
    refine (HEN.out _).mono ?_
    rintro e w2 ⟨lo, hi, rfl, hen, l0, l1, h0, h1, rfl⟩
    have HE := hide hen
    clear hen HEN
    by_cases ht : exp + hi < 1000
    · go_wp2_with fail
      go_ret
      exact ⟨true, rfl, fun _ => HM.out neg man exp lo hi HS.out HE.out (.inl ht), rfl⟩
    · have hd0 : decide (exp + hi < 1000) = false := decide_eq_false ht
      by_cases ht2 : exp + hi = 1000
      · have hq1 : (exp + hi == 1000) = true := by rw [beq_iff_eq]; exact ht2
        by_cases ht3 : lo = hi
        · have hq2 : (lo == hi) = true := by rw [beq_iff_eq]; exact ht3
          have H := hide (And.intro ht2 ht3)
          clear ht2 ht3
          go_wp2_with fail
          go_ret
          exact ⟨true, rfl, fun _ => HM.out neg man exp lo hi HS.out HE.out (.inr H.out), rfl⟩
        · have hq2 : (lo == hi) = false := by rw [beq_eq_false_iff_ne]; exact ht3
          clear ht2 ht3
          go_wp2_with fail
          go_ret
          exact ⟨false, rfl, (fun h => by cases h), rfl⟩
      · have hq1 : (exp + hi == 1000) = false := by rw [beq_eq_false_iff_ne]; exact ht2
        clear ht2
        go_wp2_with fail
        go_ret
        exact ⟨false, rfl, (fun h => by cases h), rfl⟩
  · by_cases hc0 : c = 0
    · subst hc0
      go_wp2_with fail
      go_ret
      exact ⟨true, rfl, fun _ => HZ.out neg man exp HS.out, rfl⟩
    · have hq1 : ((c : Int) != 1) = true := by rw [bne_iff_ne]; omega
      have hq2 : ((c : Int) == 0) = false := by rw [beq_eq_false_iff_ne]; omega
      clear hc0 hc1
      go_wp2_with fail
      go_ret
      exact ⟨false, rfl, (fun h => by cases h), rfl⟩

set_option maxHeartbeats 1000000 in
theorem admitted_any (b cap : Nat) (xs : List Nat) (w : World) (hn : xs.length ≤ 3) (hr : Row w b xs) (hx : ∀ x ∈ xs, x < 2 ^ 64) :
    Calls Takg.prog 7 #[.slice (some ⟨b, 0, none⟩) xs.length cap] w fun e w' => (e = .returned (.bool false) ∨ (e = .returned (.bool true) ∧ ∀ x ∈ xs, Dbl 1000 x)) ∧ w' = w := by
  have HX := hide (getD_mem hx)
  have HR := hide hr.2
  have HALL : Hid ((∀ j, j < xs.length → Dbl 1000 (xs.getD j 0)) → ∀ x ∈ xs, Dbl 1000 x) := fun h x hx => by
    obtain ⟨j, hj, rfl⟩ := List.getElem_of_mem hx
    have := h j hj
    rwa [List.getD_eq_getElem?_getD, List.getElem?_eq_getElem hj] at this
  generalize xs.length = n at *
  clear hr hx
  go_enter Takg.func7, Takg.ntmps7
  go_wp2_with fail
  go_loop [3] (fun i => ∃ i' : Nat, i = .int .i64 i' ∧ i' ≤ n ∧ Hid (∀ j, j < i' → Dbl 1000 (xs.getD j 0))) (fun i => n - (intOf i).toNat)
  case atStart => exact ⟨0, rfl, by omega, fun j hj => by omega⟩
  case round =>
    obtain ⟨i, rfl, hi, HI⟩ := hrel
    by_cases hlt : i < n
    · have hc := HR.out i hlt
      have HAT := hide (fun W : World => atMost_any (xs.getD i 0) W (HX.out i hlt))
      obtain ⟨x, hx⟩ : ∃ x, x = xs.getD i 0 := ⟨_, rfl⟩
      rw [← hx] at hc HAT
      have HXE := hide hx
      clear hx
      go_wp2_with fail
      refine (HAT.out _).mono ?_
      rintro e w' ⟨B, rfl, hB, rfl⟩
      cases B
      · clear hB
        go_wp2_with fail
        go_ret
        exact ⟨.inl rfl, rfl⟩
      · have HD := hide (hB rfl)
        clear hB
        go_wp2_with fail
        go_round
        case rel =>
          refine ⟨i + 1, by go_num, by omega, fun j hj => ?_⟩
          by_cases e : j = i
          · rw [e, ← HXE.out]; exact HD.out
          · exact HI.out j (by omega)
        case measure => simp [intOf]; omega
    · have hin : i = n := by omega
      subst hin
      go_wp2_with fail
      go_ret
      exact ⟨.inr ⟨rfl, HALL.out HI.out⟩, rfl⟩
end Lw
end Go.Proofs.YgctakDoor
