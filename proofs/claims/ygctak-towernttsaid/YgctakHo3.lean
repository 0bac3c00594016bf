/-
  Walks: law.b64; fbits.bits64, Split64 (as in the seat gctakD).
-/
import Derived.Test.YgctakHo1
import Derived.Test.YgctakFl2
namespace Go.Proofs.Ygctak
open Go.RowKit
set_option linter.unusedVariables false
set_option linter.unusedSimpArgs false
attribute [local go_sem ↓] Go.wp_at_zero Go.wp_at_succ
namespace Fb
open Ac Fl

theorem V_read {x : Nat} (h : Finite x) (hx : x < 2 ^ 64) : ∃ (neg : Bool) (R : Nat), R < 2047 * 2 ^ 52 ∧ x = Ieee.double.word neg R ∧ V x = if neg then -(valR R : Int) else (valR R : Int) := by
  have hR : x % 2 ^ 63 < 2047 * 2 ^ 52 := by
    obtain ⟨s, m, p, hr⟩ := h
    rcases Nat.lt_or_ge (x % 2 ^ 63) (2047 * 2 ^ 52) with h1 | h1
    · exact h1
    · exfalso
      unfold Ieee.Format.read at hr
      simp only [least] at hr
      split at hr
      · rename_i h2
        rw [sgnW, bin] at h2
        omega
      · split at hr
        · rename_i h2
          rw [sgnW, infR] at h2
          omega
        · split at hr <;> cases hr
  have hw : x = Ieee.double.word (decide (2 ^ 63 ≤ x)) (x % 2 ^ 63) := by
    simp only [Ieee.Format.word, sgnW]
    by_cases h1 : 2 ^ 63 ≤ x
    · rw [if_pos (by simpa using h1)]; omega
    · rw [if_neg (by simpa using h1)]; omega
  refine ⟨_, _, hR, hw, ?_⟩
  have := (V_word (decide (2 ^ 63 ≤ x)) _ hR).2
  rw [← hw] at this
  exact this

theorem bits_run (n : Nat) (w : World) : (callFunc 114 #[.float .f64 n]).run Takg.prog w = .ok (.value (.int .u64 n)) w := by
  rw [run_callFunc_extern Takg.func114 (by kernel_rfl) (by kernel_rfl) (by kernel_rfl) (e := Extern.MathFloatBits.float64bits) (by kernel_rfl)]
  rfl

theorem b64_any (n : Nat) (w : World) : Calls Takg.prog 78 #[.float .f64 n] w fun e w' => e = .returned (.int .u64 n) ∧ w' = w := by
  go_enter Takg.func78, Takg.ntmps78
  go_wp2_with (simp only [bits_run])
  go_ret
  exact ⟨rfl, rfl⟩
theorem bits64_any (n : Nat) (w : World) : Calls Takg.prog 149 #[.float .f64 n] w fun e w' => e = .returned (.int .u64 n) ∧ w' = w := by
  go_enter Takg.func149, Takg.ntmps149
  go_wp2_with (simp only [bits_run])
  go_ret
  exact ⟨rfl, rfl⟩

theorem results_tmp4 {fn : Func} {t u v x : Tmp} (h : fn.results = #[.tmp t, .tmp u, .tmp v, .tmp x]) (tmps : Array Value) (P : Program) (w : World) :
    (results fn tmps).run P w = .ok (.tuple #[tmps.getD t undef, tmps.getD u undef, tmps.getD v undef, tmps.getD x undef]) w := by
  simp [results, h]

/-- What Split64 tells of the word x. -/
def Sp (x : Nat) (neg : Bool) (man : Nat) (exp : Int) (c : Nat) : Prop :=
  (c = 0 ∧ man = 0 ∧ exp = 0 ∧ Finite x ∧ V x = 0) ∨
  (c = 1 ∧ 0 < man ∧ man < 2 ^ 53 ∧ -1074 ≤ exp ∧ exp ≤ 971 ∧ Finite x ∧ V x = sg neg ((man * 2 ^ (exp + 1074).toNat : Nat) : Int) ∧ (2 ^ 52 ≤ man ∨ exp = -1074)) ∨
  ((c = 2 ∨ c = 3) ∧ man = 0 ∧ exp = 0 ∧ ¬ Finite x)

theorem maskM (a : Nat) (ha : a < 18446744073709551616) : bits .and .u64 (a : Int) 4503599627370495 = ((a % 2 ^ 52 : Nat) : Int) := by
  have h := bits_and_u64_nat a 4503599627370495 ha (by omega)
  have e : a &&& 4503599627370495 = a % 2 ^ 52 := Nat.and_two_pow_sub_one_eq_mod a 52
  rw [e] at h
  exact h
theorem maskF (a : Nat) (ha : a < 18446744073709551616) : bits .and .u64 (a : Int) 2047 = ((a % 2048 : Nat) : Int) := by
  have h := bits_and_u64_nat a 2047 ha (by omega)
  have e : a &&& 2047 = a % 2048 := Nat.and_two_pow_sub_one_eq_mod a 11
  rw [e] at h
  exact h
theorem orTop (a : Nat) (ha : a < 2 ^ 52) : bits .or .u64 (a : Int) 4503599627370496 = ((2 ^ 52 + a : Nat) : Int) := by
  have h := bits_or_u64_nat a 4503599627370496 (by omega) (by omega)
  have e : a ||| 4503599627370496 = 2 ^ 52 + a := by
    rw [Nat.or_comm]
    exact (Nat.two_pow_add_eq_or_of_lt (i := 52) ha 1).symm
  rw [e] at h
  exact h

theorem sp_split (x : Nat) (hx : x < 2 ^ 64) (man fld : Nat) (hm : man = x % 2 ^ 52) (hf : fld = x / 2 ^ 52 % 2048) (hfl : fld < 2047) (neg : Bool) (hn : neg = decide (2 ^ 63 ≤ x)) :
    Finite x ∧ V x = sg neg ((if fld = 0 then man else (2 ^ 52 + man) * 2 ^ (fld - 1) : Nat) : Int) := by
  have hw : x = Ieee.double.word neg (fld * 2 ^ 52 + man) := by
    rw [hn]
    simp only [Ieee.Format.word, sgnW]
    by_cases h1 : 2 ^ 63 ≤ x
    · rw [if_pos (by simpa using h1)]; omega
    · rw [if_neg (by simpa using h1)]; omega
  have := V_word neg (fld * 2 ^ 52 + man) (by omega)
  rw [← hw] at this
  refine ⟨this.1, ?_⟩
  rw [this.2]
  have hv : valR (fld * 2 ^ 52 + man) = if fld = 0 then man else (2 ^ 52 + man) * 2 ^ (fld - 1) := by
    unfold valR
    by_cases h0 : fld = 0
    · subst h0; rw [if_pos (by omega), if_pos rfl]; omega
    · rw [if_neg (by omega), if_neg h0, show (fld * 2 ^ 52 + man) % 2 ^ 52 = man by omega, show (fld * 2 ^ 52 + man) / 2 ^ 52 - 1 = fld - 1 by omega]
  rw [hv]
  rfl

theorem not_finite (x : Nat) (hx : x < 2 ^ 64) (h : x / 2 ^ 52 % 2048 = 2047) : ¬ Finite x := by
  intro hf
  obtain ⟨neg, R, hR, hw, _⟩ := V_read hf hx
  simp only [Ieee.Format.word, sgnW] at hw
  split at hw <;> omega

theorem Split64_any (x : Nat) (w : World) (hx : x < 2 ^ 64) :
    Calls Takg.prog 138 #[.float .f64 x] w fun e w' => ∃ neg man exp c, e = .returned (.tuple #[.bool neg, .int .u64 (man : Nat), .int .i16 exp, .int .u8 (c : Nat)]) ∧ Sp x neg man exp c ∧ w' = w := by
  obtain ⟨s, hs⟩ : ∃ s, s = x / 2 ^ 63 := ⟨_, rfl⟩
  obtain ⟨g, hg⟩ : ∃ s, s = x / 2 ^ 52 := ⟨_, rfl⟩
  obtain ⟨fld, hf⟩ : ∃ s, s = g % 2048 := ⟨_, rfl⟩
  obtain ⟨man, hm⟩ : ∃ s, s = x % 2 ^ 52 := ⟨_, rfl⟩
  have e1 : (x : Int) / 9223372036854775808 = (s : Int) := by omega
  have e2 : (x : Int) / 4503599627370496 = (g : Int) := by omega
  have e3 : bits .and .u64 (g : Int) 2047 = (fld : Int) := by rw [maskF g (by omega), hf]
  have e4 : bits .and .u64 (x : Int) 4503599627370495 = (man : Int) := by rw [maskM x (by omega), hm]
  have e5 : IntKind.i16.wrap (fld : Int) = fld := IntWalk.i16_in _ (by omega)
  have hman : man < 2 ^ 52 := by omega
  have hfld : fld < 2048 := by omega
  have e6 := orTop man hman
  obtain ⟨neg, hn⟩ : ∃ b : Bool, b = decide (2 ^ 63 ≤ x) := ⟨_, rfl⟩
  have e7 : ((s : Int) != 0) = neg := by
    rw [hn]
    by_cases h : 2 ^ 63 ≤ x
    · rw [decide_eq_true h, bne_iff_ne]; omega
    · rw [decide_eq_false h, bne_eq_false_iff_eq]; omega
  have HSP := hide (sp_split x hx man fld hm (by rw [hf, hg]) · neg hn)
  have HB := hide (fun W : World => bits64_any x W)
  have HNF : Hid (fld = 2047 → ¬ Finite x) := fun h => not_finite x hx (by omega)
  have hx2 : (x : Int) ≤ 18446744073709551615 := by omega
  have hx0 : (0 : Int) ≤ x := by omega
  clear hs hg hf hm hn
  by_cases h7 : fld = 2047
  · subst h7
    by_cases hm0 : man = 0
    · subst hm0
      go_enter Takg.func138, Takg.ntmps138
      go_wp2_with fail
      refine (HB.out _).mono ?_
      rintro e w' ⟨rfl, rfl⟩
      go_wp2_with fail
      try simp only [Exit.inBlock, Exit.then]
      refine bodyPost_ret (results_tmp4 rfl _ _ _) rfl ?_
      exact ⟨neg, 0, 0, 2, rfl, .inr (.inr ⟨.inl rfl, rfl, rfl, HNF.out (by trivial)⟩), rfl⟩
    · have hmm : ((man : Int) != 0) = true := by rw [bne_iff_ne]; omega
      go_enter Takg.func138, Takg.ntmps138
      go_wp2_with fail
      refine (HB.out _).mono ?_
      rintro e w' ⟨rfl, rfl⟩
      go_wp2_with fail
      try simp only [Exit.inBlock, Exit.then]
      refine bodyPost_ret (results_tmp4 rfl _ _ _) rfl ?_
      exact ⟨false, 0, 0, 3, rfl, .inr (.inr ⟨.inr rfl, rfl, rfl, HNF.out (by trivial)⟩), rfl⟩
  · have hsp := HSP.out (by omega)
    have hff : ((fld : Int) == 2047) = false := by rw [beq_eq_false_iff_ne]; omega
    by_cases h0 : fld = 0
    · rw [if_pos h0] at hsp
      by_cases hm0 : man = 0
      · subst hm0
        have HSP2 := hide hsp
        clear hsp HSP
        subst h0
        go_enter Takg.func138, Takg.ntmps138
        go_wp2_with fail
        refine (HB.out _).mono ?_
        rintro e w' ⟨rfl, rfl⟩
        go_wp2_with fail
        try simp only [Exit.inBlock, Exit.then]
        refine bodyPost_ret (results_tmp4 rfl _ _ _) rfl ?_
        exact ⟨neg, 0, 0, 0, rfl, .inl ⟨rfl, rfl, rfl, HSP2.out.1, by rw [HSP2.out.2]; cases neg <;> rfl⟩, rfl⟩
      · have hmm : ((man : Int) == 0) = false := by rw [beq_eq_false_iff_ne]; omega
        have HSP2 := hide hsp
        clear hsp HSP
        subst h0
        go_enter Takg.func138, Takg.ntmps138
        go_wp2_with fail
        refine (HB.out _).mono ?_
        rintro e w' ⟨rfl, rfl⟩
        go_wp2_with fail
        try simp only [Exit.inBlock, Exit.then]
        refine bodyPost_ret (results_tmp4 rfl _ _ _) rfl ?_
        exact ⟨neg, man, -1074, 1, rfl, .inr (.inl ⟨rfl, by omega, by omega, by omega, by omega, HSP2.out.1, by rw [HSP2.out.2]; simp, .inr rfl⟩), rfl⟩
    · rw [if_neg h0] at hsp
      have hf0 : ((fld : Int) != 0) = true := by rw [bne_iff_ne]; omega
      have HSP2 := hide hsp
      clear hsp HSP
      go_enter Takg.func138, Takg.ntmps138
      go_wp2_with fail
      refine (HB.out _).mono ?_
      rintro e w' ⟨rfl, rfl⟩
      go_wp2_with fail
      try simp only [Exit.inBlock, Exit.then]
      refine bodyPost_ret (results_tmp4 rfl _ _ _) rfl ?_
      refine ⟨neg, 2 ^ 52 + man, (fld : Int) - 1075, 1, ?_, .inr (.inl ⟨rfl, by omega, by omega, by omega, by omega, HSP2.out.1, ?_, .inl (by omega)⟩), rfl⟩
      · simp
      · rw [HSP2.out.2, show ((fld : Int) - 1075 + 1074).toNat = fld - 1 by omega]

end Fb
end Go.Proofs.Ygctak
