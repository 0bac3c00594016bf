/-
  Walks: Convolve where there is nothing to convolve; Run of too great digits; doubleLoop of an empty operand.
-/
import Derived.Test.YgctakCx6
namespace Go.Proofs.Ygctak
open Go.RowKit
set_option linter.unusedVariables false
set_option linter.unusedSimpArgs false
attribute [local go_sem ↓] Go.wp_at_zero Go.wp_at_succ
namespace Cx
open Ac Fl Sh Ft Ieee

theorem results3 {fn : Func} {t u v : Tmp} (h : fn.results = #[.tmp t, .tmp u, .tmp v]) (tmps : Array Value) (P : Program) (w : World) :
    (results fn tmps).run P w = .ok (.tuple #[tmps.getD t undef, tmps.getD u undef, tmps.getD v undef]) w := by
  simp [results, h]

theorem Convolve_bad (a1 a2 : Option Addr) (c1 c2 d : Nat) (xs ys : List Int) (w : World) (hd : d ≤ 255) (l1 : xs.length ≤ 600) (l2 : ys.length ≤ 600) (g1 : Opd w a1 xs) (g2 : Opd w a2 ys) (hx : Byte xs) (hy : Byte ys)
    (hbad : 512 < xs.length ∨ 512 < ys.length ∨ abv d xs = true ∨ abv d ys = true) :
    Calls Takg.prog 34 #[.slice a1 xs.length c1, .slice a2 ys.length c2, .int .u8 d] w fun e w' =>
      e = .returned (.tuple #[.slice none 0 0, .bool false, .bool false]) ∧ w' = w := by
  have H1 := hide (above_gen a1 c1 d xs w hd l1 g1 hx)
  have H2 := hide (above_gen a2 c2 d ys w hd l2 g2 hy)
  generalize abv d xs = p1 at *
  generalize abv d ys = p2 at *
  clear g1 g2 hx hy
  generalize xs.length = A at *
  generalize ys.length = B at *
  by_cases hA : 512 < A
  · clear hbad
    go_enter Takg.func34, Takg.ntmps34
    go_wp2_with fail
    refine bodyPost_ret (results3 rfl _ _ _) rfl ?_
    exact ⟨rfl, rfl⟩
  · have i3 : decide ((512 : Int) < (A : Int)) = false := decide_eq_false (by omega)
    by_cases hB : 512 < B
    · clear hbad
      go_enter Takg.func34, Takg.ntmps34
      go_wp2_with fail
      refine bodyPost_ret (results3 rfl _ _ _) rfl ?_
      exact ⟨rfl, rfl⟩
    · have i4 : decide ((512 : Int) < (B : Int)) = false := decide_eq_false (by omega)
      cases p1
      · have hp2 : p2 = true := by
          rcases hbad with h | h | h | h
          · omega
          · omega
          · cases h
          · exact h
        subst hp2
        clear hbad
        go_enter Takg.func34, Takg.ntmps34
        go_wp2_with fail
        refine H1.out.mono ?_
        rintro e w' ⟨rfl, rfl⟩
        go_wp2_with fail
        refine H2.out.mono ?_
        rintro e w'' ⟨rfl, rfl⟩
        go_wp2_with fail
        refine bodyPost_ret (results3 rfl _ _ _) rfl ?_
        exact ⟨rfl, rfl⟩
      · clear hbad
        go_enter Takg.func34, Takg.ntmps34
        go_wp2_with fail
        refine H1.out.mono ?_
        rintro e w' ⟨rfl, rfl⟩
        go_wp2_with fail
        refine bodyPost_ret (results3 rfl _ _ _) rfl ?_
        exact ⟨rfl, rfl⟩

theorem Convolve_empty (a1 a2 : Option Addr) (c1 c2 d : Nat) (xs ys : List Int) (w : World) (hd : d ≤ 255) (l1 : xs.length ≤ 512) (l2 : ys.length ≤ 512) (g1 : Opd w a1 xs) (g2 : Opd w a2 ys) (hx : Byte xs) (hy : Byte ys)
    (n1 : abv d xs = false) (n2 : abv d ys = false) (he : xs.length = 0 ∨ ys.length = 0) :
    Calls Takg.prog 34 #[.slice a1 xs.length c1, .slice a2 ys.length c2, .int .u8 d] w fun e w' =>
      e = .returned (.tuple #[.slice none 0 0, .bool true, .bool true]) ∧ w' = w := by
  have H1 := hide (n1 ▸ above_gen a1 c1 d xs w hd (by omega) g1 hx)
  have H2 := hide (n2 ▸ above_gen a2 c2 d ys w hd (by omega) g2 hy)
  clear g1 g2 hx hy n1 n2
  generalize xs.length = A at *
  generalize ys.length = B at *
  have i3 : decide ((512 : Int) < (A : Int)) = false := decide_eq_false (by omega)
  have i4 : decide ((512 : Int) < (B : Int)) = false := decide_eq_false (by omega)
  by_cases hA : A = 0
  · subst hA
    clear he i3
    go_enter Takg.func34, Takg.ntmps34
    go_wp2_with fail
    refine H1.out.mono ?_
    rintro e w' ⟨rfl, rfl⟩
    go_wp2_with fail
    refine H2.out.mono ?_
    rintro e w'' ⟨rfl, rfl⟩
    go_wp2_with fail
    refine bodyPost_ret (results3 rfl _ _ _) rfl ?_
    exact ⟨rfl, rfl⟩
  · have hB : B = 0 := by omega
    subst hB
    have i1 : ((A : Int) == 0) = false := by rw [beq_eq_false_iff_ne]; omega
    clear he i4
    go_enter Takg.func34, Takg.ntmps34
    go_wp2_with fail
    refine H1.out.mono ?_
    rintro e w' ⟨rfl, rfl⟩
    go_wp2_with fail
    refine H2.out.mono ?_
    rintro e w'' ⟨rfl, rfl⟩
    go_wp2_with fail
    refine bodyPost_ret (results3 rfl _ _ _) rfl ?_
    exact ⟨rfl, rfl⟩

theorem Run_bad (a1 a2 : Option Addr) (c1 c2 d : Nat) (xs ys : List Int) (w : World) (hd : d ≤ 255) (l1 : xs.length ≤ 600) (l2 : ys.length ≤ 600) (g1 : Opd w a1 xs) (g2 : Opd w a2 ys) (hx : Byte xs) (hy : Byte ys)
    (hbad : abv d xs = true ∨ abv d ys = true) :
    Calls Takg.prog 21 #[.slice a1 xs.length c1, .slice a2 ys.length c2, .int .u8 d] w fun e w' => e = .returned (.slice none 0 0) ∧ w' = w := by
  have H1 := hide (above_gen a1 c1 d xs w hd l1 g1 hx)
  have H2 := hide (above_gen a2 c2 d ys w hd l2 g2 hy)
  generalize abv d xs = p1 at *
  generalize abv d ys = p2 at *
  clear g1 g2 hx hy
  generalize xs.length = A at *
  generalize ys.length = B at *
  by_cases hA0 : A = 0
  · subst hA0
    clear hbad
    go_enter Takg.func21, Takg.ntmps21
    go_wp2_with fail
    go_ret
    exact ⟨rfl, rfl⟩
  · have i1 : ((A : Int) == 0) = false := by rw [beq_eq_false_iff_ne]; omega
    by_cases hB0 : B = 0
    · subst hB0
      clear hbad
      go_enter Takg.func21, Takg.ntmps21
      go_wp2_with fail
      go_ret
      exact ⟨rfl, rfl⟩
    · have i2 : ((B : Int) == 0) = false := by rw [beq_eq_false_iff_ne]; omega
      by_cases hA : 512 < A
      · have i3 : decide ((512 : Int) < (A : Int)) = true := decide_eq_true (by omega)
        clear hbad
        go_enter Takg.func21, Takg.ntmps21
        go_wp2_with fail
        go_ret
        exact ⟨rfl, rfl⟩
      · have i3 : decide ((512 : Int) < (A : Int)) = false := decide_eq_false (by omega)
        by_cases hB : 512 < B
        · have i4 : decide ((512 : Int) < (B : Int)) = true := decide_eq_true (by omega)
          clear hbad
          go_enter Takg.func21, Takg.ntmps21
          go_wp2_with fail
          go_ret
          exact ⟨rfl, rfl⟩
        · have i4 : decide ((512 : Int) < (B : Int)) = false := decide_eq_false (by omega)
          cases p1
          · have hp2 : p2 = true := by
              rcases hbad with h | h
              · cases h
              · exact h
            subst hp2
            clear hbad
            go_enter Takg.func21, Takg.ntmps21
            go_wp2_with fail
            refine H1.out.mono ?_
            rintro e w' ⟨rfl, rfl⟩
            go_wp2_with fail
            refine H2.out.mono ?_
            rintro e w'' ⟨rfl, rfl⟩
            go_wp2_with fail
            go_ret
            exact ⟨rfl, rfl⟩
          · clear hbad
            go_enter Takg.func21, Takg.ntmps21
            go_wp2_with fail
            refine H1.out.mono ?_
            rintro e w' ⟨rfl, rfl⟩
            go_wp2_with fail
            go_ret
            exact ⟨rfl, rfl⟩

theorem doubleLoop_nil (a1 a2 : Option Addr) (A B c1 c2 : Nat) (w : World) (l1 : A ≤ 512) (l2 : B ≤ 512) (h : A = 0 ∨ B = 0) :
    Calls Takg.prog 82 #[.slice a1 A c1, .slice a2 B c2] w fun e w' => e = .returned (.slice none 0 0) ∧ w' = w := by
  by_cases hA0 : A = 0
  · subst hA0
    clear h
    go_enter Takg.func82, Takg.ntmps82
    go_wp2_with fail
    go_ret
    exact ⟨rfl, rfl⟩
  · have hB0 : B = 0 := by omega
    have i1 : ((A : Int) == 0) = false := by rw [beq_eq_false_iff_ne]; omega
    subst hB0
    clear h
    go_enter Takg.func82, Takg.ntmps82
    go_wp2_with fail
    go_ret
    exact ⟨rfl, rfl⟩
end Cx
end Go.Proofs.Ygctak
