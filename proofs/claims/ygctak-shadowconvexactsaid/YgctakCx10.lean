/-
  Walk: law.ShadowConvExact.
-/
import Derived.Test.YgctakCx9
namespace Go.Proofs.Ygctak
open Go.RowKit
set_option linter.unusedVariables false
set_option linter.unusedSimpArgs false
attribute [local go_sem ↓] Go.wp_at_zero Go.wp_at_succ
namespace Cx
open Ac Fl Sh Ft Ieee

set_option maxRecDepth 100000 in
set_option maxHeartbeats 1000000 in
theorem law_great (a1 a2 : Option Addr) (n1 cap1 n2 cap2 d : Nat) (xs ys : List Int) (w : World) (hd : d ≤ 255) (h1 : n1 ≤ cap1) (h1' : cap1 ≤ 9223372036854775807) (h2 : n2 ≤ cap2) (h2' : cap2 ≤ 9223372036854775807) (s1 : 513 < n1 → ∃ b off, a1 = some ⟨b, off, none⟩) (s2 : 513 < n2 → ∃ b off, a2 = some ⟨b, off, none⟩)
    (e1 : xs.length = min n1 513) (e2 : ys.length = min n2 513) (g1 : Opd w a1 xs) (g2 : Opd w a2 ys) (hx : Byte xs) (hy : Byte ys) (hbad : abv d xs = true ∨ abv d ys = true) :
    Calls Takg.prog 12 #[.slice a1 n1 cap1, .slice a2 n2 cap2, .int .u8 d] w fun e w' => e = .returned (.bool true) ∧ Chg [] w w' := by
  have D1 := hide (digits_any a1 n1 cap1 w h1 h1' s1)
  have D2 := hide (digits_any a2 n2 cap2 w h2 h2' s2)
  have HC := hide (fun c1 c2 => Convolve_bad a1 a2 c1 c2 d xs ys w hd (by omega) (by omega) g1 g2 hx hy (.inr (.inr hbad)))
  have HR := hide (fun c1 c2 => Run_bad a1 a2 c1 c2 d xs ys w hd (by omega) (by omega) g1 g2 hx hy hbad)
  have T1 := hide (fun c => tooGreat_any a1 c d xs w hd (by omega) g1 hx)
  have T2 := hide (fun c => tooGreat_any a2 c d ys w hd (by omega) g2 hy)
  rw [← e1] at D1
  rw [← e2] at D2
  have E1 := eql_nil 28 2 none 0 0 Takg.underlying28
  have E2 := eql_nil 44 113 none 0 0 Takg.underlying44
  generalize abv d xs = p1 at *
  generalize abv d ys = p2 at *
  generalize xs.length = A at *
  generalize ys.length = B at *
  clear g1 g2 hx hy s1 s2 e1 e2
  cases p1
  · have hp2 : p2 = true := by
      rcases hbad with h | h
      · cases h
      · exact h
    subst hp2
    clear hbad
    go_enter Takg.func12, Takg.ntmps12
    go_wp2_with fail
    refine D1.out.mono ?_
    rintro e w1 ⟨k1, rfl, rfl⟩
    go_wp2_with fail
    refine D2.out.mono ?_
    rintro e w2 ⟨k2, rfl, rfl⟩
    go_wp2_with fail
    refine (HC.out k1 k2).mono ?_
    rintro e w3 ⟨rfl, rfl⟩
    go_wp2_with fail
    refine (T1.out k1).mono ?_
    rintro e w4 ⟨rfl, rfl⟩
    go_wp2_with fail
    refine (T2.out k2).mono ?_
    rintro e w5 ⟨rfl, rfl⟩
    go_wp2_with fail
    refine (HR.out k1 k2).mono ?_
    rintro e w6 ⟨rfl, rfl⟩
    go_wp2_with fail
    go_ret
    exact ⟨rfl, Chg.refl [] _⟩
  · clear hbad
    go_enter Takg.func12, Takg.ntmps12
    go_wp2_with fail
    refine D1.out.mono ?_
    rintro e w1 ⟨k1, rfl, rfl⟩
    go_wp2_with fail
    refine D2.out.mono ?_
    rintro e w2 ⟨k2, rfl, rfl⟩
    go_wp2_with fail
    refine (HC.out k1 k2).mono ?_
    rintro e w3 ⟨rfl, rfl⟩
    go_wp2_with fail
    refine (T1.out k1).mono ?_
    rintro e w4 ⟨rfl, rfl⟩
    go_wp2_with fail
    refine (HR.out k1 k2).mono ?_
    rintro e w6 ⟨rfl, rfl⟩
    go_wp2_with fail
    go_ret
    exact ⟨rfl, Chg.refl [] _⟩

/-- Where no digit is too great: by what Convolve and convolved answer. -/
theorem law_walk (a1 a2 : Option Addr) (n1 cap1 n2 cap2 d A B : Nat) (w : World) (s : Bool)
    (hd1 : Calls Takg.prog 20 #[.slice a1 n1 cap1, .int .i64 513] w fun e w' => ∃ c, e = .returned (.slice a1 A c) ∧ w' = w)
    (hd2 : Calls Takg.prog 20 #[.slice a2 n2 cap2, .int .i64 513] w fun e w' => ∃ c, e = .returned (.slice a2 B c) ∧ w' = w)
    (hc : ∀ c1 c2, Calls Takg.prog 34 #[.slice a1 A c1, .slice a2 B c2, .int .u8 d] w fun e w' => ∃ v, e = .returned (.tuple #[v, .bool s, .bool s]) ∧ Chg [] w w' ∧
      (∀ c, Calls Takg.prog 35 #[.slice a1 A c, .int .u8 d] w' fun e w'' => e = .returned (.bool false) ∧ w'' = w') ∧
      (∀ c, Calls Takg.prog 35 #[.slice a2 B c, .int .u8 d] w' fun e w'' => e = .returned (.bool false) ∧ w'' = w') ∧
      ∀ c1 c2, Calls Takg.prog 36 #[.slice a1 A c1, .slice a2 B c2, v, .bool s] w' fun e w'' => e = .returned (.bool true) ∧ Chg [] w' w'') :
    Calls Takg.prog 12 #[.slice a1 n1 cap1, .slice a2 n2 cap2, .int .u8 d] w fun e w' => e = .returned (.bool true) ∧ Chg [] w w' := by
  have D1 := hide hd1
  have D2 := hide hd2
  have HC := hide hc
  clear hd1 hd2 hc
  go_enter Takg.func12, Takg.ntmps12
  go_wp2_with fail
  refine D1.out.mono ?_
  rintro e w1 ⟨k1, rfl, rfl⟩
  go_wp2_with fail
  refine D2.out.mono ?_
  rintro e w2 ⟨k2, rfl, rfl⟩
  go_wp2_with fail
  refine (HC.out k1 k2).mono ?_
  rintro e w3 ⟨v, rfl, hc3, t1, t2, t3⟩
  have T1 := hide t1
  have T2 := hide t2
  have T3 := hide t3
  clear t1 t2 t3 HC
  go_wp2_with fail
  refine (T1.out k1).mono ?_
  rintro e w4 ⟨rfl, rfl⟩
  go_wp2_with fail
  refine (T2.out k2).mono ?_
  rintro e w5 ⟨rfl, rfl⟩
  go_wp2_with fail
  refine (T3.out k1 k2).mono ?_
  rintro e w6 ⟨rfl, hc6⟩
  have hss : (s == s) = true := by simp
  go_wp2_with fail
  go_ret
  exact ⟨by simp, hc3.trans hc6⟩

theorem law_any (a1 a2 : Option Addr) (n1 cap1 n2 cap2 d : Nat) (xs ys : List Int) (w : World) (hd : d ≤ 255) (h1 : n1 ≤ cap1) (h1' : cap1 ≤ 9223372036854775807) (h2 : n2 ≤ cap2) (h2' : cap2 ≤ 9223372036854775807) (s1 : 513 < n1 → ∃ b off, a1 = some ⟨b, off, none⟩) (s2 : 513 < n2 → ∃ b off, a2 = some ⟨b, off, none⟩)
    (e1 : xs.length = min n1 513) (e2 : ys.length = min n2 513) (g1 : Opd w a1 xs) (g2 : Opd w a2 ys) (hx : Byte xs) (hy : Byte ys) :
    Calls Takg.prog 12 #[.slice a1 n1 cap1, .slice a2 n2 cap2, .int .u8 d] w fun e w' => e = .returned (.bool true) ∧ Chg [] w w' := by
  by_cases hbad : abv d xs = true ∨ abv d ys = true
  · exact law_great a1 a2 n1 cap1 n2 cap2 d xs ys w hd h1 h1' h2 h2' s1 s2 e1 e2 g1 g2 hx hy hbad
  · have p1 : abv d xs = false := by
      cases h : abv d xs
      · rfl
      · exact absurd (.inl h) hbad
    have p2 : abv d ys = false := by
      cases h : abv d ys
      · rfl
      · exact absurd (.inr h) hbad
    have D1 := digits_any a1 n1 cap1 w h1 h1' s1
    have D2 := digits_any a2 n2 cap2 w h2 h2' s2
    rw [← e1] at D1
    rw [← e2] at D2
    have T1 : ∀ W, Chg [] w W → ∀ c, Calls Takg.prog 35 #[.slice a1 xs.length c, .int .u8 d] W fun e w'' => e = .returned (.bool false) ∧ w'' = W := fun W hc c => p1 ▸ tooGreat_any a1 c d xs W hd (by omega) (g1.chg hc) hx
    have T2 : ∀ W, Chg [] w W → ∀ c, Calls Takg.prog 35 #[.slice a2 ys.length c, .int .u8 d] W fun e w'' => e = .returned (.bool false) ∧ w'' = W := fun W hc c => p2 ▸ tooGreat_any a2 c d ys W hd (by omega) (g2.chg hc) hy
    by_cases hlong : 512 < xs.length ∨ 512 < ys.length
    · refine law_walk a1 a2 n1 cap1 n2 cap2 d xs.length ys.length w false D1 D2 fun c1 c2 => ?_
      refine (Convolve_bad a1 a2 c1 c2 d xs ys w hd (by omega) (by omega) g1 g2 hx hy (by rcases hlong with h | h; exact .inl h; exact .inr (.inl h))).mono ?_
      rintro e w' ⟨rfl, rfl⟩
      refine ⟨_, rfl, Chg.refl [] _, T1 _ (Chg.refl [] _), T2 _ (Chg.refl [] _), fun c1 c2 => ?_⟩
      exact (convolved_long a1 a2 _ _ c1 c2 _ (by omega) (by omega) hlong).mono fun e w'' ⟨he, hw⟩ => ⟨he, hw ▸ Chg.refl [] _⟩
    · by_cases hemp : xs.length = 0 ∨ ys.length = 0
      · refine law_walk a1 a2 n1 cap1 n2 cap2 d xs.length ys.length w true D1 D2 fun c1 c2 => ?_
        refine (Convolve_empty a1 a2 c1 c2 d xs ys w hd (by omega) (by omega) g1 g2 hx hy p1 p2 hemp).mono ?_
        rintro e w' ⟨rfl, rfl⟩
        refine ⟨_, rfl, Chg.refl [] _, T1 _ (Chg.refl [] _), T2 _ (Chg.refl [] _), fun c1 c2 => ?_⟩
        exact (convolved_nil a1 a2 _ _ c1 c2 _ (by omega) (by omega) hemp).mono fun e w'' ⟨he, hw⟩ => ⟨he, hw ▸ Chg.refl [] _⟩
      · obtain ⟨b1, o1, rfl, d1⟩ : ∃ b off, a1 = some ⟨b, off, none⟩ ∧ Dig w b off xs := by
          rcases g1 with h | h
          · rw [h] at hemp; simp at hemp
          · exact h
        obtain ⟨b2, o2, rfl, d2⟩ : ∃ b off, a2 = some ⟨b, off, none⟩ ∧ Dig w b off ys := by
          rcases g2 with h | h
          · rw [h] at hemp; simp at hemp
          · exact h
        refine law_walk _ _ n1 cap1 n2 cap2 d xs.length ys.length w true D1 D2 fun c1 c2 => ?_
        refine (Convolve_any b1 o1 c1 b2 o2 c2 d xs ys w hd (by omega) (by omega) (by omega) (by omega) d1 d2 hx hy p1 p2).mono ?_
        rintro e w' ⟨b, rfl, hk, hc⟩
        exact ⟨_, rfl, hc, T1 _ hc, T2 _ hc, fun c1 c2 => convolved_any b1 o1 c1 b2 o2 c2 b xs ys w' (by omega) (by omega) (by omega) (by omega) (hc.dig d1 (by simp)) (hc.dig d2 (by simp)) hx hy hk⟩
end Cx
end Go.Proofs.Ygctak
