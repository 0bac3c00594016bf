/-
  law.ShadowHolds answers true.
-/
import Derived.Test.YgctakHp9
namespace Go.Proofs.Ygctak
open Go.RowKit
set_option linter.unusedVariables false
set_option linter.unusedSimpArgs false
namespace Hp
open Ac Fl Sh Ex Cx

theorem law_any (a1 a2 : Option Addr) (n1 cap1 n2 cap2 : Nat) (xs ys : List Int) (w : World) (h1 : n1 ≤ cap1) (h1' : cap1 ≤ 9223372036854775807) (h2 : n2 ≤ cap2) (h2' : cap2 ≤ 9223372036854775807)
    (s1 : 512 < n1 → ∃ b off, a1 = some ⟨b, off, none⟩) (s2 : 512 < n2 → ∃ b off, a2 = some ⟨b, off, none⟩)
    (e1 : xs.length = min n1 512) (e2 : ys.length = min n2 512) (g1 : Opd w a1 xs) (g2 : Opd w a2 ys) (hx : Byte xs) (hy : Byte ys) :
    Calls Takg.prog 10 #[.slice a1 n1 cap1, .slice a2 n2 cap2] w fun e w' => e = .returned (.bool true) ∧ Chg [] w w' := by
  have D1 := digits512 a1 n1 cap1 w h1 h1' s1
  have D2 := digits512 a2 n2 cap2 w h2 h2' s2
  rw [← e1] at D1
  rw [← e2] at D2
  by_cases hemp : xs.length = 0 ∨ ys.length = 0
  · exact law_empty a1 a2 n1 cap1 n2 cap2 xs.length ys.length w D1 D2 hemp
  · obtain ⟨b1, o1, rfl, d1⟩ : ∃ b off, a1 = some ⟨b, off, none⟩ ∧ Dig w b off xs := by
      rcases g1 with h | h
      · rw [h] at hemp; simp at hemp
      · exact h
    obtain ⟨b2, o2, rfl, d2⟩ : ∃ b off, a2 = some ⟨b, off, none⟩ ∧ Dig w b off ys := by
      rcases g2 with h | h
      · rw [h] at hemp; simp at hemp
      · exact h
    obtain ⟨k, k1, k2, hfit, hmin⟩ := least_k (xs.length + ys.length) 9 (by omega)
    have dx : Digs 255 xs := fun i hi => hx i hi
    have dy : Digs 255 ys := fun i hi => hy i hi
    exact law_main b1 o1 b2 o2 n1 cap1 n2 cap2 k xs ys w D1 D2 k1 k2 (by omega) (by omega) (by omega) (by omega) hfit hmin d1 d2 dx dy (all_hold k1 k2 dx dy (by omega) (by omega))
end Hp
end Go.Proofs.Ygctak
