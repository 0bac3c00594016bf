/-
  Walks: law.convolved, law.ShadowConvExact.
-/
import Derived.Test.YgctakCx8
namespace Go.Proofs.Ygctak
open Go.RowKit
set_option linter.unusedVariables false
set_option linter.unusedSimpArgs false
attribute [local go_sem ↓] Go.wp_at_zero Go.wp_at_succ
namespace Cx
open Ac Fl Sh Ft Ieee

set_option maxRecDepth 100000 in
theorem convolved_long (a1 a2 : Option Addr) (A B c1 c2 : Nat) (w : World) (l1 : A ≤ 600) (l2 : B ≤ 600) (h : 512 < A ∨ 512 < B) :
    Calls Takg.prog 36 #[.slice a1 A c1, .slice a2 B c2, .slice none 0 0, .bool false] w fun e w' => e = .returned (.bool true) ∧ w' = w := by
  have E1 := eql_nil 28 2 none 0 0 Takg.underlying28
  by_cases hA : 512 < A
  · have i3 : decide ((512 : Int) < (A : Int)) = true := decide_eq_true (by omega)
    clear h
    go_enter Takg.func36, Takg.ntmps36
    go_wp2_with fail
    go_ret
    exact ⟨rfl, rfl⟩
  · have i3 : decide ((512 : Int) < (A : Int)) = false := decide_eq_false (by omega)
    have i4 : decide ((512 : Int) < (B : Int)) = true := decide_eq_true (by omega)
    clear h
    go_enter Takg.func36, Takg.ntmps36
    go_wp2_with fail
    go_ret
    exact ⟨rfl, rfl⟩

theorem convolved_nil (a1 a2 : Option Addr) (A B c1 c2 : Nat) (w : World) (l1 : A ≤ 512) (l2 : B ≤ 512) (h : A = 0 ∨ B = 0) :
    Calls Takg.prog 36 #[.slice a1 A c1, .slice a2 B c2, .slice none 0 0, .bool true] w fun e w' => e = .returned (.bool true) ∧ w' = w := by
  have i3 : decide ((512 : Int) < (A : Int)) = false := decide_eq_false (by omega)
  have i4 : decide ((512 : Int) < (B : Int)) = false := decide_eq_false (by omega)
  have H := hide (fun W => doubleLoop_nil a1 a2 A B c1 c2 W l1 l2 h)
  have HS := hide sameInts_nil
  clear h
  go_enter Takg.func36, Takg.ntmps36
  go_wp2_with fail
  refine (H.out _).mono ?_
  rintro e w1 ⟨rfl, rfl⟩
  go_wp2_with fail
  refine (HS.out _).mono ?_
  rintro e w2 ⟨rfl, rfl⟩
  go_wp2_with fail
  go_ret
  exact ⟨rfl, rfl⟩

theorem convolved_any (b1 o1 c1 b2 o2 c2 b : Nat) (xs ys : List Int) (w : World) (l1 : 1 ≤ xs.length) (l2 : 1 ≤ ys.length) (m1 : xs.length ≤ 512) (m2 : ys.length ≤ 512) (g1 : Dig w b1 o1 xs) (g2 : Dig w b2 o2 ys) (hx : Byte xs) (hy : Byte ys)
    (hb : Blk w b 2 (I64 (dl xs ys xs.length 0) (xs.length + ys.length - 1))) :
    Calls Takg.prog 36 #[.slice (some ⟨b1, o1, none⟩) xs.length c1, .slice (some ⟨b2, o2, none⟩) ys.length c2, .slice (some ⟨b, 0, none⟩) (xs.length + ys.length - 1) (xs.length + ys.length - 1), .bool true] w fun e w' =>
      e = .returned (.bool true) ∧ Chg [] w w' := by
  have H := hide (fun W (hc : Chg [] w W) => doubleLoop_any b1 o1 c1 b2 o2 c2 xs ys W l1 l2 m1 m2 (hc.dig g1 (by simp)) (hc.dig g2 (by simp)) hx hy)
  have hm : xs.length + ys.length - 1 ≤ 1023 := by omega
  obtain ⟨f, hf⟩ : ∃ f, f = dl xs ys xs.length 0 := ⟨_, rfl⟩
  rw [← hf] at hb H
  generalize xs.length + ys.length - 1 = m at *
  generalize xs.length = A at *
  generalize ys.length = B at *
  clear hf g1 g2 hx hy
  have i3 : decide ((512 : Int) < (A : Int)) = false := decide_eq_false (by omega)
  have i4 : decide ((512 : Int) < (B : Int)) = false := decide_eq_false (by omega)
  go_enter Takg.func36, Takg.ntmps36
  go_wp2_with fail
  refine (H.out _ (Chg.refl [] _)).mono ?_
  rintro e w1 ⟨b3, rfl, hk, hc⟩
  have hb1 := hc.blk hb (by simp)
  have HS := hide (sameInts_any b b3 m m m f w1 (by omega) hb1 hk)
  clear hb hk hb1
  go_wp2_with fail
  refine HS.out.mono ?_
  rintro e w2 ⟨rfl, hc2⟩
  go_wp2_with fail
  go_ret
  exact ⟨rfl, hc.trans hc2⟩
end Cx
end Go.Proofs.Ygctak
