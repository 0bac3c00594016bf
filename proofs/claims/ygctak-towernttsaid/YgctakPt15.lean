/-
  Walk: law.ShadowSmall.
-/
import Derived.Test.YgctakPt14
import Derived.ArgAppend
namespace Go.Proofs.Ygctak
open Go.RowKit
set_option linter.unusedVariables false
set_option linter.unusedSimpArgs false
attribute [local go_sem ↓] Go.wp_at_zero Go.wp_at_succ
attribute [local go_sem] Fl.run_store_complex Fl.run_store_float
namespace Sh
open Ac Fl

theorem wpList_eqlAcc {ops : Array Oper} {rest : List Oper} {o : Oper} {a : Act} {w : World} {Q : Exit → Act → World → Prop} (hg : o.guard = none) (x y : Operand) (ho : o.op = .binOp .eql 58 x y 58) (p q : Int) (hx : a.eval x = .agg (W p).toArray) (hy : a.eval y = .agg (W q).toArray)
    (fp : Fits p) (fq : Fits q) (h : wpList Takg.prog ops Q rest (a.put o.dst (.bool (decide (p = q)))) w) : wpList Takg.prog ops Q (o :: rest) a w := by
  refine wpList_plain hg fun K hK => ?_
  unfold Oper.wp
  have : (execOp a.eval o).run Takg.prog w = .ok (.value (.bool (decide (p = q)))) w := by
    unfold execOp
    rw [ho]
    simp only [hx, hy]
    rw [Sem.run_bind, Sem.run_bind, guard58e]
    simp only [Result.andThen_ok]
    rw [run_eql_struct, acc_eq p q fp fq]
    rfl
  rw [this, Oper.upon_value]
  exact hK _ _ h

set_option maxRecDepth 100000 in
set_option maxHeartbeats 1000000 in
theorem law_off (k d : Nat) (w : World) (hk : k ≤ 255) (hd : d ≤ 255) (h : ¬ (1 ≤ k ∧ k ≤ 10)) :
    Calls Takg.prog 11 #[.int .u8 k, .int .u8 d] w fun e w' => e = .returned (.bool true) ∧ Chg [] w w' := by
  have hbd : bound k d = 0 := by unfold bound; rw [if_neg h]
  have hB := fun W => Bound_any k d W hk hd
  rw [hbd] at hB
  have HB := hide hB
  have f0 : Fits 0 := fits_of (Int.le_refl _) (by decide)
  clear hbd hB
  by_cases h1 : k < 1
  · go_enter Takg.func11, Takg.ntmps11
    go_wp2_with (first | (refine (HB.out _).mono ?_; rintro e1 w1 ⟨rfl, hc1⟩) | (refine wpList_newAcc (by rfl) (by rfl) (by rfl) _ _ (by rfl) 0 (by rfl) (fun _ => by rfl) (fun _ => by rfl) ?_; intro b5 w2 hb5 hk5 hc2) | (refine wpList_loadAcc (by rfl) _ (by rfl) b5 0 58 [] [] 0 (by rfl) (At.whole hk5) ?_) | (refine wpList_acc0 (by rfl) (by rfl) ?_) | (refine wpList_eqlAcc (by rfl) _ _ (by rfl) 0 0 (by rfl) (by rfl) f0 f0 ?_))
    go_ret
    exact ⟨rfl, hc1.trans hc2⟩
  · have h2 : 11 ≤ k := by omega
    go_enter Takg.func11, Takg.ntmps11
    go_wp2_with (first | (refine (HB.out _).mono ?_; rintro e1 w1 ⟨rfl, hc1⟩) | (refine wpList_newAcc (by rfl) (by rfl) (by rfl) _ _ (by rfl) 0 (by rfl) (fun _ => by rfl) (fun _ => by rfl) ?_; intro b5 w2 hb5 hk5 hc2) | (refine wpList_loadAcc (by rfl) _ (by rfl) b5 0 58 [] [] 0 (by rfl) (At.whole hk5) ?_) | (refine wpList_acc0 (by rfl) (by rfl) ?_) | (refine wpList_eqlAcc (by rfl) _ _ (by rfl) 0 0 (by rfl) (by rfl) f0 f0 ?_))
    go_ret
    exact ⟨rfl, hc1.trans hc2⟩
end Sh
end Go.Proofs.Ygctak
