/-
  Walks: shadow.Bound, shadow.Run.
-/
import Derived.Test.YgctakPt11
import Derived.Test.YgctakPt12
namespace Go.Proofs.Ygctak
open Go.RowKit
set_option linter.unusedVariables false
set_option linter.unusedSimpArgs false
attribute [local go_sem ↓] Go.wp_at_zero Go.wp_at_succ
attribute [local go_sem] Fl.run_store_complex Fl.run_store_float
namespace Sh
open Ac Fl

theorem Laid.nil (w : World) (n : Nat) (h1 : 1 ≤ n) (hn : n ≤ 1024) : Laid w (.slice none 0 0) [] n := fun W _ => Start_nil n W h1 hn
theorem Laid.dig {w : World} {b off : Nat} {ds : List Int} (cap n : Nat) (h1 : 1 ≤ n) (hn : n ≤ 1024) (hl : ds.length ≤ 9223372036854775807) (h : Dig w b off ds) : Laid w (.slice (some ⟨b, off, none⟩) ds.length cap) ds n :=
  fun W hc => Start_any b off cap n ds W h1 hn hl (hc.dig h (by simp))

theorem build58z (w : World) : (Instr.build 58 #[]).run Takg.prog w = .ok (.agg (List.replicate 68 (.int .u64 0)).toArray) w := by kernel_rfl
theorem wpList_acc0 {ops : Array Oper} {rest : List Oper} {o : Oper} {a : Act} {w : World} {Q : Exit → Act → World → Prop} (hg : o.guard = none) (ho : o.op = .build 58 #[])
    (h : wpList Takg.prog ops Q rest (a.put o.dst (.agg (W 0).toArray)) w) : wpList Takg.prog ops Q (o :: rest) a w := by
  refine wpList_plain hg fun K hK => ?_
  unfold Oper.wp
  have : (execOp a.eval o).run Takg.prog w = .ok (.value (.agg (W 0).toArray)) w := by
    unfold execOp
    rw [ho]
    have hb := build58z w
    rw [← W_zero] at hb
    simp only [List.map_toArray, List.map_nil, Sem.run_bind, hb, Result.andThen]
    rfl
  rw [this, Oper.upon_value]
  exact hK _ _ h

/-- The bound, plainly. -/
def bound (k d : Nat) : Int := if 1 ≤ k ∧ k ≤ 10 then grt (shRun k d [] []) else 0

set_option maxRecDepth 100000 in
set_option maxHeartbeats 1000000 in
theorem Bound_any (k d : Nat) (w : World) (hk : k ≤ 255) (hd : d ≤ 255) :
    Calls Takg.prog 29 #[.int .u8 k, .int .u8 d] w fun e w' => e = .returned (.agg (W (bound k d)).toArray) ∧ Chg [] w w' := by
  by_cases h : 1 ≤ k ∧ k ≤ 10
  · obtain ⟨h1, h2⟩ := h
    have hbd : bound k d = grt (shRun k d [] []) := by unfold bound; rw [if_pos ⟨h1, h2⟩]
    have hn2 : 2 ^ k ≤ 1024 := Nat.pow_le_pow_right (n := 2) (by omega) h2
    have hn1 : 1 ≤ 2 ^ k := Nat.pos_of_ne_zero (by simp)
    have nod : Digs d [] := fun i hi => by simp at hi
    have HR := hide (fun W => run_any k d (.slice none 0 0) (.slice none 0 0) [] [] W h1 h2 hd nod nod (Laid.nil W _ hn1 hn2) (Laid.nil W _ hn1 hn2))
    have hal := shRun_keep k d [] [] h1 h2 hd nod nod
    have hle := shRun_length k d [] []
    have HG := hide (fun b W hB => Greatest_any b 113 (2 ^ k) (shRun k d [] []) W hle hn2 hB hal)
    rw [hbd]
    generalize shRun k d [] [] = X at *
    generalize 2 ^ k = n at *
    clear hbd hal hle nod
    go_enter Takg.func29, Takg.ntmps29
    go_upto_region 0 with fail
    apply wp_region_lit
    refine wpList_zeroAcc (by rfl) (by rfl) ?_
    intro br w1 hbr hkr hc1
    go_wp2_with fail
    refine (HR.out _).mono ?_
    rintro e2 w2 ⟨bx, rfl, hkx, hc2⟩
    have hkr2 := hc2.blk hkr (by simp)
    go_wp2_with fail
    refine (HG.out _ _ hkx).mono ?_
    rintro e3 w3 ⟨rfl, hc3⟩
    have hkr3 := hc3.blk hkr2 (by simp)
    have gr : w.heap.size ≤ br := by have := hbr.out; omega
    have hc : Chg [] w w3 := (hc1.trans hc2).trans hc3
    clear hkr hkr2 hkx hc1 hc2 hc3 hbr
    go_wp2_with (refine wpList_storeAcc (by rfl) _ _ (by rfl) (by rfl) br 0 58 [] [] (W 0) (grt X) (W_length _) (At.whole hkr3) (by rfl) (by rfl) ?_; intro w7 hk7 hc7)
    exact bodyPost_ret (results_row (by rfl) _ _ _ br 0 (by rfl) (W (grt X)) _ hk7.rangeAt Takg.underlying58 (by rfl) (by rw [W_length]; exact info58)) rfl ⟨rfl, hc.news hc7 (by simp; omega)⟩
  · have hbd : bound k d = 0 := by unfold bound; rw [if_neg h]
    rw [hbd]
    clear hbd
    by_cases h1 : k < 1
    · go_enter Takg.func29, Takg.ntmps29
      go_upto_region 0 with fail
      apply wp_region_lit
      refine wpList_zeroAcc (by rfl) (by rfl) ?_
      intro br w1 hbr hkr hc1
      go_wp2_with (first | (refine wpList_acc0 (by rfl) (by rfl) ?_) | (refine wpList_storeAcc (by rfl) _ _ (by rfl) (by rfl) br 0 58 [] [] (W 0) 0 (W_length _) (At.whole hkr) (by rfl) (by rfl) ?_; intro w7 hk7 hc7))
      have gr : w.heap.size ≤ br := by have := hbr.out; omega
      exact bodyPost_ret (results_row (by rfl) _ _ _ br 0 (by rfl) (W 0) _ hk7.rangeAt Takg.underlying58 (by rfl) (by rw [W_length]; exact info58)) rfl ⟨rfl, hc1.news hc7 (by simp; omega)⟩
    · have h2 : 11 ≤ k := by omega
      go_enter Takg.func29, Takg.ntmps29
      go_upto_region 0 with fail
      apply wp_region_lit
      refine wpList_zeroAcc (by rfl) (by rfl) ?_
      intro br w1 hbr hkr hc1
      go_wp2_with (first | (refine wpList_acc0 (by rfl) (by rfl) ?_) | (refine wpList_storeAcc (by rfl) _ _ (by rfl) (by rfl) br 0 58 [] [] (W 0) 0 (W_length _) (At.whole hkr) (by rfl) (by rfl) ?_; intro w7 hk7 hc7))
      have gr : w.heap.size ≤ br := by have := hbr.out; omega
      exact bodyPost_ret (results_row (by rfl) _ _ _ br 0 (by rfl) (W 0) _ hk7.rangeAt Takg.underlying58 (by rfl) (by rw [W_length]; exact info58)) rfl ⟨rfl, hc1.news hc7 (by simp; omega)⟩
end Sh
end Go.Proofs.Ygctak
