/-
  Walks: units, spread, joined.
-/
import Derived.Test.YgctakAcc5
namespace Go.Proofs.Ygctak
open Go.RowKit
set_option linter.unusedVariables false
set_option linter.unusedSimpArgs false
attribute [local go_sem ↓] Go.wp_at_zero Go.wp_at_succ
namespace Ac

theorem build58 (n : Int) (w : World) : (Instr.build 58 #[(0, .int .u64 n)]).run Takg.prog w = .ok (.agg (.int .u64 n :: List.replicate 67 (.int .u64 0)).toArray) w := by kernel_rfl

theorem W_small (n : Int) (h0 : 0 ≤ n) (h1 : n ≤ 18446744073709551615) : W n = .int .u64 n :: List.replicate 67 (.int .u64 0) := by
  apply List.ext_getElem?
  intro j
  by_cases h : j < 68
  · unfold W
    rw [Wd_get _ _ h]
    cases j with
    | zero => simp [word]; omega
    | succ j =>
      rw [List.getElem?_cons_succ, List.getElem?_replicate, if_pos (by omega)]
      have : word n (j + 1) = 0 := by
        unfold word
        rw [Int.ediv_eq_zero_of_lt h0 _]
        · rfl
        · have h2 : (2 : Int) ^ 64 ≤ 2 ^ (64 * (j + 1)) := by
            rw [pow_next]
            have := pow_pos (64 * j)
            rw [show (2 : Int) ^ 64 = 18446744073709551616 from rfl]
            omega
          rw [show (2 : Int) ^ 64 = 18446744073709551616 from rfl] at h2
          omega
      rw [this]
  · rw [List.getElem?_eq_none (by rw [W_length]; omega), List.getElem?_eq_none (by rw [List.length_cons, List.length_replicate]; omega)]

/-- 'acc.Acc{n}'. -/
theorem wpList_acc {ops : Array Oper} {rest : List Oper} {o : Oper} {a : Act} {w : World} {Q : Exit → Act → World → Prop} (hg : o.guard = none) (x : Operand) (ho : o.op = .build 58 #[(0, x)]) (n : Int) (hx : a.eval x = .int .u64 n)
    (h0 : 0 ≤ n) (h1 : n ≤ 18446744073709551615) (h : wpList Takg.prog ops Q rest (a.put o.dst (.agg (W n).toArray)) w) : wpList Takg.prog ops Q (o :: rest) a w := by
  refine wpList_plain hg fun K hK => ?_
  unfold Oper.wp
  have : (execOp a.eval o).run Takg.prog w = .ok (.value (.agg (W n).toArray)) w := by
    unfold execOp
    rw [ho]
    have hb := build58 n w
    rw [← W_small n h0 h1] at hb
    simp only [List.map_toArray, List.map_cons, List.map_nil, hx, Sem.run_bind, hb, Result.andThen]
    rfl
  rw [this, Oper.upon_value]
  exact hK _ _ h

/-- 'alloc', then the whole is stored: a new accumulator. -/
theorem wpList_newAcc {ops : Array Oper} {rest : List Oper} {o1 o2 : Oper} {a : Act} {w : World} {Q : Exit → Act → World → Prop} (hg1 : o1.guard = none) (ho1 : o1.op = .alloc 58) (hg2 : o2.guard = none) (x y : Operand) (ho2 : o2.op = .store 58 x y)
    (z : Int) (hd2 : o2.dst = none)
    (hx : ∀ v, (a.put o1.dst v).eval x = v) (hy : ∀ v, (a.put o1.dst v).eval y = .agg (W z).toArray)
    (h : ∀ b w2, Hid (b = w.heap.size) → Blk w2 b 58 (W z) → Chg [] w w2 → wpList Takg.prog ops Q rest (a.put o1.dst (.pointer (some ⟨b, 0, none⟩))) w2) : wpList Takg.prog ops Q (o1 :: o2 :: rest) a w := by
  refine wpList_allocVar hg1 58 ho1 _ alloc58 ?_
  have hb := Blk.newRep w 68 (Value.int .u64 0) 58
  rw [← W_zero] at hb
  have hA := At.whole hb
  refine wpList_store_mid hg2 58 x y ho2 w.heap.size 0 (W z).toArray (hx _) (hy _) (hA.there _ (by simp [W_length])) (by rw [List.size_toArray, W_length]; exact info58) (Wd_one _) ?_
  have h2 := At.setCells (W z) _ _ _ _ hA (by rw [W_length, W_length])
  have h3 := Chg.setCellsNew w.heap.size (Nat.le_refl _) (W z) 0 _ ((Chg.refl [] w).alloc (.cells (Array.replicate 68 (.int .u64 0)) 58))
  rw [hd2]
  exact h _ _ rfl h2.toBlk h3

/-- 'var x acc.Acc'. -/
theorem wpList_zeroAcc {ops : Array Oper} {rest : List Oper} {o1 : Oper} {a : Act} {w : World} {Q : Exit → Act → World → Prop} (hg1 : o1.guard = none) (ho1 : o1.op = .alloc 58)
    (h : ∀ b w2, Hid (b = w.heap.size) → Blk w2 b 58 (W 0) → Chg [] w w2 → wpList Takg.prog ops Q rest (a.put o1.dst (.pointer (some ⟨b, 0, none⟩))) w2) : wpList Takg.prog ops Q (o1 :: rest) a w := by
  refine wpList_allocVar hg1 58 ho1 _ alloc58 ?_
  have hb := Blk.newRep w 68 (Value.int .u64 0) 58
  rw [← W_zero] at hb
  exact h _ _ rfl hb ((Chg.refl [] w).alloc _)

/-- An accumulator handed over by value. -/
theorem wpList_boxAcc {ops : Array Oper} {rest : List Oper} {o1 : Oper} {a : Act} {w : World} {Q : Exit → Act → World → Prop} (hg1 : o1.guard = none) (x : Operand) (ho1 : o1.op = .box 58 x) (z : Int) (hx : a.eval x = .agg (W z).toArray)
    (h : ∀ b w2, Hid (b = w.heap.size) → Blk w2 b 58 (W z) → Chg [] w w2 → wpList Takg.prog ops Q rest (a.put o1.dst (.pointer (some ⟨b, 0, none⟩))) w2) : wpList Takg.prog ops Q (o1 :: rest) a w := by
  refine wpList_plain hg1 fun K hK => ?_
  unfold Oper.wp
  have : (execOp a.eval o1).run Takg.prog w = .ok (.value (.pointer (some ⟨w.heap.size, 0, none⟩))) (w.alloc (.cells (W z).toArray 58)) := by
    unfold execOp
    rw [ho1]
    simp only [hx]
    rfl
  rw [this, Oper.upon_value]
  exact hK _ _ (h _ _ rfl (Blk.new w (W z) 58) ((Chg.refl [] w).alloc _))

/-- The whole of one variable into another. -/
theorem wpList_moveAcc {ops : Array Oper} {rest : List Oper} {o1 o2 : Oper} {a : Act} {w : World} {Q : Exit → Act → World → Prop} (hg1 : o1.guard = none) (x : Operand) (ho1 : o1.op = .load 58 x) (hg2 : o2.guard = none) (y v : Operand) (ho2 : o2.op = .store 58 y v) (hd2 : o2.dst = none)
    (b1 p1 t1 b2 p2 t2 : Nat) (pre1 suf1 pre2 suf2 old : List Value) (z : Int) (hx : a.eval x = .pointer (some ⟨b1, p1, none⟩)) (h1 : At w b1 p1 t1 pre1 (W z) suf1) (hl : old.length = 68) (h2 : At w b2 p2 t2 pre2 old suf2)
    (hv : ∀ u, (a.put o1.dst u).eval v = u) (hy : ∀ u, (a.put o1.dst u).eval y = .pointer (some ⟨b2, p2, none⟩))
    (h : ∀ w2, At w2 b2 p2 t2 pre2 (W z) suf2 → Chg [b2] w w2 → wpList Takg.prog ops Q rest (a.put o1.dst (.agg (W z).toArray)) w2) : wpList Takg.prog ops Q (o1 :: o2 :: rest) a w := by
  refine wpList_load_mid hg1 58 x ho1 b1 p1 hx (W z) _ h1.rangeAt Takg.underlying58 (by rfl) (by rw [W_length]; exact info58) ?_
  refine wpList_store_mid hg2 58 y v ho2 b2 p2 (W z).toArray (hy _) (hv _) (h2.there _ (by simp [W_length, hl])) (by rw [List.size_toArray, W_length]; exact info58) (Wd_one _) ?_
  rw [hd2]
  exact h _ (At.setCells (W z) _ _ _ _ h2 (by rw [W_length, hl])) (Chg.setCells b2 (by simp) (W z) p2 _ (Chg.refl _ _))

set_option maxRecDepth 100000 in
set_option maxHeartbeats 1000000 in
theorem units_any (m : Int) (e : Nat) (w : World) (m0 : 0 ≤ m) (m1 : m ≤ 18446744073709551615) (he : e ≤ 65535) :
    Calls Takg.prog 65 #[.int .u64 m, .int .u16 e] w fun e' w' => e' = .returned (.agg (W (m * 2 ^ e + 1)).toArray) ∧ Chg [] w w' := by
  go_enter Takg.func65, Takg.ntmps65
  go_wp2_with (first | (refine wpList_acc (by rfl) _ (by rfl) m (by rfl) m0 m1 ?_) | (refine wpList_newAcc (by rfl) (by rfl) (by rfl) _ _ (by rfl) m (by rfl) (fun _ => by rfl) (fun _ => by rfl) ?_; intro b2 w2 hb2 hk2 hc2) | (refine wpList_zeroAcc (by rfl) (by rfl) ?_; intro b1 w1 hb1 hk1 hc1))
  have hk1' := hc2.blk hk1 (by simp)
  have hne : b1 ≠ b2 := by have := hk1.lt; have := hb2.out; omega
  refine (Shl_any b2 0 58 [] [] m e _ he (At.whole hk2)).mono ?_
  rintro e' w3 ⟨rfl, hk3, hc3⟩
  have hk13 := hc3.blk hk1' (by simpa using hne)
  have s1 := hc1.size
  have g1 : w.heap.size ≤ b1 := by have := hb1.out; omega
  have g2 : w.heap.size ≤ b2 := by have := hb2.out; omega
  have hc13 : Chg [] w w3 := (hc1.trans hc2).news hc3 (by simp; omega)
  go_wp2_with (first | (refine wpList_acc (by rfl) _ (by rfl) 1 (by rfl) (by omega) (by omega) ?_) | (refine wpList_newAcc (by rfl) (by rfl) (by rfl) _ _ (by rfl) 1 (by rfl) (fun _ => by rfl) (fun _ => by rfl) ?_; intro b4 w4 hb4 hk4 hc4))
  have hk34 := hk3.chg hc4 (by simp)
  have hk14 := hc4.blk hk13 (by simp)
  have h24 : b2 ≠ b4 := by have := hb4.out; have := hk3.blk.lt; omega
  refine (Add_any b2 0 58 b4 0 58 [] [] [] [] (m * 2 ^ e) 1 _ h24 hk34 (At.whole hk4)).mono ?_
  rintro e' w5 ⟨rfl, hk5, hc5⟩
  have hk15 := hc5.blk hk14 (by simpa using hne)
  have hc15 : Chg [] w w5 := (hc13.trans hc4).news hc5 (by simp; omega)
  clear hk1 hk2 hk1' hk3 hk13 hk34 hk14 hk4 hc1 hc2 hc3 hc4 hc5 hc13
  go_wp2_with (refine wpList_moveAcc (by rfl) _ (by rfl) (by rfl) _ _ (by rfl) (by rfl) b2 0 58 b1 0 58 [] [] [] [] (W 0) (m * 2 ^ e + 1) (by rfl) hk5 (W_length _) (At.whole hk15) (fun _ => by rfl) (fun _ => by rfl) ?_; intro w6 hk6 hc6)
  exact bodyPost_ret (results_row (by rfl) _ _ _ b1 0 (by rfl) (W (m * 2 ^ e + 1)) _ hk6.rangeAt Takg.underlying58 (by rfl) (by rw [W_length]; exact info58)) rfl ⟨rfl, hc15.news hc6 (by simp; omega)⟩
end Ac
end Go.Proofs.Ygctak
