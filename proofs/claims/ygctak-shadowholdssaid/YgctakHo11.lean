/-
  Walk: exactTimes.
-/
import Derived.Test.YgctakHo9
import Derived.Test.YgctakHo10
namespace Go.Proofs.Ygctak
open Go.RowKit
set_option linter.unusedVariables false
set_option linter.unusedSimpArgs false
attribute [local go_sem ↓] Go.wp_at_zero Go.wp_at_succ
namespace Ex
open Ac Fl Sh

/-- The product of exact points. -/
def pq (v r : Q) : Q := (v.1 * r.1 + -(v.2 * r.2), v.1 * r.2 + v.2 * r.1)
def etU (x y : List Q) (p : Nat) : List Q := (List.range x.length).map fun i => if i < p then pq (x.getD i q0) (y.getD i q0) else x.getD i q0
def etL (x y : List Q) : List Q := (List.range x.length).map fun i => pq (x.getD i q0) (y.getD i q0)
theorem etU_length (x y : List Q) (p : Nat) : (etU x y p).length = x.length := by simp [etU]
theorem etL_length (x y : List Q) : (etL x y).length = x.length := by simp [etL]
theorem etU_get (x y : List Q) (p i : Nat) (h : i < x.length) : (etU x y p).getD i q0 = if i < p then pq (x.getD i q0) (y.getD i q0) else x.getD i q0 := by
  simp only [etU, List.getD_eq_getElem?_getD, List.getElem?_map, List.getElem?_range h, Option.map_some, Option.getD_some]
theorem etL_get (x y : List Q) (i : Nat) (h : i < x.length) : (etL x y).getD i q0 = pq (x.getD i q0) (y.getD i q0) := by
  simp only [etL, List.getD_eq_getElem?_getD, List.getElem?_map, List.getElem?_range h, Option.map_some, Option.getD_some]
theorem etU_zero (x y : List Q) : etU x y 0 = x := qext (etU_length _ _ _) fun i hi => by
  rw [etU_length] at hi
  rw [etU_get _ _ _ _ hi, if_neg (by omega)]
theorem etU_end (x y : List Q) (p : Nat) (h : x.length ≤ p) : etU x y p = etL x y := qext (by rw [etU_length, etL_length]) fun i hi => by
  rw [etU_length] at hi
  rw [etU_get _ _ _ _ hi, etL_get _ _ _ hi, if_pos (by omega)]
theorem etU_next (x y : List Q) (p : Nat) (h : p < x.length) : (etU x y p).set p (pq (x.getD p q0) (y.getD p q0)) = etU x y (p + 1) := qext (by rw [List.length_set, etU_length, etU_length]) fun i hi => by
  rw [List.length_set, etU_length] at hi
  rw [qget_set _ _ _ _ (by rw [etU_length]; exact hi), etU_get _ _ _ _ hi, etU_get _ _ _ _ hi]
  by_cases e : p = i
  · subst e; rw [if_pos rfl, if_pos (by omega)]
  · rw [if_neg e]
    by_cases e2 : i < p
    · rw [if_pos e2, if_pos (by omega)]
    · rw [if_neg e2, if_neg (by omega)]

theorem wp_zeroAcc {o : Oper} {a : Act} {w : World} {K : Act → World → Prop} {Q' : Exit → Act → World → Prop} (ho : o.op = .alloc 58)
    (h : ∀ b w2, Hid (b = w.heap.size) → Blk w2 b 58 (W 0) → Chg [] w w2 → K (a.put o.dst (.pointer (some ⟨b, 0, none⟩))) w2) : Oper.wp Takg.prog o a w K Q' := by
  unfold Oper.wp
  have : (execOp a.eval o).run Takg.prog w = .ok (.value (.pointer (some ⟨w.heap.size, 0, none⟩))) (w.alloc (.cells (Array.replicate 68 (.int .u64 0)) 58)) := by
    unfold execOp
    rw [ho]
    simp [Sem.run_bind, alloc58, Result.andThen]
  rw [this, Oper.upon_value]
  have hb := Blk.newRep w 68 (Value.int .u64 0) 58
  rw [← W_zero] at hb
  exact h _ _ rfl hb ((Chg.refl [] w).alloc _)

theorem build119 (a c : Int) (w : World) : (Instr.build 119 #[(0, .agg (W a).toArray), (1, .agg (W c).toArray)]).run Takg.prog w = .ok (.agg (Cc (a, c)).toArray) w := by kernel_rfl
theorem wpList_build119 {ops : Array Oper} {rest : List Oper} {o : Oper} {a : Act} {w : World} {Q' : Exit → Act → World → Prop} (hg : o.guard = none) (x y : Operand) (ho : o.op = .build 119 #[(0, x), (1, y)]) (m n : Int) (hx : a.eval x = .agg (W m).toArray) (hy : a.eval y = .agg (W n).toArray)
    (h : wpList Takg.prog ops Q' rest (a.put o.dst (.agg (Cc (m, n)).toArray)) w) : wpList Takg.prog ops Q' (o :: rest) a w := by
  refine wpList_plain hg fun K hK => ?_
  unfold Oper.wp
  have : (execOp a.eval o).run Takg.prog w = .ok (.value (.agg (Cc (m, n)).toArray)) w := by
    unfold execOp
    rw [ho]
    simp only [List.map_toArray, List.map_cons, List.map_nil, hx, hy, Sem.run_bind, build119, Result.andThen]
    rfl
  rw [this, Oper.upon_value]
  exact hK _ _ h

set_option maxRecDepth 100000 in
set_option maxHeartbeats 8000000 in
theorem exactTimes_any (b b2 n : Nat) (x y : List Q) (w : World) (hn : n ≤ 1024) (hx : x.length = n) (hy : y.length = n) (hb : Blk w b 119 (Cs x)) (hb2 : Blk w b2 119 (Cs y)) (hne : b ≠ b2)
    (hf : ∀ i, i < n → Fits (y.getD i q0).1 ∧ Fits (y.getD i q0).2) :
    Calls Takg.prog 26 #[.slice (some ⟨b, 0, none⟩) n n, .slice (some ⟨b2, 0, none⟩) n n] w fun e w' =>
      e = .returned (.tuple #[]) ∧ Blk w' b 119 (Cs (etL x y)) ∧ Chg [b] w w' := by
  have HX := hide hx
  have HY := hide hy
  have HF := hide hf
  clear hx hy hf
  go_enter Takg.func26, Takg.ntmps26
  go_wp2_with fail
  go_loopw [4] (fun v wr => ∃ i : Nat, v = .int .i64 i ∧ i ≤ n ∧ Blk wr b 119 (Cs (etU x y i)) ∧ Blk wr b2 119 (Cs y) ∧ Chg [b] w wr) (fun v _ => n - (intOf v).toNat)
  case atStart => exact ⟨0, rfl, by omega, by rw [etU_zero]; exact hb, hb2, Chg.refl _ _⟩
  case round =>
    clear hb hb2
    obtain ⟨i, rfl, hi, hbr, hb2r, hcr⟩ := hrel
    by_cases hil : i < n
    · have hnext := etU_next x y i (by have := HX.out; omega)
      have hget : (etU x y i).getD i q0 = x.getD i q0 := by rw [etU_get _ _ _ _ (by have := HX.out; omega), if_neg (by omega)]
      have hl : (etU x y i).length = n := by rw [etU_length]; exact HX.out
      obtain ⟨X, hX⟩ : ∃ X, X = etU x y i := ⟨_, rfl⟩
      rw [← hX] at hbr hnext hget hl
      obtain ⟨⟨x1, x2⟩, hx1⟩ : ∃ z, z = x.getD i q0 := ⟨_, rfl⟩
      obtain ⟨⟨y1, y2⟩, hy1⟩ : ∃ z, z = y.getD i q0 := ⟨_, rfl⟩
      have hfi := HF.out i hil
      rw [← hx1, ← hy1] at hnext
      rw [← hx1] at hget
      rw [← hy1] at hfi
      have HNX := hide hnext
      have HL := hide hl
      have Lx1 : Hid (∀ w1, Blk w1 b 119 (Cs X) → w1.rangeAt b (i * 136) (W x1)) := fun w1 hw => by
        have := cre hw i (by omega); rw [hget] at this; exact this.rangeAt
      have Lx2 : Hid (∀ w1, Blk w1 b 119 (Cs X) → w1.rangeAt b (i * 136 + 68) (W x2)) := fun w1 hw => by
        have := cim hw i (by omega); rw [hget] at this; exact this.rangeAt
      have Ly1 : Hid (∀ w1, Blk w1 b2 119 (Cs y) → w1.rangeAt b2 (i * 136) (W y1)) := fun w1 hw => by
        have := cre hw i (by have := HY.out; omega); rw [← hy1] at this; exact this.rangeAt
      have Ly2 : Hid (∀ w1, Blk w1 b2 119 (Cs y) → w1.rangeAt b2 (i * 136 + 68) (W y2)) := fun w1 hw => by
        have := cim hw i (by have := HY.out; omega); rw [← hy1] at this; exact this.rangeAt
      have HP1 := hide (fun w1 => accMul_any x1 y1 w1 hfi.1)
      have HP2 := hide (fun w1 => accMul_any x2 y2 w1 hfi.2)
      have HP3 := hide (fun w1 => accMul_any x1 y2 w1 hfi.2)
      have HP4 := hide (fun w1 => accMul_any x2 y1 w1 hfi.1)
      clear hnext hget hl hX hx1 hy1 hfi
      have lb := hbr.lt
      have lb2 := hb2r.lt
      have gw := hcr.size
      go_upto_region 3 with fail
      go_cut [5, 6] (fun v5 v6 wc => ∃ p5 p6, v5 = .pointer (some ⟨p5, 0, none⟩) ∧ v6 = .pointer (some ⟨p6, 0, none⟩) ∧ p5 ≠ p6 ∧ wr.heap.size ≤ p5 ∧ wr.heap.size ≤ p6 ∧ Blk wc p5 58 (W (x1 * y1)) ∧ Blk wc p6 58 (W (x2 * y2)) ∧
        Blk wc b 119 (Cs X) ∧ Blk wc b2 119 (Cs y) ∧ wr.heap.size ≤ wc.heap.size ∧ Chg [b] w wc)
      case first =>
        refine wp_region_held_drew (S := fun w1 => Blk w1 b 119 (Cs X) ∧ Blk w1 b2 119 (Cs y) ∧ wr.heap.size ≤ w1.heap.size ∧ Chg [b] w w1) (by kernel_rfl) ⟨hbr.drew, hb2r.drew, Nat.le_refl _, hcr.drew⟩ (fun hHeld => ?_)
        refine takeL 0 (v := ?_) rfl (by kernel_rfl) (by kernel_rfl) (by kernel_rfl) (fun _ _ _ h => h) (by rfl) ?_ hHeld ?_
        rotate_left
        · (intro w1 hSw; go_simp; try with_reducible rfl)
        simp only [Act.put, List.setIfInBounds_toArray, List.set_cons_zero, List.set_cons_succ]
        refine takeL 1 (v := ?_) rfl (by kernel_rfl) (by kernel_rfl) (by kernel_rfl) (fun _ _ _ h => h) (by rfl) ?_ hHeld ?_
        rotate_left
        · (intro w1 hSw; go_simp; try with_reducible rfl)
        simp only [Act.put, List.setIfInBounds_toArray, List.set_cons_zero, List.set_cons_succ]
        refine takeL 2 (v := ?_) rfl (by kernel_rfl) (by kernel_rfl) (by kernel_rfl) (fun _ _ _ h => h) (by rfl) ?_ hHeld ?_
        rotate_left
        · (intro w1 hSw; go_simp; try with_reducible rfl)
        simp only [Act.put, List.setIfInBounds_toArray, List.set_cons_zero, List.set_cons_succ]
        refine takeL 3 (v := ?_) rfl (by kernel_rfl) (by kernel_rfl) (by kernel_rfl) (fun _ _ _ h => h) (by rfl) ?_ hHeld ?_
        rotate_left
        · (intro w1 hSw; go_simp; try with_reducible rfl)
        simp only [Act.put, List.setIfInBounds_toArray, List.set_cons_zero, List.set_cons_succ]
        refine takeL 4 rfl (by kernel_rfl) (by kernel_rfl) (by kernel_rfl) (fun _ _ _ h => h) (by rfl) (fun w1 hSw => run_load58 (.tmp 18) rfl b (i * 136) x1 w1 rfl (Lx1.out w1 hSw.1)) hHeld ?_
        simp only [Act.put, List.setIfInBounds_toArray, List.set_cons_zero, List.set_cons_succ]
        refine takeL 5 (v := ?_) rfl (by kernel_rfl) (by kernel_rfl) (by kernel_rfl) (fun _ _ _ h => h) (by rfl) ?_ hHeld ?_
        rotate_left
        · (intro w1 hSw; go_simp; try with_reducible rfl)
        simp only [Act.put, List.setIfInBounds_toArray, List.set_cons_zero, List.set_cons_succ]
        refine takeL 6 (v := ?_) rfl (by kernel_rfl) (by kernel_rfl) (by kernel_rfl) (fun _ _ _ h => h) (by rfl) ?_ hHeld ?_
        rotate_left
        · (intro w1 hSw; go_simp; try with_reducible rfl)
        simp only [Act.put, List.setIfInBounds_toArray, List.set_cons_zero, List.set_cons_succ]
        refine takeL 7 (v := ?_) rfl (by kernel_rfl) (by kernel_rfl) (by kernel_rfl) (fun _ _ _ h => h) (by rfl) ?_ hHeld ?_
        rotate_left
        · (intro w1 hSw; go_simp; try with_reducible rfl)
        simp only [Act.put, List.setIfInBounds_toArray, List.set_cons_zero, List.set_cons_succ]
        refine takeL 8 (v := ?_) rfl (by kernel_rfl) (by kernel_rfl) (by kernel_rfl) (fun _ _ _ h => h) (by rfl) ?_ hHeld ?_
        rotate_left
        · (intro w1 hSw; go_simp; try with_reducible rfl)
        simp only [Act.put, List.setIfInBounds_toArray, List.set_cons_zero, List.set_cons_succ]
        refine takeL 9 rfl (by kernel_rfl) (by kernel_rfl) (by kernel_rfl) (fun _ _ _ h => h) (by rfl) (fun w1 hSw => run_load58 (.tmp 23) rfl b2 (i * 136) y1 w1 rfl (Ly1.out w1 hSw.2.1)) hHeld ?_
        simp only [Act.put, List.setIfInBounds_toArray, List.set_cons_zero, List.set_cons_succ]
        refine takeL 11 (v := ?_) rfl (by kernel_rfl) (by kernel_rfl) (by kernel_rfl) (fun _ _ _ h => h) (by rfl) ?_ hHeld ?_
        rotate_left
        · (intro w1 hSw; go_simp; try with_reducible rfl)
        simp only [Act.put, List.setIfInBounds_toArray, List.set_cons_zero, List.set_cons_succ]
        refine takeL 12 (v := ?_) rfl (by kernel_rfl) (by kernel_rfl) (by kernel_rfl) (fun _ _ _ h => h) (by rfl) ?_ hHeld ?_
        rotate_left
        · (intro w1 hSw; go_simp; try with_reducible rfl)
        simp only [Act.put, List.setIfInBounds_toArray, List.set_cons_zero, List.set_cons_succ]
        refine takeL 13 (v := ?_) rfl (by kernel_rfl) (by kernel_rfl) (by kernel_rfl) (fun _ _ _ h => h) (by rfl) ?_ hHeld ?_
        rotate_left
        · (intro w1 hSw; go_simp; try with_reducible rfl)
        simp only [Act.put, List.setIfInBounds_toArray, List.set_cons_zero, List.set_cons_succ]
        refine takeL 14 (v := ?_) rfl (by kernel_rfl) (by kernel_rfl) (by kernel_rfl) (fun _ _ _ h => h) (by rfl) ?_ hHeld ?_
        rotate_left
        · (intro w1 hSw; go_simp; try with_reducible rfl)
        simp only [Act.put, List.setIfInBounds_toArray, List.set_cons_zero, List.set_cons_succ]
        refine takeL 15 rfl (by kernel_rfl) (by kernel_rfl) (by kernel_rfl) (fun _ _ _ h => h) (by rfl) (fun w1 hSw => run_load58 (.tmp 29) rfl b (i * 136 + 68) x2 w1 rfl (Lx2.out w1 hSw.1)) hHeld ?_
        simp only [Act.put, List.setIfInBounds_toArray, List.set_cons_zero, List.set_cons_succ]
        refine takeL 16 (v := ?_) rfl (by kernel_rfl) (by kernel_rfl) (by kernel_rfl) (fun _ _ _ h => h) (by rfl) ?_ hHeld ?_
        rotate_left
        · (intro w1 hSw; go_simp; try with_reducible rfl)
        simp only [Act.put, List.setIfInBounds_toArray, List.set_cons_zero, List.set_cons_succ]
        refine takeL 17 (v := ?_) rfl (by kernel_rfl) (by kernel_rfl) (by kernel_rfl) (fun _ _ _ h => h) (by rfl) ?_ hHeld ?_
        rotate_left
        · (intro w1 hSw; go_simp; try with_reducible rfl)
        simp only [Act.put, List.setIfInBounds_toArray, List.set_cons_zero, List.set_cons_succ]
        refine takeL 18 (v := ?_) rfl (by kernel_rfl) (by kernel_rfl) (by kernel_rfl) (fun _ _ _ h => h) (by rfl) ?_ hHeld ?_
        rotate_left
        · (intro w1 hSw; go_simp; try with_reducible rfl)
        simp only [Act.put, List.setIfInBounds_toArray, List.set_cons_zero, List.set_cons_succ]
        refine takeL 19 (v := ?_) rfl (by kernel_rfl) (by kernel_rfl) (by kernel_rfl) (fun _ _ _ h => h) (by rfl) ?_ hHeld ?_
        rotate_left
        · (intro w1 hSw; go_simp; try with_reducible rfl)
        simp only [Act.put, List.setIfInBounds_toArray, List.set_cons_zero, List.set_cons_succ]
        refine takeL 20 rfl (by kernel_rfl) (by kernel_rfl) (by kernel_rfl) (fun _ _ _ h => h) (by rfl) (fun w1 hSw => run_load58 (.tmp 34) rfl b2 (i * 136 + 68) y2 w1 rfl (Ly2.out w1 hSw.2.1)) hHeld ?_
        simp only [Act.put, List.setIfInBounds_toArray, List.set_cons_zero, List.set_cons_succ]
        refine wpAnyH_ready (rs := [10, 22, 23]) (by kernel_rfl) (by simp) ?_
        refine consL rfl rfl (fun K hK => ?_) ?_
        · go_simp
          refine (HP1.out _).mono ?_
          rintro e wn ⟨rfl, hcn⟩
          refine hK.out _ _ ⟨hcn.blk hHeld.1 (by simp), hcn.blk hHeld.2.1 (by simp), Nat.le_trans hHeld.2.2.1 hcn.size, hHeld.2.2.2.trans (hcn.mono (by simp))⟩ (fun hHeld => ?_)
          clear hK K
          try simp only [Act.put, List.setIfInBounds_toArray, List.set_cons_zero, List.set_cons_succ, List.toList_toArray]
          clear hcn
          refine wpAnyH_ready (rs := [21, 22, 23]) (by kernel_rfl) (by simp) ?_
          refine consL rfl rfl (fun K hK => ?_) ?_
          · go_simp
            refine (HP2.out _).mono ?_
            rintro e wn ⟨rfl, hcn⟩
            refine hK.out _ _ ⟨hcn.blk hHeld.1 (by simp), hcn.blk hHeld.2.1 (by simp), Nat.le_trans hHeld.2.2.1 hcn.size, hHeld.2.2.2.trans (hcn.mono (by simp))⟩ (fun hHeld => ?_)
            clear hK K
            try simp only [Act.put, List.setIfInBounds_toArray, List.set_cons_zero, List.set_cons_succ, List.toList_toArray]
            clear hcn
            refine wpAnyH_ready (rs := [22, 23]) (by kernel_rfl) (by simp) ?_
            refine consL rfl rfl (fun K hK => ?_) ?_
            · have hsz := hHeld.2.2.1
              refine wp_zeroAcc rfl ?_
              intro p5 wn hbp5 kp5 hcn
              refine hK.out _ _ ⟨hcn.blk hHeld.1 (by simp), hcn.blk hHeld.2.1 (by simp), Nat.le_trans hHeld.2.2.1 hcn.size, hHeld.2.2.2.trans (hcn.mono (by simp))⟩ (fun hHeld => ?_)
              clear hK K
              try simp only [Act.put, List.setIfInBounds_toArray, List.set_cons_zero, List.set_cons_succ, List.toList_toArray]
              have gp5 : wr.heap.size ≤ p5 := by have := hbp5.out; have := hsz; omega
              clear hbp5 hsz
              clear hcn
              refine wpAnyH_ready (rs := [23]) (by kernel_rfl) (by simp) ?_
              refine consL rfl rfl (fun K hK => ?_) AllReadyH.nil
              have hsz := hHeld.2.2.1
              have hlt := kp5.lt
              refine wp_zeroAcc rfl ?_
              intro p6 wn hbp6 kp6 hcn
              refine hK.out _ _ ⟨hcn.blk hHeld.1 (by simp), hcn.blk hHeld.2.1 (by simp), Nat.le_trans hHeld.2.2.1 hcn.size, hHeld.2.2.2.trans (hcn.mono (by simp))⟩ (fun hHeld => ?_)
              clear hK K
              try simp only [Act.put, List.setIfInBounds_toArray, List.set_cons_zero, List.set_cons_succ, List.toList_toArray]
              have kp5 := hcn.blk kp5 (by simp)
              have gp6 : wr.heap.size ≤ p6 := by have := hbp6.out; have := hsz; omega
              have n56 : p5 ≠ p6 := by have := hbp6.out; have := hlt; omega
              clear hbp6 hsz hlt
              clear hcn
              refine wpAnyH_ready (rs := [24]) (by kernel_rfl) (by simp) ?_
              refine consL rfl rfl (fun K hK => ?_) AllReadyH.nil
              refine wp_store_mid 58 _ _ rfl p5 0 (W (x1 * y1)).toArray rfl rfl ((At.whole kp5).there _ (by rw [List.size_toArray, W_length, W_length])) (by rw [List.size_toArray, W_length]; exact info58) (Wd_one _) ?_
              have V0 := (At.setCells (W (x1 * y1)) _ _ _ _ (At.whole kp5) (by rw [W_length, W_length])).toBlk
              have V1 := Blk.setCells_ne p5 (W (x1 * y1)) 0 _ kp6 (by omega)
              have V2 := Nat.le_trans hHeld.2.2.1 (Chg.setCells p5 (by simp) (W (x1 * y1)) 0 _ (Chg.refl [p5] wn)).size
              have V3 := Chg.setCellsNew p5 (by omega) (W (x1 * y1)) 0 _ hHeld.2.2.2
              have U0 := Blk.setCells_ne p5 (W (x1 * y1)) 0 _ hHeld.1 (by omega)
              have U1 := Blk.setCells_ne p5 (W (x1 * y1)) 0 _ hHeld.2.1 (by omega)
              refine hK.out _ _ ⟨U0, U1, V2, V3⟩ (fun hHeld => ?_)
              clear hK K
              try simp only [Act.put, List.setIfInBounds_toArray, List.set_cons_zero, List.set_cons_succ, List.toList_toArray]
              generalize wn.setCells p5 0 (W (x1 * y1)) = wm at *
              clear kp5 kp6
              have kp5 := V0
              have kp6 := V1
              clear V0 V1 V2 V3 U0 U1
              refine wpAnyH_ready (rs := [25]) (by kernel_rfl) (by simp) ?_
              refine consL rfl rfl (fun K hK => ?_) AllReadyH.nil
              refine wp_store_mid 58 _ _ rfl p6 0 (W (x2 * y2)).toArray rfl rfl ((At.whole kp6).there _ (by rw [List.size_toArray, W_length, W_length])) (by rw [List.size_toArray, W_length]; exact info58) (Wd_one _) ?_
              have V0 := (At.setCells (W (x2 * y2)) _ _ _ _ (At.whole kp6) (by rw [W_length, W_length])).toBlk
              have V1 := Blk.setCells_ne p6 (W (x2 * y2)) 0 _ kp5 (by omega)
              have V2 := Nat.le_trans hHeld.2.2.1 (Chg.setCells p6 (by simp) (W (x2 * y2)) 0 _ (Chg.refl [p6] wm)).size
              have V3 := Chg.setCellsNew p6 (by omega) (W (x2 * y2)) 0 _ hHeld.2.2.2
              have U0 := Blk.setCells_ne p6 (W (x2 * y2)) 0 _ hHeld.1 (by omega)
              have U1 := Blk.setCells_ne p6 (W (x2 * y2)) 0 _ hHeld.2.1 (by omega)
              refine hK.out _ _ ⟨U0, U1, V2, V3⟩ (fun hHeld => ?_)
              clear hK K
              try simp only [Act.put, List.setIfInBounds_toArray, List.set_cons_zero, List.set_cons_succ, List.toList_toArray]
              generalize wm.setCells p6 0 (W (x2 * y2)) = wk at *
              clear kp6 kp5
              have kp6 := V0
              have kp5 := V1
              clear V0 V1 V2 V3 U0 U1
              refine wpAnyH_done (by kernel_rfl) ?_ _
              go_wp2_with fail
              go_meet
              exact ⟨p5, p6, rfl, rfl, n56, gp5, gp6, kp5, kp6, hHeld⟩
            refine consL rfl rfl (fun K hK => ?_) AllReadyH.nil
            have hsz := hHeld.2.2.1
            refine wp_zeroAcc rfl ?_
            intro p6 wn hbp6 kp6 hcn
            refine hK.out _ _ ⟨hcn.blk hHeld.1 (by simp), hcn.blk hHeld.2.1 (by simp), Nat.le_trans hHeld.2.2.1 hcn.size, hHeld.2.2.2.trans (hcn.mono (by simp))⟩ (fun hHeld => ?_)
            clear hK K
            try simp only [Act.put, List.setIfInBounds_toArray, List.set_cons_zero, List.set_cons_succ, List.toList_toArray]
            have gp6 : wr.heap.size ≤ p6 := by have := hbp6.out; have := hsz; omega
            clear hbp6 hsz
            clear hcn
            refine wpAnyH_ready (rs := [22]) (by kernel_rfl) (by simp) ?_
            refine consL rfl rfl (fun K hK => ?_) AllReadyH.nil
            have hsz := hHeld.2.2.1
            have hlt := kp6.lt
            refine wp_zeroAcc rfl ?_
            intro p5 wn hbp5 kp5 hcn
            refine hK.out _ _ ⟨hcn.blk hHeld.1 (by simp), hcn.blk hHeld.2.1 (by simp), Nat.le_trans hHeld.2.2.1 hcn.size, hHeld.2.2.2.trans (hcn.mono (by simp))⟩ (fun hHeld => ?_)
            clear hK K
            try simp only [Act.put, List.setIfInBounds_toArray, List.set_cons_zero, List.set_cons_succ, List.toList_toArray]
            have kp6 := hcn.blk kp6 (by simp)
            have gp5 : wr.heap.size ≤ p5 := by have := hbp5.out; have := hsz; omega
            have n56 : p5 ≠ p6 := by have := hbp5.out; have := hlt; omega
            clear hbp5 hsz hlt
            clear hcn
            refine wpAnyH_ready (rs := [24]) (by kernel_rfl) (by simp) ?_
            refine consL rfl rfl (fun K hK => ?_) AllReadyH.nil
            refine wp_store_mid 58 _ _ rfl p5 0 (W (x1 * y1)).toArray rfl rfl ((At.whole kp5).there _ (by rw [List.size_toArray, W_length, W_length])) (by rw [List.size_toArray, W_length]; exact info58) (Wd_one _) ?_
            have V0 := (At.setCells (W (x1 * y1)) _ _ _ _ (At.whole kp5) (by rw [W_length, W_length])).toBlk
            have V1 := Blk.setCells_ne p5 (W (x1 * y1)) 0 _ kp6 (by omega)
            have V2 := Nat.le_trans hHeld.2.2.1 (Chg.setCells p5 (by simp) (W (x1 * y1)) 0 _ (Chg.refl [p5] wn)).size
            have V3 := Chg.setCellsNew p5 (by omega) (W (x1 * y1)) 0 _ hHeld.2.2.2
            have U0 := Blk.setCells_ne p5 (W (x1 * y1)) 0 _ hHeld.1 (by omega)
            have U1 := Blk.setCells_ne p5 (W (x1 * y1)) 0 _ hHeld.2.1 (by omega)
            refine hK.out _ _ ⟨U0, U1, V2, V3⟩ (fun hHeld => ?_)
            clear hK K
            try simp only [Act.put, List.setIfInBounds_toArray, List.set_cons_zero, List.set_cons_succ, List.toList_toArray]
            generalize wn.setCells p5 0 (W (x1 * y1)) = wm at *
            clear kp5 kp6
            have kp5 := V0
            have kp6 := V1
            clear V0 V1 V2 V3 U0 U1
            refine wpAnyH_ready (rs := [25]) (by kernel_rfl) (by simp) ?_
            refine consL rfl rfl (fun K hK => ?_) AllReadyH.nil
            refine wp_store_mid 58 _ _ rfl p6 0 (W (x2 * y2)).toArray rfl rfl ((At.whole kp6).there _ (by rw [List.size_toArray, W_length, W_length])) (by rw [List.size_toArray, W_length]; exact info58) (Wd_one _) ?_
            have V0 := (At.setCells (W (x2 * y2)) _ _ _ _ (At.whole kp6) (by rw [W_length, W_length])).toBlk
            have V1 := Blk.setCells_ne p6 (W (x2 * y2)) 0 _ kp5 (by omega)
            have V2 := Nat.le_trans hHeld.2.2.1 (Chg.setCells p6 (by simp) (W (x2 * y2)) 0 _ (Chg.refl [p6] wm)).size
            have V3 := Chg.setCellsNew p6 (by omega) (W (x2 * y2)) 0 _ hHeld.2.2.2
            have U0 := Blk.setCells_ne p6 (W (x2 * y2)) 0 _ hHeld.1 (by omega)
            have U1 := Blk.setCells_ne p6 (W (x2 * y2)) 0 _ hHeld.2.1 (by omega)
            refine hK.out _ _ ⟨U0, U1, V2, V3⟩ (fun hHeld => ?_)
            clear hK K
            try simp only [Act.put, List.setIfInBounds_toArray, List.set_cons_zero, List.set_cons_succ, List.toList_toArray]
            generalize wm.setCells p6 0 (W (x2 * y2)) = wk at *
            clear kp6 kp5
            have kp6 := V0
            have kp5 := V1
            clear V0 V1 V2 V3 U0 U1
            refine wpAnyH_done (by kernel_rfl) ?_ _
            go_wp2_with fail
            go_meet
            exact ⟨p5, p6, rfl, rfl, n56, gp5, gp6, kp5, kp6, hHeld⟩
          refine consL rfl rfl (fun K hK => ?_) ?_
          · have hsz := hHeld.2.2.1
            refine wp_zeroAcc rfl ?_
            intro p5 wn hbp5 kp5 hcn
            refine hK.out _ _ ⟨hcn.blk hHeld.1 (by simp), hcn.blk hHeld.2.1 (by simp), Nat.le_trans hHeld.2.2.1 hcn.size, hHeld.2.2.2.trans (hcn.mono (by simp))⟩ (fun hHeld => ?_)
            clear hK K
            try simp only [Act.put, List.setIfInBounds_toArray, List.set_cons_zero, List.set_cons_succ, List.toList_toArray]
            have gp5 : wr.heap.size ≤ p5 := by have := hbp5.out; have := hsz; omega
            clear hbp5 hsz
            clear hcn
            refine wpAnyH_ready (rs := [21, 23]) (by kernel_rfl) (by simp) ?_
            refine consL rfl rfl (fun K hK => ?_) ?_
            · go_simp
              refine (HP2.out _).mono ?_
              rintro e wn ⟨rfl, hcn⟩
              refine hK.out _ _ ⟨hcn.blk hHeld.1 (by simp), hcn.blk hHeld.2.1 (by simp), Nat.le_trans hHeld.2.2.1 hcn.size, hHeld.2.2.2.trans (hcn.mono (by simp))⟩ (fun hHeld => ?_)
              clear hK K
              try simp only [Act.put, List.setIfInBounds_toArray, List.set_cons_zero, List.set_cons_succ, List.toList_toArray]
              have kp5 := hcn.blk kp5 (by simp)
              clear hcn
              refine wpAnyH_ready (rs := [23]) (by kernel_rfl) (by simp) ?_
              refine consL rfl rfl (fun K hK => ?_) AllReadyH.nil
              have hsz := hHeld.2.2.1
              have hlt := kp5.lt
              refine wp_zeroAcc rfl ?_
              intro p6 wn hbp6 kp6 hcn
              refine hK.out _ _ ⟨hcn.blk hHeld.1 (by simp), hcn.blk hHeld.2.1 (by simp), Nat.le_trans hHeld.2.2.1 hcn.size, hHeld.2.2.2.trans (hcn.mono (by simp))⟩ (fun hHeld => ?_)
              clear hK K
              try simp only [Act.put, List.setIfInBounds_toArray, List.set_cons_zero, List.set_cons_succ, List.toList_toArray]
              have kp5 := hcn.blk kp5 (by simp)
              have gp6 : wr.heap.size ≤ p6 := by have := hbp6.out; have := hsz; omega
              have n56 : p5 ≠ p6 := by have := hbp6.out; have := hlt; omega
              clear hbp6 hsz hlt
              clear hcn
              refine wpAnyH_ready (rs := [24]) (by kernel_rfl) (by simp) ?_
              refine consL rfl rfl (fun K hK => ?_) AllReadyH.nil
              refine wp_store_mid 58 _ _ rfl p5 0 (W (x1 * y1)).toArray rfl rfl ((At.whole kp5).there _ (by rw [List.size_toArray, W_length, W_length])) (by rw [List.size_toArray, W_length]; exact info58) (Wd_one _) ?_
              have V0 := (At.setCells (W (x1 * y1)) _ _ _ _ (At.whole kp5) (by rw [W_length, W_length])).toBlk
              have V1 := Blk.setCells_ne p5 (W (x1 * y1)) 0 _ kp6 (by omega)
              have V2 := Nat.le_trans hHeld.2.2.1 (Chg.setCells p5 (by simp) (W (x1 * y1)) 0 _ (Chg.refl [p5] wn)).size
              have V3 := Chg.setCellsNew p5 (by omega) (W (x1 * y1)) 0 _ hHeld.2.2.2
              have U0 := Blk.setCells_ne p5 (W (x1 * y1)) 0 _ hHeld.1 (by omega)
              have U1 := Blk.setCells_ne p5 (W (x1 * y1)) 0 _ hHeld.2.1 (by omega)
              refine hK.out _ _ ⟨U0, U1, V2, V3⟩ (fun hHeld => ?_)
              clear hK K
              try simp only [Act.put, List.setIfInBounds_toArray, List.set_cons_zero, List.set_cons_succ, List.toList_toArray]
              generalize wn.setCells p5 0 (W (x1 * y1)) = wm at *
              clear kp5 kp6
              have kp5 := V0
              have kp6 := V1
              clear V0 V1 V2 V3 U0 U1
              refine wpAnyH_ready (rs := [25]) (by kernel_rfl) (by simp) ?_
              refine consL rfl rfl (fun K hK => ?_) AllReadyH.nil
              refine wp_store_mid 58 _ _ rfl p6 0 (W (x2 * y2)).toArray rfl rfl ((At.whole kp6).there _ (by rw [List.size_toArray, W_length, W_length])) (by rw [List.size_toArray, W_length]; exact info58) (Wd_one _) ?_
              have V0 := (At.setCells (W (x2 * y2)) _ _ _ _ (At.whole kp6) (by rw [W_length, W_length])).toBlk
              have V1 := Blk.setCells_ne p6 (W (x2 * y2)) 0 _ kp5 (by omega)
              have V2 := Nat.le_trans hHeld.2.2.1 (Chg.setCells p6 (by simp) (W (x2 * y2)) 0 _ (Chg.refl [p6] wm)).size
              have V3 := Chg.setCellsNew p6 (by omega) (W (x2 * y2)) 0 _ hHeld.2.2.2
              have U0 := Blk.setCells_ne p6 (W (x2 * y2)) 0 _ hHeld.1 (by omega)
              have U1 := Blk.setCells_ne p6 (W (x2 * y2)) 0 _ hHeld.2.1 (by omega)
              refine hK.out _ _ ⟨U0, U1, V2, V3⟩ (fun hHeld => ?_)
              clear hK K
              try simp only [Act.put, List.setIfInBounds_toArray, List.set_cons_zero, List.set_cons_succ, List.toList_toArray]
              generalize wm.setCells p6 0 (W (x2 * y2)) = wk at *
              clear kp6 kp5
              have kp6 := V0
              have kp5 := V1
              clear V0 V1 V2 V3 U0 U1
              refine wpAnyH_done (by kernel_rfl) ?_ _
              go_wp2_with fail
              go_meet
              exact ⟨p5, p6, rfl, rfl, n56, gp5, gp6, kp5, kp6, hHeld⟩
            refine consL rfl rfl (fun K hK => ?_) AllReadyH.nil
            have hsz := hHeld.2.2.1
            have hlt := kp5.lt
            refine wp_zeroAcc rfl ?_
            intro p6 wn hbp6 kp6 hcn
            refine hK.out _ _ ⟨hcn.blk hHeld.1 (by simp), hcn.blk hHeld.2.1 (by simp), Nat.le_trans hHeld.2.2.1 hcn.size, hHeld.2.2.2.trans (hcn.mono (by simp))⟩ (fun hHeld => ?_)
            clear hK K
            try simp only [Act.put, List.setIfInBounds_toArray, List.set_cons_zero, List.set_cons_succ, List.toList_toArray]
            have kp5 := hcn.blk kp5 (by simp)
            have gp6 : wr.heap.size ≤ p6 := by have := hbp6.out; have := hsz; omega
            have n56 : p5 ≠ p6 := by have := hbp6.out; have := hlt; omega
            clear hbp6 hsz hlt
            clear hcn
            refine wpAnyH_ready (rs := [21]) (by kernel_rfl) (by simp) ?_
            refine consL rfl rfl (fun K hK => ?_) AllReadyH.nil
            go_simp
            refine (HP2.out _).mono ?_
            rintro e wn ⟨rfl, hcn⟩
            refine hK.out _ _ ⟨hcn.blk hHeld.1 (by simp), hcn.blk hHeld.2.1 (by simp), Nat.le_trans hHeld.2.2.1 hcn.size, hHeld.2.2.2.trans (hcn.mono (by simp))⟩ (fun hHeld => ?_)
            clear hK K
            try simp only [Act.put, List.setIfInBounds_toArray, List.set_cons_zero, List.set_cons_succ, List.toList_toArray]
            have kp5 := hcn.blk kp5 (by simp)
            have kp6 := hcn.blk kp6 (by simp)
            clear hcn
            refine wpAnyH_ready (rs := [24]) (by kernel_rfl) (by simp) ?_
            refine consL rfl rfl (fun K hK => ?_) AllReadyH.nil
            refine wp_store_mid 58 _ _ rfl p5 0 (W (x1 * y1)).toArray rfl rfl ((At.whole kp5).there _ (by rw [List.size_toArray, W_length, W_length])) (by rw [List.size_toArray, W_length]; exact info58) (Wd_one _) ?_
            have V0 := (At.setCells (W (x1 * y1)) _ _ _ _ (At.whole kp5) (by rw [W_length, W_length])).toBlk
            have V1 := Blk.setCells_ne p5 (W (x1 * y1)) 0 _ kp6 (by omega)
            have V2 := Nat.le_trans hHeld.2.2.1 (Chg.setCells p5 (by simp) (W (x1 * y1)) 0 _ (Chg.refl [p5] wn)).size
            have V3 := Chg.setCellsNew p5 (by omega) (W (x1 * y1)) 0 _ hHeld.2.2.2
            have U0 := Blk.setCells_ne p5 (W (x1 * y1)) 0 _ hHeld.1 (by omega)
            have U1 := Blk.setCells_ne p5 (W (x1 * y1)) 0 _ hHeld.2.1 (by omega)
            refine hK.out _ _ ⟨U0, U1, V2, V3⟩ (fun hHeld => ?_)
            clear hK K
            try simp only [Act.put, List.setIfInBounds_toArray, List.set_cons_zero, List.set_cons_succ, List.toList_toArray]
            generalize wn.setCells p5 0 (W (x1 * y1)) = wm at *
            clear kp5 kp6
            have kp5 := V0
            have kp6 := V1
            clear V0 V1 V2 V3 U0 U1
            refine wpAnyH_ready (rs := [25]) (by kernel_rfl) (by simp) ?_
            refine consL rfl rfl (fun K hK => ?_) AllReadyH.nil
            refine wp_store_mid 58 _ _ rfl p6 0 (W (x2 * y2)).toArray rfl rfl ((At.whole kp6).there _ (by rw [List.size_toArray, W_length, W_length])) (by rw [List.size_toArray, W_length]; exact info58) (Wd_one _) ?_
            have V0 := (At.setCells (W (x2 * y2)) _ _ _ _ (At.whole kp6) (by rw [W_length, W_length])).toBlk
            have V1 := Blk.setCells_ne p6 (W (x2 * y2)) 0 _ kp5 (by omega)
            have V2 := Nat.le_trans hHeld.2.2.1 (Chg.setCells p6 (by simp) (W (x2 * y2)) 0 _ (Chg.refl [p6] wm)).size
            have V3 := Chg.setCellsNew p6 (by omega) (W (x2 * y2)) 0 _ hHeld.2.2.2
            have U0 := Blk.setCells_ne p6 (W (x2 * y2)) 0 _ hHeld.1 (by omega)
            have U1 := Blk.setCells_ne p6 (W (x2 * y2)) 0 _ hHeld.2.1 (by omega)
            refine hK.out _ _ ⟨U0, U1, V2, V3⟩ (fun hHeld => ?_)
            clear hK K
            try simp only [Act.put, List.setIfInBounds_toArray, List.set_cons_zero, List.set_cons_succ, List.toList_toArray]
            generalize wm.setCells p6 0 (W (x2 * y2)) = wk at *
            clear kp6 kp5
            have kp6 := V0
            have kp5 := V1
            clear V0 V1 V2 V3 U0 U1
            refine wpAnyH_done (by kernel_rfl) ?_ _
            go_wp2_with fail
            go_meet
            exact ⟨p5, p6, rfl, rfl, n56, gp5, gp6, kp5, kp6, hHeld⟩
          refine consL rfl rfl (fun K hK => ?_) AllReadyH.nil
          have hsz := hHeld.2.2.1
          refine wp_zeroAcc rfl ?_
          intro p6 wn hbp6 kp6 hcn
          refine hK.out _ _ ⟨hcn.blk hHeld.1 (by simp), hcn.blk hHeld.2.1 (by simp), Nat.le_trans hHeld.2.2.1 hcn.size, hHeld.2.2.2.trans (hcn.mono (by simp))⟩ (fun hHeld => ?_)
          clear hK K
          try simp only [Act.put, List.setIfInBounds_toArray, List.set_cons_zero, List.set_cons_succ, List.toList_toArray]
          have gp6 : wr.heap.size ≤ p6 := by have := hbp6.out; have := hsz; omega
          clear hbp6 hsz
          clear hcn
          refine wpAnyH_ready (rs := [21, 22]) (by kernel_rfl) (by simp) ?_
          refine consL rfl rfl (fun K hK => ?_) ?_
          · go_simp
            refine (HP2.out _).mono ?_
            rintro e wn ⟨rfl, hcn⟩
            refine hK.out _ _ ⟨hcn.blk hHeld.1 (by simp), hcn.blk hHeld.2.1 (by simp), Nat.le_trans hHeld.2.2.1 hcn.size, hHeld.2.2.2.trans (hcn.mono (by simp))⟩ (fun hHeld => ?_)
            clear hK K
            try simp only [Act.put, List.setIfInBounds_toArray, List.set_cons_zero, List.set_cons_succ, List.toList_toArray]
            have kp6 := hcn.blk kp6 (by simp)
            clear hcn
            refine wpAnyH_ready (rs := [22]) (by kernel_rfl) (by simp) ?_
            refine consL rfl rfl (fun K hK => ?_) AllReadyH.nil
            have hsz := hHeld.2.2.1
            have hlt := kp6.lt
            refine wp_zeroAcc rfl ?_
            intro p5 wn hbp5 kp5 hcn
            refine hK.out _ _ ⟨hcn.blk hHeld.1 (by simp), hcn.blk hHeld.2.1 (by simp), Nat.le_trans hHeld.2.2.1 hcn.size, hHeld.2.2.2.trans (hcn.mono (by simp))⟩ (fun hHeld => ?_)
            clear hK K
            try simp only [Act.put, List.setIfInBounds_toArray, List.set_cons_zero, List.set_cons_succ, List.toList_toArray]
            have kp6 := hcn.blk kp6 (by simp)
            have gp5 : wr.heap.size ≤ p5 := by have := hbp5.out; have := hsz; omega
            have n56 : p5 ≠ p6 := by have := hbp5.out; have := hlt; omega
            clear hbp5 hsz hlt
            clear hcn
            refine wpAnyH_ready (rs := [24]) (by kernel_rfl) (by simp) ?_
            refine consL rfl rfl (fun K hK => ?_) AllReadyH.nil
            refine wp_store_mid 58 _ _ rfl p5 0 (W (x1 * y1)).toArray rfl rfl ((At.whole kp5).there _ (by rw [List.size_toArray, W_length, W_length])) (by rw [List.size_toArray, W_length]; exact info58) (Wd_one _) ?_
            have V0 := (At.setCells (W (x1 * y1)) _ _ _ _ (At.whole kp5) (by rw [W_length, W_length])).toBlk
            have V1 := Blk.setCells_ne p5 (W (x1 * y1)) 0 _ kp6 (by omega)
            have V2 := Nat.le_trans hHeld.2.2.1 (Chg.setCells p5 (by simp) (W (x1 * y1)) 0 _ (Chg.refl [p5] wn)).size
            have V3 := Chg.setCellsNew p5 (by omega) (W (x1 * y1)) 0 _ hHeld.2.2.2
            have U0 := Blk.setCells_ne p5 (W (x1 * y1)) 0 _ hHeld.1 (by omega)
            have U1 := Blk.setCells_ne p5 (W (x1 * y1)) 0 _ hHeld.2.1 (by omega)
            refine hK.out _ _ ⟨U0, U1, V2, V3⟩ (fun hHeld => ?_)
            clear hK K
            try simp only [Act.put, List.setIfInBounds_toArray, List.set_cons_zero, List.set_cons_succ, List.toList_toArray]
            generalize wn.setCells p5 0 (W (x1 * y1)) = wm at *
            clear kp5 kp6
            have kp5 := V0
            have kp6 := V1
            clear V0 V1 V2 V3 U0 U1
            refine wpAnyH_ready (rs := [25]) (by kernel_rfl) (by simp) ?_
            refine consL rfl rfl (fun K hK => ?_) AllReadyH.nil
            refine wp_store_mid 58 _ _ rfl p6 0 (W (x2 * y2)).toArray rfl rfl ((At.whole kp6).there _ (by rw [List.size_toArray, W_length, W_length])) (by rw [List.size_toArray, W_length]; exact info58) (Wd_one _) ?_
            have V0 := (At.setCells (W (x2 * y2)) _ _ _ _ (At.whole kp6) (by rw [W_length, W_length])).toBlk
            have V1 := Blk.setCells_ne p6 (W (x2 * y2)) 0 _ kp5 (by omega)
            have V2 := Nat.le_trans hHeld.2.2.1 (Chg.setCells p6 (by simp) (W (x2 * y2)) 0 _ (Chg.refl [p6] wm)).size
            have V3 := Chg.setCellsNew p6 (by omega) (W (x2 * y2)) 0 _ hHeld.2.2.2
            have U0 := Blk.setCells_ne p6 (W (x2 * y2)) 0 _ hHeld.1 (by omega)
            have U1 := Blk.setCells_ne p6 (W (x2 * y2)) 0 _ hHeld.2.1 (by omega)
            refine hK.out _ _ ⟨U0, U1, V2, V3⟩ (fun hHeld => ?_)
            clear hK K
            try simp only [Act.put, List.setIfInBounds_toArray, List.set_cons_zero, List.set_cons_succ, List.toList_toArray]
            generalize wm.setCells p6 0 (W (x2 * y2)) = wk at *
            clear kp6 kp5
            have kp6 := V0
            have kp5 := V1
            clear V0 V1 V2 V3 U0 U1
            refine wpAnyH_done (by kernel_rfl) ?_ _
            go_wp2_with fail
            go_meet
            exact ⟨p5, p6, rfl, rfl, n56, gp5, gp6, kp5, kp6, hHeld⟩
          refine consL rfl rfl (fun K hK => ?_) AllReadyH.nil
          have hsz := hHeld.2.2.1
          have hlt := kp6.lt
          refine wp_zeroAcc rfl ?_
          intro p5 wn hbp5 kp5 hcn
          refine hK.out _ _ ⟨hcn.blk hHeld.1 (by simp), hcn.blk hHeld.2.1 (by simp), Nat.le_trans hHeld.2.2.1 hcn.size, hHeld.2.2.2.trans (hcn.mono (by simp))⟩ (fun hHeld => ?_)
          clear hK K
          try simp only [Act.put, List.setIfInBounds_toArray, List.set_cons_zero, List.set_cons_succ, List.toList_toArray]
          have kp6 := hcn.blk kp6 (by simp)
          have gp5 : wr.heap.size ≤ p5 := by have := hbp5.out; have := hsz; omega
          have n56 : p5 ≠ p6 := by have := hbp5.out; have := hlt; omega
          clear hbp5 hsz hlt
          clear hcn
          refine wpAnyH_ready (rs := [21]) (by kernel_rfl) (by simp) ?_
          refine consL rfl rfl (fun K hK => ?_) AllReadyH.nil
          go_simp
          refine (HP2.out _).mono ?_
          rintro e wn ⟨rfl, hcn⟩
          refine hK.out _ _ ⟨hcn.blk hHeld.1 (by simp), hcn.blk hHeld.2.1 (by simp), Nat.le_trans hHeld.2.2.1 hcn.size, hHeld.2.2.2.trans (hcn.mono (by simp))⟩ (fun hHeld => ?_)
          clear hK K
          try simp only [Act.put, List.setIfInBounds_toArray, List.set_cons_zero, List.set_cons_succ, List.toList_toArray]
          have kp6 := hcn.blk kp6 (by simp)
          have kp5 := hcn.blk kp5 (by simp)
          clear hcn
          refine wpAnyH_ready (rs := [24]) (by kernel_rfl) (by simp) ?_
          refine consL rfl rfl (fun K hK => ?_) AllReadyH.nil
          refine wp_store_mid 58 _ _ rfl p5 0 (W (x1 * y1)).toArray rfl rfl ((At.whole kp5).there _ (by rw [List.size_toArray, W_length, W_length])) (by rw [List.size_toArray, W_length]; exact info58) (Wd_one _) ?_
          have V0 := (At.setCells (W (x1 * y1)) _ _ _ _ (At.whole kp5) (by rw [W_length, W_length])).toBlk
          have V1 := Blk.setCells_ne p5 (W (x1 * y1)) 0 _ kp6 (by omega)
          have V2 := Nat.le_trans hHeld.2.2.1 (Chg.setCells p5 (by simp) (W (x1 * y1)) 0 _ (Chg.refl [p5] wn)).size
          have V3 := Chg.setCellsNew p5 (by omega) (W (x1 * y1)) 0 _ hHeld.2.2.2
          have U0 := Blk.setCells_ne p5 (W (x1 * y1)) 0 _ hHeld.1 (by omega)
          have U1 := Blk.setCells_ne p5 (W (x1 * y1)) 0 _ hHeld.2.1 (by omega)
          refine hK.out _ _ ⟨U0, U1, V2, V3⟩ (fun hHeld => ?_)
          clear hK K
          try simp only [Act.put, List.setIfInBounds_toArray, List.set_cons_zero, List.set_cons_succ, List.toList_toArray]
          generalize wn.setCells p5 0 (W (x1 * y1)) = wm at *
          clear kp5 kp6
          have kp5 := V0
          have kp6 := V1
          clear V0 V1 V2 V3 U0 U1
          refine wpAnyH_ready (rs := [25]) (by kernel_rfl) (by simp) ?_
          refine consL rfl rfl (fun K hK => ?_) AllReadyH.nil
          refine wp_store_mid 58 _ _ rfl p6 0 (W (x2 * y2)).toArray rfl rfl ((At.whole kp6).there _ (by rw [List.size_toArray, W_length, W_length])) (by rw [List.size_toArray, W_length]; exact info58) (Wd_one _) ?_
          have V0 := (At.setCells (W (x2 * y2)) _ _ _ _ (At.whole kp6) (by rw [W_length, W_length])).toBlk
          have V1 := Blk.setCells_ne p6 (W (x2 * y2)) 0 _ kp5 (by omega)
          have V2 := Nat.le_trans hHeld.2.2.1 (Chg.setCells p6 (by simp) (W (x2 * y2)) 0 _ (Chg.refl [p6] wm)).size
          have V3 := Chg.setCellsNew p6 (by omega) (W (x2 * y2)) 0 _ hHeld.2.2.2
          have U0 := Blk.setCells_ne p6 (W (x2 * y2)) 0 _ hHeld.1 (by omega)
          have U1 := Blk.setCells_ne p6 (W (x2 * y2)) 0 _ hHeld.2.1 (by omega)
          refine hK.out _ _ ⟨U0, U1, V2, V3⟩ (fun hHeld => ?_)
          clear hK K
          try simp only [Act.put, List.setIfInBounds_toArray, List.set_cons_zero, List.set_cons_succ, List.toList_toArray]
          generalize wm.setCells p6 0 (W (x2 * y2)) = wk at *
          clear kp6 kp5
          have kp6 := V0
          have kp5 := V1
          clear V0 V1 V2 V3 U0 U1
          refine wpAnyH_done (by kernel_rfl) ?_ _
          go_wp2_with fail
          go_meet
          exact ⟨p5, p6, rfl, rfl, n56, gp5, gp6, kp5, kp6, hHeld⟩
        refine consL rfl rfl (fun K hK => ?_) ?_
        · have hsz := hHeld.2.2.1
          refine wp_zeroAcc rfl ?_
          intro p5 wn hbp5 kp5 hcn
          refine hK.out _ _ ⟨hcn.blk hHeld.1 (by simp), hcn.blk hHeld.2.1 (by simp), Nat.le_trans hHeld.2.2.1 hcn.size, hHeld.2.2.2.trans (hcn.mono (by simp))⟩ (fun hHeld => ?_)
          clear hK K
          try simp only [Act.put, List.setIfInBounds_toArray, List.set_cons_zero, List.set_cons_succ, List.toList_toArray]
          have gp5 : wr.heap.size ≤ p5 := by have := hbp5.out; have := hsz; omega
          clear hbp5 hsz
          clear hcn
          refine wpAnyH_ready (rs := [10, 23]) (by kernel_rfl) (by simp) ?_
          refine consL rfl rfl (fun K hK => ?_) ?_
          · go_simp
            refine (HP1.out _).mono ?_
            rintro e wn ⟨rfl, hcn⟩
            refine hK.out _ _ ⟨hcn.blk hHeld.1 (by simp), hcn.blk hHeld.2.1 (by simp), Nat.le_trans hHeld.2.2.1 hcn.size, hHeld.2.2.2.trans (hcn.mono (by simp))⟩ (fun hHeld => ?_)
            clear hK K
            try simp only [Act.put, List.setIfInBounds_toArray, List.set_cons_zero, List.set_cons_succ, List.toList_toArray]
            have kp5 := hcn.blk kp5 (by simp)
            clear hcn
            refine wpAnyH_ready (rs := [21, 23]) (by kernel_rfl) (by simp) ?_
            refine consL rfl rfl (fun K hK => ?_) ?_
            · go_simp
              refine (HP2.out _).mono ?_
              rintro e wn ⟨rfl, hcn⟩
              refine hK.out _ _ ⟨hcn.blk hHeld.1 (by simp), hcn.blk hHeld.2.1 (by simp), Nat.le_trans hHeld.2.2.1 hcn.size, hHeld.2.2.2.trans (hcn.mono (by simp))⟩ (fun hHeld => ?_)
              clear hK K
              try simp only [Act.put, List.setIfInBounds_toArray, List.set_cons_zero, List.set_cons_succ, List.toList_toArray]
              have kp5 := hcn.blk kp5 (by simp)
              clear hcn
              refine wpAnyH_ready (rs := [23]) (by kernel_rfl) (by simp) ?_
              refine consL rfl rfl (fun K hK => ?_) AllReadyH.nil
              have hsz := hHeld.2.2.1
              have hlt := kp5.lt
              refine wp_zeroAcc rfl ?_
              intro p6 wn hbp6 kp6 hcn
              refine hK.out _ _ ⟨hcn.blk hHeld.1 (by simp), hcn.blk hHeld.2.1 (by simp), Nat.le_trans hHeld.2.2.1 hcn.size, hHeld.2.2.2.trans (hcn.mono (by simp))⟩ (fun hHeld => ?_)
              clear hK K
              try simp only [Act.put, List.setIfInBounds_toArray, List.set_cons_zero, List.set_cons_succ, List.toList_toArray]
              have kp5 := hcn.blk kp5 (by simp)
              have gp6 : wr.heap.size ≤ p6 := by have := hbp6.out; have := hsz; omega
              have n56 : p5 ≠ p6 := by have := hbp6.out; have := hlt; omega
              clear hbp6 hsz hlt
              clear hcn
              refine wpAnyH_ready (rs := [24]) (by kernel_rfl) (by simp) ?_
              refine consL rfl rfl (fun K hK => ?_) AllReadyH.nil
              refine wp_store_mid 58 _ _ rfl p5 0 (W (x1 * y1)).toArray rfl rfl ((At.whole kp5).there _ (by rw [List.size_toArray, W_length, W_length])) (by rw [List.size_toArray, W_length]; exact info58) (Wd_one _) ?_
              have V0 := (At.setCells (W (x1 * y1)) _ _ _ _ (At.whole kp5) (by rw [W_length, W_length])).toBlk
              have V1 := Blk.setCells_ne p5 (W (x1 * y1)) 0 _ kp6 (by omega)
              have V2 := Nat.le_trans hHeld.2.2.1 (Chg.setCells p5 (by simp) (W (x1 * y1)) 0 _ (Chg.refl [p5] wn)).size
              have V3 := Chg.setCellsNew p5 (by omega) (W (x1 * y1)) 0 _ hHeld.2.2.2
              have U0 := Blk.setCells_ne p5 (W (x1 * y1)) 0 _ hHeld.1 (by omega)
              have U1 := Blk.setCells_ne p5 (W (x1 * y1)) 0 _ hHeld.2.1 (by omega)
              refine hK.out _ _ ⟨U0, U1, V2, V3⟩ (fun hHeld => ?_)
              clear hK K
              try simp only [Act.put, List.setIfInBounds_toArray, List.set_cons_zero, List.set_cons_succ, List.toList_toArray]
              generalize wn.setCells p5 0 (W (x1 * y1)) = wm at *
              clear kp5 kp6
              have kp5 := V0
              have kp6 := V1
              clear V0 V1 V2 V3 U0 U1
              refine wpAnyH_ready (rs := [25]) (by kernel_rfl) (by simp) ?_
              refine consL rfl rfl (fun K hK => ?_) AllReadyH.nil
              refine wp_store_mid 58 _ _ rfl p6 0 (W (x2 * y2)).toArray rfl rfl ((At.whole kp6).there _ (by rw [List.size_toArray, W_length, W_length])) (by rw [List.size_toArray, W_length]; exact info58) (Wd_one _) ?_
              have V0 := (At.setCells (W (x2 * y2)) _ _ _ _ (At.whole kp6) (by rw [W_length, W_length])).toBlk
              have V1 := Blk.setCells_ne p6 (W (x2 * y2)) 0 _ kp5 (by omega)
              have V2 := Nat.le_trans hHeld.2.2.1 (Chg.setCells p6 (by simp) (W (x2 * y2)) 0 _ (Chg.refl [p6] wm)).size
              have V3 := Chg.setCellsNew p6 (by omega) (W (x2 * y2)) 0 _ hHeld.2.2.2
              have U0 := Blk.setCells_ne p6 (W (x2 * y2)) 0 _ hHeld.1 (by omega)
              have U1 := Blk.setCells_ne p6 (W (x2 * y2)) 0 _ hHeld.2.1 (by omega)
              refine hK.out _ _ ⟨U0, U1, V2, V3⟩ (fun hHeld => ?_)
              clear hK K
              try simp only [Act.put, List.setIfInBounds_toArray, List.set_cons_zero, List.set_cons_succ, List.toList_toArray]
              generalize wm.setCells p6 0 (W (x2 * y2)) = wk at *
              clear kp6 kp5
              have kp6 := V0
              have kp5 := V1
              clear V0 V1 V2 V3 U0 U1
              refine wpAnyH_done (by kernel_rfl) ?_ _
              go_wp2_with fail
              go_meet
              exact ⟨p5, p6, rfl, rfl, n56, gp5, gp6, kp5, kp6, hHeld⟩
            refine consL rfl rfl (fun K hK => ?_) AllReadyH.nil
            have hsz := hHeld.2.2.1
            have hlt := kp5.lt
            refine wp_zeroAcc rfl ?_
            intro p6 wn hbp6 kp6 hcn
            refine hK.out _ _ ⟨hcn.blk hHeld.1 (by simp), hcn.blk hHeld.2.1 (by simp), Nat.le_trans hHeld.2.2.1 hcn.size, hHeld.2.2.2.trans (hcn.mono (by simp))⟩ (fun hHeld => ?_)
            clear hK K
            try simp only [Act.put, List.setIfInBounds_toArray, List.set_cons_zero, List.set_cons_succ, List.toList_toArray]
            have kp5 := hcn.blk kp5 (by simp)
            have gp6 : wr.heap.size ≤ p6 := by have := hbp6.out; have := hsz; omega
            have n56 : p5 ≠ p6 := by have := hbp6.out; have := hlt; omega
            clear hbp6 hsz hlt
            clear hcn
            refine wpAnyH_ready (rs := [21]) (by kernel_rfl) (by simp) ?_
            refine consL rfl rfl (fun K hK => ?_) AllReadyH.nil
            go_simp
            refine (HP2.out _).mono ?_
            rintro e wn ⟨rfl, hcn⟩
            refine hK.out _ _ ⟨hcn.blk hHeld.1 (by simp), hcn.blk hHeld.2.1 (by simp), Nat.le_trans hHeld.2.2.1 hcn.size, hHeld.2.2.2.trans (hcn.mono (by simp))⟩ (fun hHeld => ?_)
            clear hK K
            try simp only [Act.put, List.setIfInBounds_toArray, List.set_cons_zero, List.set_cons_succ, List.toList_toArray]
            have kp5 := hcn.blk kp5 (by simp)
            have kp6 := hcn.blk kp6 (by simp)
            clear hcn
            refine wpAnyH_ready (rs := [24]) (by kernel_rfl) (by simp) ?_
            refine consL rfl rfl (fun K hK => ?_) AllReadyH.nil
            refine wp_store_mid 58 _ _ rfl p5 0 (W (x1 * y1)).toArray rfl rfl ((At.whole kp5).there _ (by rw [List.size_toArray, W_length, W_length])) (by rw [List.size_toArray, W_length]; exact info58) (Wd_one _) ?_
            have V0 := (At.setCells (W (x1 * y1)) _ _ _ _ (At.whole kp5) (by rw [W_length, W_length])).toBlk
            have V1 := Blk.setCells_ne p5 (W (x1 * y1)) 0 _ kp6 (by omega)
            have V2 := Nat.le_trans hHeld.2.2.1 (Chg.setCells p5 (by simp) (W (x1 * y1)) 0 _ (Chg.refl [p5] wn)).size
            have V3 := Chg.setCellsNew p5 (by omega) (W (x1 * y1)) 0 _ hHeld.2.2.2
            have U0 := Blk.setCells_ne p5 (W (x1 * y1)) 0 _ hHeld.1 (by omega)
            have U1 := Blk.setCells_ne p5 (W (x1 * y1)) 0 _ hHeld.2.1 (by omega)
            refine hK.out _ _ ⟨U0, U1, V2, V3⟩ (fun hHeld => ?_)
            clear hK K
            try simp only [Act.put, List.setIfInBounds_toArray, List.set_cons_zero, List.set_cons_succ, List.toList_toArray]
            generalize wn.setCells p5 0 (W (x1 * y1)) = wm at *
            clear kp5 kp6
            have kp5 := V0
            have kp6 := V1
            clear V0 V1 V2 V3 U0 U1
            refine wpAnyH_ready (rs := [25]) (by kernel_rfl) (by simp) ?_
            refine consL rfl rfl (fun K hK => ?_) AllReadyH.nil
            refine wp_store_mid 58 _ _ rfl p6 0 (W (x2 * y2)).toArray rfl rfl ((At.whole kp6).there _ (by rw [List.size_toArray, W_length, W_length])) (by rw [List.size_toArray, W_length]; exact info58) (Wd_one _) ?_
            have V0 := (At.setCells (W (x2 * y2)) _ _ _ _ (At.whole kp6) (by rw [W_length, W_length])).toBlk
            have V1 := Blk.setCells_ne p6 (W (x2 * y2)) 0 _ kp5 (by omega)
            have V2 := Nat.le_trans hHeld.2.2.1 (Chg.setCells p6 (by simp) (W (x2 * y2)) 0 _ (Chg.refl [p6] wm)).size
            have V3 := Chg.setCellsNew p6 (by omega) (W (x2 * y2)) 0 _ hHeld.2.2.2
            have U0 := Blk.setCells_ne p6 (W (x2 * y2)) 0 _ hHeld.1 (by omega)
            have U1 := Blk.setCells_ne p6 (W (x2 * y2)) 0 _ hHeld.2.1 (by omega)
            refine hK.out _ _ ⟨U0, U1, V2, V3⟩ (fun hHeld => ?_)
            clear hK K
            try simp only [Act.put, List.setIfInBounds_toArray, List.set_cons_zero, List.set_cons_succ, List.toList_toArray]
            generalize wm.setCells p6 0 (W (x2 * y2)) = wk at *
            clear kp6 kp5
            have kp6 := V0
            have kp5 := V1
            clear V0 V1 V2 V3 U0 U1
            refine wpAnyH_done (by kernel_rfl) ?_ _
            go_wp2_with fail
            go_meet
            exact ⟨p5, p6, rfl, rfl, n56, gp5, gp6, kp5, kp6, hHeld⟩
          refine consL rfl rfl (fun K hK => ?_) AllReadyH.nil
          have hsz := hHeld.2.2.1
          have hlt := kp5.lt
          refine wp_zeroAcc rfl ?_
          intro p6 wn hbp6 kp6 hcn
          refine hK.out _ _ ⟨hcn.blk hHeld.1 (by simp), hcn.blk hHeld.2.1 (by simp), Nat.le_trans hHeld.2.2.1 hcn.size, hHeld.2.2.2.trans (hcn.mono (by simp))⟩ (fun hHeld => ?_)
          clear hK K
          try simp only [Act.put, List.setIfInBounds_toArray, List.set_cons_zero, List.set_cons_succ, List.toList_toArray]
          have kp5 := hcn.blk kp5 (by simp)
          have gp6 : wr.heap.size ≤ p6 := by have := hbp6.out; have := hsz; omega
          have n56 : p5 ≠ p6 := by have := hbp6.out; have := hlt; omega
          clear hbp6 hsz hlt
          clear hcn
          refine wpAnyH_ready (rs := [10]) (by kernel_rfl) (by simp) ?_
          refine consL rfl rfl (fun K hK => ?_) AllReadyH.nil
          go_simp
          refine (HP1.out _).mono ?_
          rintro e wn ⟨rfl, hcn⟩
          refine hK.out _ _ ⟨hcn.blk hHeld.1 (by simp), hcn.blk hHeld.2.1 (by simp), Nat.le_trans hHeld.2.2.1 hcn.size, hHeld.2.2.2.trans (hcn.mono (by simp))⟩ (fun hHeld => ?_)
          clear hK K
          try simp only [Act.put, List.setIfInBounds_toArray, List.set_cons_zero, List.set_cons_succ, List.toList_toArray]
          have kp5 := hcn.blk kp5 (by simp)
          have kp6 := hcn.blk kp6 (by simp)
          clear hcn
          refine wpAnyH_ready (rs := [21]) (by kernel_rfl) (by simp) ?_
          refine consL rfl rfl (fun K hK => ?_) AllReadyH.nil
          go_simp
          refine (HP2.out _).mono ?_
          rintro e wn ⟨rfl, hcn⟩
          refine hK.out _ _ ⟨hcn.blk hHeld.1 (by simp), hcn.blk hHeld.2.1 (by simp), Nat.le_trans hHeld.2.2.1 hcn.size, hHeld.2.2.2.trans (hcn.mono (by simp))⟩ (fun hHeld => ?_)
          clear hK K
          try simp only [Act.put, List.setIfInBounds_toArray, List.set_cons_zero, List.set_cons_succ, List.toList_toArray]
          have kp5 := hcn.blk kp5 (by simp)
          have kp6 := hcn.blk kp6 (by simp)
          clear hcn
          refine wpAnyH_ready (rs := [24]) (by kernel_rfl) (by simp) ?_
          refine consL rfl rfl (fun K hK => ?_) AllReadyH.nil
          refine wp_store_mid 58 _ _ rfl p5 0 (W (x1 * y1)).toArray rfl rfl ((At.whole kp5).there _ (by rw [List.size_toArray, W_length, W_length])) (by rw [List.size_toArray, W_length]; exact info58) (Wd_one _) ?_
          have V0 := (At.setCells (W (x1 * y1)) _ _ _ _ (At.whole kp5) (by rw [W_length, W_length])).toBlk
          have V1 := Blk.setCells_ne p5 (W (x1 * y1)) 0 _ kp6 (by omega)
          have V2 := Nat.le_trans hHeld.2.2.1 (Chg.setCells p5 (by simp) (W (x1 * y1)) 0 _ (Chg.refl [p5] wn)).size
          have V3 := Chg.setCellsNew p5 (by omega) (W (x1 * y1)) 0 _ hHeld.2.2.2
          have U0 := Blk.setCells_ne p5 (W (x1 * y1)) 0 _ hHeld.1 (by omega)
          have U1 := Blk.setCells_ne p5 (W (x1 * y1)) 0 _ hHeld.2.1 (by omega)
          refine hK.out _ _ ⟨U0, U1, V2, V3⟩ (fun hHeld => ?_)
          clear hK K
          try simp only [Act.put, List.setIfInBounds_toArray, List.set_cons_zero, List.set_cons_succ, List.toList_toArray]
          generalize wn.setCells p5 0 (W (x1 * y1)) = wm at *
          clear kp5 kp6
          have kp5 := V0
          have kp6 := V1
          clear V0 V1 V2 V3 U0 U1
          refine wpAnyH_ready (rs := [25]) (by kernel_rfl) (by simp) ?_
          refine consL rfl rfl (fun K hK => ?_) AllReadyH.nil
          refine wp_store_mid 58 _ _ rfl p6 0 (W (x2 * y2)).toArray rfl rfl ((At.whole kp6).there _ (by rw [List.size_toArray, W_length, W_length])) (by rw [List.size_toArray, W_length]; exact info58) (Wd_one _) ?_
          have V0 := (At.setCells (W (x2 * y2)) _ _ _ _ (At.whole kp6) (by rw [W_length, W_length])).toBlk
          have V1 := Blk.setCells_ne p6 (W (x2 * y2)) 0 _ kp5 (by omega)
          have V2 := Nat.le_trans hHeld.2.2.1 (Chg.setCells p6 (by simp) (W (x2 * y2)) 0 _ (Chg.refl [p6] wm)).size
          have V3 := Chg.setCellsNew p6 (by omega) (W (x2 * y2)) 0 _ hHeld.2.2.2
          have U0 := Blk.setCells_ne p6 (W (x2 * y2)) 0 _ hHeld.1 (by omega)
          have U1 := Blk.setCells_ne p6 (W (x2 * y2)) 0 _ hHeld.2.1 (by omega)
          refine hK.out _ _ ⟨U0, U1, V2, V3⟩ (fun hHeld => ?_)
          clear hK K
          try simp only [Act.put, List.setIfInBounds_toArray, List.set_cons_zero, List.set_cons_succ, List.toList_toArray]
          generalize wm.setCells p6 0 (W (x2 * y2)) = wk at *
          clear kp6 kp5
          have kp6 := V0
          have kp5 := V1
          clear V0 V1 V2 V3 U0 U1
          refine wpAnyH_done (by kernel_rfl) ?_ _
          go_wp2_with fail
          go_meet
          exact ⟨p5, p6, rfl, rfl, n56, gp5, gp6, kp5, kp6, hHeld⟩
        refine consL rfl rfl (fun K hK => ?_) AllReadyH.nil
        have hsz := hHeld.2.2.1
        refine wp_zeroAcc rfl ?_
        intro p6 wn hbp6 kp6 hcn
        refine hK.out _ _ ⟨hcn.blk hHeld.1 (by simp), hcn.blk hHeld.2.1 (by simp), Nat.le_trans hHeld.2.2.1 hcn.size, hHeld.2.2.2.trans (hcn.mono (by simp))⟩ (fun hHeld => ?_)
        clear hK K
        try simp only [Act.put, List.setIfInBounds_toArray, List.set_cons_zero, List.set_cons_succ, List.toList_toArray]
        have gp6 : wr.heap.size ≤ p6 := by have := hbp6.out; have := hsz; omega
        clear hbp6 hsz
        clear hcn
        refine wpAnyH_ready (rs := [10, 22]) (by kernel_rfl) (by simp) ?_
        refine consL rfl rfl (fun K hK => ?_) ?_
        · go_simp
          refine (HP1.out _).mono ?_
          rintro e wn ⟨rfl, hcn⟩
          refine hK.out _ _ ⟨hcn.blk hHeld.1 (by simp), hcn.blk hHeld.2.1 (by simp), Nat.le_trans hHeld.2.2.1 hcn.size, hHeld.2.2.2.trans (hcn.mono (by simp))⟩ (fun hHeld => ?_)
          clear hK K
          try simp only [Act.put, List.setIfInBounds_toArray, List.set_cons_zero, List.set_cons_succ, List.toList_toArray]
          have kp6 := hcn.blk kp6 (by simp)
          clear hcn
          refine wpAnyH_ready (rs := [21, 22]) (by kernel_rfl) (by simp) ?_
          refine consL rfl rfl (fun K hK => ?_) ?_
          · go_simp
            refine (HP2.out _).mono ?_
            rintro e wn ⟨rfl, hcn⟩
            refine hK.out _ _ ⟨hcn.blk hHeld.1 (by simp), hcn.blk hHeld.2.1 (by simp), Nat.le_trans hHeld.2.2.1 hcn.size, hHeld.2.2.2.trans (hcn.mono (by simp))⟩ (fun hHeld => ?_)
            clear hK K
            try simp only [Act.put, List.setIfInBounds_toArray, List.set_cons_zero, List.set_cons_succ, List.toList_toArray]
            have kp6 := hcn.blk kp6 (by simp)
            clear hcn
            refine wpAnyH_ready (rs := [22]) (by kernel_rfl) (by simp) ?_
            refine consL rfl rfl (fun K hK => ?_) AllReadyH.nil
            have hsz := hHeld.2.2.1
            have hlt := kp6.lt
            refine wp_zeroAcc rfl ?_
            intro p5 wn hbp5 kp5 hcn
            refine hK.out _ _ ⟨hcn.blk hHeld.1 (by simp), hcn.blk hHeld.2.1 (by simp), Nat.le_trans hHeld.2.2.1 hcn.size, hHeld.2.2.2.trans (hcn.mono (by simp))⟩ (fun hHeld => ?_)
            clear hK K
            try simp only [Act.put, List.setIfInBounds_toArray, List.set_cons_zero, List.set_cons_succ, List.toList_toArray]
            have kp6 := hcn.blk kp6 (by simp)
            have gp5 : wr.heap.size ≤ p5 := by have := hbp5.out; have := hsz; omega
            have n56 : p5 ≠ p6 := by have := hbp5.out; have := hlt; omega
            clear hbp5 hsz hlt
            clear hcn
            refine wpAnyH_ready (rs := [24]) (by kernel_rfl) (by simp) ?_
            refine consL rfl rfl (fun K hK => ?_) AllReadyH.nil
            refine wp_store_mid 58 _ _ rfl p5 0 (W (x1 * y1)).toArray rfl rfl ((At.whole kp5).there _ (by rw [List.size_toArray, W_length, W_length])) (by rw [List.size_toArray, W_length]; exact info58) (Wd_one _) ?_
            have V0 := (At.setCells (W (x1 * y1)) _ _ _ _ (At.whole kp5) (by rw [W_length, W_length])).toBlk
            have V1 := Blk.setCells_ne p5 (W (x1 * y1)) 0 _ kp6 (by omega)
            have V2 := Nat.le_trans hHeld.2.2.1 (Chg.setCells p5 (by simp) (W (x1 * y1)) 0 _ (Chg.refl [p5] wn)).size
            have V3 := Chg.setCellsNew p5 (by omega) (W (x1 * y1)) 0 _ hHeld.2.2.2
            have U0 := Blk.setCells_ne p5 (W (x1 * y1)) 0 _ hHeld.1 (by omega)
            have U1 := Blk.setCells_ne p5 (W (x1 * y1)) 0 _ hHeld.2.1 (by omega)
            refine hK.out _ _ ⟨U0, U1, V2, V3⟩ (fun hHeld => ?_)
            clear hK K
            try simp only [Act.put, List.setIfInBounds_toArray, List.set_cons_zero, List.set_cons_succ, List.toList_toArray]
            generalize wn.setCells p5 0 (W (x1 * y1)) = wm at *
            clear kp5 kp6
            have kp5 := V0
            have kp6 := V1
            clear V0 V1 V2 V3 U0 U1
            refine wpAnyH_ready (rs := [25]) (by kernel_rfl) (by simp) ?_
            refine consL rfl rfl (fun K hK => ?_) AllReadyH.nil
            refine wp_store_mid 58 _ _ rfl p6 0 (W (x2 * y2)).toArray rfl rfl ((At.whole kp6).there _ (by rw [List.size_toArray, W_length, W_length])) (by rw [List.size_toArray, W_length]; exact info58) (Wd_one _) ?_
            have V0 := (At.setCells (W (x2 * y2)) _ _ _ _ (At.whole kp6) (by rw [W_length, W_length])).toBlk
            have V1 := Blk.setCells_ne p6 (W (x2 * y2)) 0 _ kp5 (by omega)
            have V2 := Nat.le_trans hHeld.2.2.1 (Chg.setCells p6 (by simp) (W (x2 * y2)) 0 _ (Chg.refl [p6] wm)).size
            have V3 := Chg.setCellsNew p6 (by omega) (W (x2 * y2)) 0 _ hHeld.2.2.2
            have U0 := Blk.setCells_ne p6 (W (x2 * y2)) 0 _ hHeld.1 (by omega)
            have U1 := Blk.setCells_ne p6 (W (x2 * y2)) 0 _ hHeld.2.1 (by omega)
            refine hK.out _ _ ⟨U0, U1, V2, V3⟩ (fun hHeld => ?_)
            clear hK K
            try simp only [Act.put, List.setIfInBounds_toArray, List.set_cons_zero, List.set_cons_succ, List.toList_toArray]
            generalize wm.setCells p6 0 (W (x2 * y2)) = wk at *
            clear kp6 kp5
            have kp6 := V0
            have kp5 := V1
            clear V0 V1 V2 V3 U0 U1
            refine wpAnyH_done (by kernel_rfl) ?_ _
            go_wp2_with fail
            go_meet
            exact ⟨p5, p6, rfl, rfl, n56, gp5, gp6, kp5, kp6, hHeld⟩
          refine consL rfl rfl (fun K hK => ?_) AllReadyH.nil
          have hsz := hHeld.2.2.1
          have hlt := kp6.lt
          refine wp_zeroAcc rfl ?_
          intro p5 wn hbp5 kp5 hcn
          refine hK.out _ _ ⟨hcn.blk hHeld.1 (by simp), hcn.blk hHeld.2.1 (by simp), Nat.le_trans hHeld.2.2.1 hcn.size, hHeld.2.2.2.trans (hcn.mono (by simp))⟩ (fun hHeld => ?_)
          clear hK K
          try simp only [Act.put, List.setIfInBounds_toArray, List.set_cons_zero, List.set_cons_succ, List.toList_toArray]
          have kp6 := hcn.blk kp6 (by simp)
          have gp5 : wr.heap.size ≤ p5 := by have := hbp5.out; have := hsz; omega
          have n56 : p5 ≠ p6 := by have := hbp5.out; have := hlt; omega
          clear hbp5 hsz hlt
          clear hcn
          refine wpAnyH_ready (rs := [21]) (by kernel_rfl) (by simp) ?_
          refine consL rfl rfl (fun K hK => ?_) AllReadyH.nil
          go_simp
          refine (HP2.out _).mono ?_
          rintro e wn ⟨rfl, hcn⟩
          refine hK.out _ _ ⟨hcn.blk hHeld.1 (by simp), hcn.blk hHeld.2.1 (by simp), Nat.le_trans hHeld.2.2.1 hcn.size, hHeld.2.2.2.trans (hcn.mono (by simp))⟩ (fun hHeld => ?_)
          clear hK K
          try simp only [Act.put, List.setIfInBounds_toArray, List.set_cons_zero, List.set_cons_succ, List.toList_toArray]
          have kp6 := hcn.blk kp6 (by simp)
          have kp5 := hcn.blk kp5 (by simp)
          clear hcn
          refine wpAnyH_ready (rs := [24]) (by kernel_rfl) (by simp) ?_
          refine consL rfl rfl (fun K hK => ?_) AllReadyH.nil
          refine wp_store_mid 58 _ _ rfl p5 0 (W (x1 * y1)).toArray rfl rfl ((At.whole kp5).there _ (by rw [List.size_toArray, W_length, W_length])) (by rw [List.size_toArray, W_length]; exact info58) (Wd_one _) ?_
          have V0 := (At.setCells (W (x1 * y1)) _ _ _ _ (At.whole kp5) (by rw [W_length, W_length])).toBlk
          have V1 := Blk.setCells_ne p5 (W (x1 * y1)) 0 _ kp6 (by omega)
          have V2 := Nat.le_trans hHeld.2.2.1 (Chg.setCells p5 (by simp) (W (x1 * y1)) 0 _ (Chg.refl [p5] wn)).size
          have V3 := Chg.setCellsNew p5 (by omega) (W (x1 * y1)) 0 _ hHeld.2.2.2
          have U0 := Blk.setCells_ne p5 (W (x1 * y1)) 0 _ hHeld.1 (by omega)
          have U1 := Blk.setCells_ne p5 (W (x1 * y1)) 0 _ hHeld.2.1 (by omega)
          refine hK.out _ _ ⟨U0, U1, V2, V3⟩ (fun hHeld => ?_)
          clear hK K
          try simp only [Act.put, List.setIfInBounds_toArray, List.set_cons_zero, List.set_cons_succ, List.toList_toArray]
          generalize wn.setCells p5 0 (W (x1 * y1)) = wm at *
          clear kp5 kp6
          have kp5 := V0
          have kp6 := V1
          clear V0 V1 V2 V3 U0 U1
          refine wpAnyH_ready (rs := [25]) (by kernel_rfl) (by simp) ?_
          refine consL rfl rfl (fun K hK => ?_) AllReadyH.nil
          refine wp_store_mid 58 _ _ rfl p6 0 (W (x2 * y2)).toArray rfl rfl ((At.whole kp6).there _ (by rw [List.size_toArray, W_length, W_length])) (by rw [List.size_toArray, W_length]; exact info58) (Wd_one _) ?_
          have V0 := (At.setCells (W (x2 * y2)) _ _ _ _ (At.whole kp6) (by rw [W_length, W_length])).toBlk
          have V1 := Blk.setCells_ne p6 (W (x2 * y2)) 0 _ kp5 (by omega)
          have V2 := Nat.le_trans hHeld.2.2.1 (Chg.setCells p6 (by simp) (W (x2 * y2)) 0 _ (Chg.refl [p6] wm)).size
          have V3 := Chg.setCellsNew p6 (by omega) (W (x2 * y2)) 0 _ hHeld.2.2.2
          have U0 := Blk.setCells_ne p6 (W (x2 * y2)) 0 _ hHeld.1 (by omega)
          have U1 := Blk.setCells_ne p6 (W (x2 * y2)) 0 _ hHeld.2.1 (by omega)
          refine hK.out _ _ ⟨U0, U1, V2, V3⟩ (fun hHeld => ?_)
          clear hK K
          try simp only [Act.put, List.setIfInBounds_toArray, List.set_cons_zero, List.set_cons_succ, List.toList_toArray]
          generalize wm.setCells p6 0 (W (x2 * y2)) = wk at *
          clear kp6 kp5
          have kp6 := V0
          have kp5 := V1
          clear V0 V1 V2 V3 U0 U1
          refine wpAnyH_done (by kernel_rfl) ?_ _
          go_wp2_with fail
          go_meet
          exact ⟨p5, p6, rfl, rfl, n56, gp5, gp6, kp5, kp6, hHeld⟩
        refine consL rfl rfl (fun K hK => ?_) AllReadyH.nil
        have hsz := hHeld.2.2.1
        have hlt := kp6.lt
        refine wp_zeroAcc rfl ?_
        intro p5 wn hbp5 kp5 hcn
        refine hK.out _ _ ⟨hcn.blk hHeld.1 (by simp), hcn.blk hHeld.2.1 (by simp), Nat.le_trans hHeld.2.2.1 hcn.size, hHeld.2.2.2.trans (hcn.mono (by simp))⟩ (fun hHeld => ?_)
        clear hK K
        try simp only [Act.put, List.setIfInBounds_toArray, List.set_cons_zero, List.set_cons_succ, List.toList_toArray]
        have kp6 := hcn.blk kp6 (by simp)
        have gp5 : wr.heap.size ≤ p5 := by have := hbp5.out; have := hsz; omega
        have n56 : p5 ≠ p6 := by have := hbp5.out; have := hlt; omega
        clear hbp5 hsz hlt
        clear hcn
        refine wpAnyH_ready (rs := [10]) (by kernel_rfl) (by simp) ?_
        refine consL rfl rfl (fun K hK => ?_) AllReadyH.nil
        go_simp
        refine (HP1.out _).mono ?_
        rintro e wn ⟨rfl, hcn⟩
        refine hK.out _ _ ⟨hcn.blk hHeld.1 (by simp), hcn.blk hHeld.2.1 (by simp), Nat.le_trans hHeld.2.2.1 hcn.size, hHeld.2.2.2.trans (hcn.mono (by simp))⟩ (fun hHeld => ?_)
        clear hK K
        try simp only [Act.put, List.setIfInBounds_toArray, List.set_cons_zero, List.set_cons_succ, List.toList_toArray]
        have kp6 := hcn.blk kp6 (by simp)
        have kp5 := hcn.blk kp5 (by simp)
        clear hcn
        refine wpAnyH_ready (rs := [21]) (by kernel_rfl) (by simp) ?_
        refine consL rfl rfl (fun K hK => ?_) AllReadyH.nil
        go_simp
        refine (HP2.out _).mono ?_
        rintro e wn ⟨rfl, hcn⟩
        refine hK.out _ _ ⟨hcn.blk hHeld.1 (by simp), hcn.blk hHeld.2.1 (by simp), Nat.le_trans hHeld.2.2.1 hcn.size, hHeld.2.2.2.trans (hcn.mono (by simp))⟩ (fun hHeld => ?_)
        clear hK K
        try simp only [Act.put, List.setIfInBounds_toArray, List.set_cons_zero, List.set_cons_succ, List.toList_toArray]
        have kp6 := hcn.blk kp6 (by simp)
        have kp5 := hcn.blk kp5 (by simp)
        clear hcn
        refine wpAnyH_ready (rs := [24]) (by kernel_rfl) (by simp) ?_
        refine consL rfl rfl (fun K hK => ?_) AllReadyH.nil
        refine wp_store_mid 58 _ _ rfl p5 0 (W (x1 * y1)).toArray rfl rfl ((At.whole kp5).there _ (by rw [List.size_toArray, W_length, W_length])) (by rw [List.size_toArray, W_length]; exact info58) (Wd_one _) ?_
        have V0 := (At.setCells (W (x1 * y1)) _ _ _ _ (At.whole kp5) (by rw [W_length, W_length])).toBlk
        have V1 := Blk.setCells_ne p5 (W (x1 * y1)) 0 _ kp6 (by omega)
        have V2 := Nat.le_trans hHeld.2.2.1 (Chg.setCells p5 (by simp) (W (x1 * y1)) 0 _ (Chg.refl [p5] wn)).size
        have V3 := Chg.setCellsNew p5 (by omega) (W (x1 * y1)) 0 _ hHeld.2.2.2
        have U0 := Blk.setCells_ne p5 (W (x1 * y1)) 0 _ hHeld.1 (by omega)
        have U1 := Blk.setCells_ne p5 (W (x1 * y1)) 0 _ hHeld.2.1 (by omega)
        refine hK.out _ _ ⟨U0, U1, V2, V3⟩ (fun hHeld => ?_)
        clear hK K
        try simp only [Act.put, List.setIfInBounds_toArray, List.set_cons_zero, List.set_cons_succ, List.toList_toArray]
        generalize wn.setCells p5 0 (W (x1 * y1)) = wm at *
        clear kp5 kp6
        have kp5 := V0
        have kp6 := V1
        clear V0 V1 V2 V3 U0 U1
        refine wpAnyH_ready (rs := [25]) (by kernel_rfl) (by simp) ?_
        refine consL rfl rfl (fun K hK => ?_) AllReadyH.nil
        refine wp_store_mid 58 _ _ rfl p6 0 (W (x2 * y2)).toArray rfl rfl ((At.whole kp6).there _ (by rw [List.size_toArray, W_length, W_length])) (by rw [List.size_toArray, W_length]; exact info58) (Wd_one _) ?_
        have V0 := (At.setCells (W (x2 * y2)) _ _ _ _ (At.whole kp6) (by rw [W_length, W_length])).toBlk
        have V1 := Blk.setCells_ne p6 (W (x2 * y2)) 0 _ kp5 (by omega)
        have V2 := Nat.le_trans hHeld.2.2.1 (Chg.setCells p6 (by simp) (W (x2 * y2)) 0 _ (Chg.refl [p6] wm)).size
        have V3 := Chg.setCellsNew p6 (by omega) (W (x2 * y2)) 0 _ hHeld.2.2.2
        have U0 := Blk.setCells_ne p6 (W (x2 * y2)) 0 _ hHeld.1 (by omega)
        have U1 := Blk.setCells_ne p6 (W (x2 * y2)) 0 _ hHeld.2.1 (by omega)
        refine hK.out _ _ ⟨U0, U1, V2, V3⟩ (fun hHeld => ?_)
        clear hK K
        try simp only [Act.put, List.setIfInBounds_toArray, List.set_cons_zero, List.set_cons_succ, List.toList_toArray]
        generalize wm.setCells p6 0 (W (x2 * y2)) = wk at *
        clear kp6 kp5
        have kp6 := V0
        have kp5 := V1
        clear V0 V1 V2 V3 U0 U1
        refine wpAnyH_done (by kernel_rfl) ?_ _
        go_wp2_with fail
        go_meet
        exact ⟨p5, p6, rfl, rfl, n56, gp5, gp6, kp5, kp6, hHeld⟩
      case rest =>
        clear hbr hb2r hcr
        obtain ⟨c5, c6, rfl, rfl, n56, g5, g6, k5, k6, hbr, hb2r, sz, hcr⟩ := hcut
        have l5 := k5.lt
        have l6 := k6.lt
        have lb3 := hbr.lt
        have lb4 := hb2r.lt
        have gw2 := hcr.size
        go_upto_region 4 with fail
        go_cut [7, 8] (fun v5 v6 wd => ∃ p5 p6, v5 = .pointer (some ⟨p5, 0, none⟩) ∧ v6 = .pointer (some ⟨p6, 0, none⟩) ∧ p5 ≠ p6 ∧ wc.heap.size ≤ p5 ∧ wc.heap.size ≤ p6 ∧ Blk wd p5 58 (W (x1 * y2)) ∧ Blk wd p6 58 (W (x2 * y1)) ∧
          Blk wd b 119 (Cs X) ∧ Blk wd b2 119 (Cs y) ∧ Blk wd c5 58 (W (x1 * y1)) ∧ Blk wd c6 58 (W (x2 * y2)) ∧ wc.heap.size ≤ wd.heap.size ∧ Chg [b] w wd)
        case first =>
          refine wp_region_held_drew (S := fun w1 => Blk w1 b 119 (Cs X) ∧ Blk w1 b2 119 (Cs y) ∧ Blk w1 c5 58 (W (x1 * y1)) ∧ Blk w1 c6 58 (W (x2 * y2)) ∧ wc.heap.size ≤ w1.heap.size ∧ Chg [b] w w1) (by kernel_rfl) ⟨hbr.drew, hb2r.drew, k5.drew, k6.drew, Nat.le_refl _, hcr.drew⟩ (fun hHeld => ?_)
          refine takeL 0 (v := ?_) rfl (by kernel_rfl) (by kernel_rfl) (by kernel_rfl) (fun _ _ _ h => h) (by rfl) ?_ hHeld ?_
          rotate_left
          · (intro w1 hSw; go_simp; try with_reducible rfl)
          simp only [Act.put, List.setIfInBounds_toArray, List.set_cons_zero, List.set_cons_succ]
          refine takeL 1 (v := ?_) rfl (by kernel_rfl) (by kernel_rfl) (by kernel_rfl) (fun _ _ _ h => h) (by rfl) ?_ hHeld ?_
          rotate_left
          · (intro w1 hSw; go_simp; try with_reducible rfl)
          simp only [Act.put, List.setIfInBounds_toArray, List.set_cons_zero, List.set_cons_succ]
          refine takeL 2 (v := ?_) rfl (by kernel_rfl) (by kernel_rfl) (by kernel_rfl) (fun _ _ _ h => h) (by rfl) ?_ hHeld ?_
          rotate_left
          · (intro w1 hSw; go_simp; try with_reducible rfl)
          simp only [Act.put, List.setIfInBounds_toArray, List.set_cons_zero, List.set_cons_succ]
          refine takeL 3 (v := ?_) rfl (by kernel_rfl) (by kernel_rfl) (by kernel_rfl) (fun _ _ _ h => h) (by rfl) ?_ hHeld ?_
          rotate_left
          · (intro w1 hSw; go_simp; try with_reducible rfl)
          simp only [Act.put, List.setIfInBounds_toArray, List.set_cons_zero, List.set_cons_succ]
          refine takeL 4 rfl (by kernel_rfl) (by kernel_rfl) (by kernel_rfl) (fun _ _ _ h => h) (by rfl) (fun w1 hSw => run_load58 (.tmp 40) rfl b (i * 136) x1 w1 rfl (Lx1.out w1 hSw.1)) hHeld ?_
          simp only [Act.put, List.setIfInBounds_toArray, List.set_cons_zero, List.set_cons_succ]
          refine takeL 5 (v := ?_) rfl (by kernel_rfl) (by kernel_rfl) (by kernel_rfl) (fun _ _ _ h => h) (by rfl) ?_ hHeld ?_
          rotate_left
          · (intro w1 hSw; go_simp; try with_reducible rfl)
          simp only [Act.put, List.setIfInBounds_toArray, List.set_cons_zero, List.set_cons_succ]
          refine takeL 6 (v := ?_) rfl (by kernel_rfl) (by kernel_rfl) (by kernel_rfl) (fun _ _ _ h => h) (by rfl) ?_ hHeld ?_
          rotate_left
          · (intro w1 hSw; go_simp; try with_reducible rfl)
          simp only [Act.put, List.setIfInBounds_toArray, List.set_cons_zero, List.set_cons_succ]
          refine takeL 7 (v := ?_) rfl (by kernel_rfl) (by kernel_rfl) (by kernel_rfl) (fun _ _ _ h => h) (by rfl) ?_ hHeld ?_
          rotate_left
          · (intro w1 hSw; go_simp; try with_reducible rfl)
          simp only [Act.put, List.setIfInBounds_toArray, List.set_cons_zero, List.set_cons_succ]
          refine takeL 8 (v := ?_) rfl (by kernel_rfl) (by kernel_rfl) (by kernel_rfl) (fun _ _ _ h => h) (by rfl) ?_ hHeld ?_
          rotate_left
          · (intro w1 hSw; go_simp; try with_reducible rfl)
          simp only [Act.put, List.setIfInBounds_toArray, List.set_cons_zero, List.set_cons_succ]
          refine takeL 9 rfl (by kernel_rfl) (by kernel_rfl) (by kernel_rfl) (fun _ _ _ h => h) (by rfl) (fun w1 hSw => run_load58 (.tmp 45) rfl b2 (i * 136 + 68) y2 w1 rfl (Ly2.out w1 hSw.2.1)) hHeld ?_
          simp only [Act.put, List.setIfInBounds_toArray, List.set_cons_zero, List.set_cons_succ]
          refine takeL 11 (v := ?_) rfl (by kernel_rfl) (by kernel_rfl) (by kernel_rfl) (fun _ _ _ h => h) (by rfl) ?_ hHeld ?_
          rotate_left
          · (intro w1 hSw; go_simp; try with_reducible rfl)
          simp only [Act.put, List.setIfInBounds_toArray, List.set_cons_zero, List.set_cons_succ]
          refine takeL 12 (v := ?_) rfl (by kernel_rfl) (by kernel_rfl) (by kernel_rfl) (fun _ _ _ h => h) (by rfl) ?_ hHeld ?_
          rotate_left
          · (intro w1 hSw; go_simp; try with_reducible rfl)
          simp only [Act.put, List.setIfInBounds_toArray, List.set_cons_zero, List.set_cons_succ]
          refine takeL 13 (v := ?_) rfl (by kernel_rfl) (by kernel_rfl) (by kernel_rfl) (fun _ _ _ h => h) (by rfl) ?_ hHeld ?_
          rotate_left
          · (intro w1 hSw; go_simp; try with_reducible rfl)
          simp only [Act.put, List.setIfInBounds_toArray, List.set_cons_zero, List.set_cons_succ]
          refine takeL 14 (v := ?_) rfl (by kernel_rfl) (by kernel_rfl) (by kernel_rfl) (fun _ _ _ h => h) (by rfl) ?_ hHeld ?_
          rotate_left
          · (intro w1 hSw; go_simp; try with_reducible rfl)
          simp only [Act.put, List.setIfInBounds_toArray, List.set_cons_zero, List.set_cons_succ]
          refine takeL 15 rfl (by kernel_rfl) (by kernel_rfl) (by kernel_rfl) (fun _ _ _ h => h) (by rfl) (fun w1 hSw => run_load58 (.tmp 51) rfl b (i * 136 + 68) x2 w1 rfl (Lx2.out w1 hSw.1)) hHeld ?_
          simp only [Act.put, List.setIfInBounds_toArray, List.set_cons_zero, List.set_cons_succ]
          refine takeL 16 (v := ?_) rfl (by kernel_rfl) (by kernel_rfl) (by kernel_rfl) (fun _ _ _ h => h) (by rfl) ?_ hHeld ?_
          rotate_left
          · (intro w1 hSw; go_simp; try with_reducible rfl)
          simp only [Act.put, List.setIfInBounds_toArray, List.set_cons_zero, List.set_cons_succ]
          refine takeL 17 (v := ?_) rfl (by kernel_rfl) (by kernel_rfl) (by kernel_rfl) (fun _ _ _ h => h) (by rfl) ?_ hHeld ?_
          rotate_left
          · (intro w1 hSw; go_simp; try with_reducible rfl)
          simp only [Act.put, List.setIfInBounds_toArray, List.set_cons_zero, List.set_cons_succ]
          refine takeL 18 (v := ?_) rfl (by kernel_rfl) (by kernel_rfl) (by kernel_rfl) (fun _ _ _ h => h) (by rfl) ?_ hHeld ?_
          rotate_left
          · (intro w1 hSw; go_simp; try with_reducible rfl)
          simp only [Act.put, List.setIfInBounds_toArray, List.set_cons_zero, List.set_cons_succ]
          refine takeL 19 (v := ?_) rfl (by kernel_rfl) (by kernel_rfl) (by kernel_rfl) (fun _ _ _ h => h) (by rfl) ?_ hHeld ?_
          rotate_left
          · (intro w1 hSw; go_simp; try with_reducible rfl)
          simp only [Act.put, List.setIfInBounds_toArray, List.set_cons_zero, List.set_cons_succ]
          refine takeL 20 rfl (by kernel_rfl) (by kernel_rfl) (by kernel_rfl) (fun _ _ _ h => h) (by rfl) (fun w1 hSw => run_load58 (.tmp 56) rfl b2 (i * 136) y1 w1 rfl (Ly1.out w1 hSw.2.1)) hHeld ?_
          simp only [Act.put, List.setIfInBounds_toArray, List.set_cons_zero, List.set_cons_succ]
          refine wpAnyH_ready (rs := [10, 22, 23]) (by kernel_rfl) (by simp) ?_
          refine consL rfl rfl (fun K hK => ?_) ?_
          · go_simp
            refine (HP3.out _).mono ?_
            rintro e wn ⟨rfl, hcn⟩
            refine hK.out _ _ ⟨hcn.blk hHeld.1 (by simp), hcn.blk hHeld.2.1 (by simp), hcn.blk hHeld.2.2.1 (by simp), hcn.blk hHeld.2.2.2.1 (by simp), Nat.le_trans hHeld.2.2.2.2.1 hcn.size, hHeld.2.2.2.2.2.trans (hcn.mono (by simp))⟩ (fun hHeld => ?_)
            clear hK K
            try simp only [Act.put, List.setIfInBounds_toArray, List.set_cons_zero, List.set_cons_succ, List.toList_toArray]
            clear hcn
            refine wpAnyH_ready (rs := [21, 22, 23]) (by kernel_rfl) (by simp) ?_
            refine consL rfl rfl (fun K hK => ?_) ?_
            · go_simp
              refine (HP4.out _).mono ?_
              rintro e wn ⟨rfl, hcn⟩
              refine hK.out _ _ ⟨hcn.blk hHeld.1 (by simp), hcn.blk hHeld.2.1 (by simp), hcn.blk hHeld.2.2.1 (by simp), hcn.blk hHeld.2.2.2.1 (by simp), Nat.le_trans hHeld.2.2.2.2.1 hcn.size, hHeld.2.2.2.2.2.trans (hcn.mono (by simp))⟩ (fun hHeld => ?_)
              clear hK K
              try simp only [Act.put, List.setIfInBounds_toArray, List.set_cons_zero, List.set_cons_succ, List.toList_toArray]
              clear hcn
              refine wpAnyH_ready (rs := [22, 23]) (by kernel_rfl) (by simp) ?_
              refine consL rfl rfl (fun K hK => ?_) ?_
              · have hsz := hHeld.2.2.2.2.1
                refine wp_zeroAcc rfl ?_
                intro p5 wn hbp5 kp5 hcn
                refine hK.out _ _ ⟨hcn.blk hHeld.1 (by simp), hcn.blk hHeld.2.1 (by simp), hcn.blk hHeld.2.2.1 (by simp), hcn.blk hHeld.2.2.2.1 (by simp), Nat.le_trans hHeld.2.2.2.2.1 hcn.size, hHeld.2.2.2.2.2.trans (hcn.mono (by simp))⟩ (fun hHeld => ?_)
                clear hK K
                try simp only [Act.put, List.setIfInBounds_toArray, List.set_cons_zero, List.set_cons_succ, List.toList_toArray]
                have gp5 : wc.heap.size ≤ p5 := by have := hbp5.out; have := hsz; omega
                clear hbp5 hsz
                clear hcn
                refine wpAnyH_ready (rs := [23]) (by kernel_rfl) (by simp) ?_
                refine consL rfl rfl (fun K hK => ?_) AllReadyH.nil
                have hsz := hHeld.2.2.2.2.1
                have hlt := kp5.lt
                refine wp_zeroAcc rfl ?_
                intro p6 wn hbp6 kp6 hcn
                refine hK.out _ _ ⟨hcn.blk hHeld.1 (by simp), hcn.blk hHeld.2.1 (by simp), hcn.blk hHeld.2.2.1 (by simp), hcn.blk hHeld.2.2.2.1 (by simp), Nat.le_trans hHeld.2.2.2.2.1 hcn.size, hHeld.2.2.2.2.2.trans (hcn.mono (by simp))⟩ (fun hHeld => ?_)
                clear hK K
                try simp only [Act.put, List.setIfInBounds_toArray, List.set_cons_zero, List.set_cons_succ, List.toList_toArray]
                have kp5 := hcn.blk kp5 (by simp)
                have gp6 : wc.heap.size ≤ p6 := by have := hbp6.out; have := hsz; omega
                have n56 : p5 ≠ p6 := by have := hbp6.out; have := hlt; omega
                clear hbp6 hsz hlt
                clear hcn
                refine wpAnyH_ready (rs := [24]) (by kernel_rfl) (by simp) ?_
                refine consL rfl rfl (fun K hK => ?_) AllReadyH.nil
                refine wp_store_mid 58 _ _ rfl p5 0 (W (x1 * y2)).toArray rfl rfl ((At.whole kp5).there _ (by rw [List.size_toArray, W_length, W_length])) (by rw [List.size_toArray, W_length]; exact info58) (Wd_one _) ?_
                have V0 := (At.setCells (W (x1 * y2)) _ _ _ _ (At.whole kp5) (by rw [W_length, W_length])).toBlk
                have V1 := Blk.setCells_ne p5 (W (x1 * y2)) 0 _ kp6 (by omega)
                have V2 := Nat.le_trans hHeld.2.2.2.2.1 (Chg.setCells p5 (by simp) (W (x1 * y2)) 0 _ (Chg.refl [p5] wn)).size
                have V3 := Chg.setCellsNew p5 (by omega) (W (x1 * y2)) 0 _ hHeld.2.2.2.2.2
                have U0 := Blk.setCells_ne p5 (W (x1 * y2)) 0 _ hHeld.1 (by omega)
                have U1 := Blk.setCells_ne p5 (W (x1 * y2)) 0 _ hHeld.2.1 (by omega)
                have U2 := Blk.setCells_ne p5 (W (x1 * y2)) 0 _ hHeld.2.2.1 (by omega)
                have U3 := Blk.setCells_ne p5 (W (x1 * y2)) 0 _ hHeld.2.2.2.1 (by omega)
                refine hK.out _ _ ⟨U0, U1, U2, U3, V2, V3⟩ (fun hHeld => ?_)
                clear hK K
                try simp only [Act.put, List.setIfInBounds_toArray, List.set_cons_zero, List.set_cons_succ, List.toList_toArray]
                generalize wn.setCells p5 0 (W (x1 * y2)) = wm at *
                clear kp5 kp6
                have kp5 := V0
                have kp6 := V1
                clear V0 V1 V2 V3 U0 U1 U2 U3
                refine wpAnyH_ready (rs := [25]) (by kernel_rfl) (by simp) ?_
                refine consL rfl rfl (fun K hK => ?_) AllReadyH.nil
                refine wp_store_mid 58 _ _ rfl p6 0 (W (x2 * y1)).toArray rfl rfl ((At.whole kp6).there _ (by rw [List.size_toArray, W_length, W_length])) (by rw [List.size_toArray, W_length]; exact info58) (Wd_one _) ?_
                have V0 := (At.setCells (W (x2 * y1)) _ _ _ _ (At.whole kp6) (by rw [W_length, W_length])).toBlk
                have V1 := Blk.setCells_ne p6 (W (x2 * y1)) 0 _ kp5 (by omega)
                have V2 := Nat.le_trans hHeld.2.2.2.2.1 (Chg.setCells p6 (by simp) (W (x2 * y1)) 0 _ (Chg.refl [p6] wm)).size
                have V3 := Chg.setCellsNew p6 (by omega) (W (x2 * y1)) 0 _ hHeld.2.2.2.2.2
                have U0 := Blk.setCells_ne p6 (W (x2 * y1)) 0 _ hHeld.1 (by omega)
                have U1 := Blk.setCells_ne p6 (W (x2 * y1)) 0 _ hHeld.2.1 (by omega)
                have U2 := Blk.setCells_ne p6 (W (x2 * y1)) 0 _ hHeld.2.2.1 (by omega)
                have U3 := Blk.setCells_ne p6 (W (x2 * y1)) 0 _ hHeld.2.2.2.1 (by omega)
                refine hK.out _ _ ⟨U0, U1, U2, U3, V2, V3⟩ (fun hHeld => ?_)
                clear hK K
                try simp only [Act.put, List.setIfInBounds_toArray, List.set_cons_zero, List.set_cons_succ, List.toList_toArray]
                generalize wm.setCells p6 0 (W (x2 * y1)) = wk at *
                clear kp6 kp5
                have kp6 := V0
                have kp5 := V1
                clear V0 V1 V2 V3 U0 U1 U2 U3
                refine wpAnyH_done (by kernel_rfl) ?_ _
                go_wp2_with fail
                go_meet
                exact ⟨p5, p6, rfl, rfl, n56, gp5, gp6, kp5, kp6, hHeld⟩
              refine consL rfl rfl (fun K hK => ?_) AllReadyH.nil
              have hsz := hHeld.2.2.2.2.1
              refine wp_zeroAcc rfl ?_
              intro p6 wn hbp6 kp6 hcn
              refine hK.out _ _ ⟨hcn.blk hHeld.1 (by simp), hcn.blk hHeld.2.1 (by simp), hcn.blk hHeld.2.2.1 (by simp), hcn.blk hHeld.2.2.2.1 (by simp), Nat.le_trans hHeld.2.2.2.2.1 hcn.size, hHeld.2.2.2.2.2.trans (hcn.mono (by simp))⟩ (fun hHeld => ?_)
              clear hK K
              try simp only [Act.put, List.setIfInBounds_toArray, List.set_cons_zero, List.set_cons_succ, List.toList_toArray]
              have gp6 : wc.heap.size ≤ p6 := by have := hbp6.out; have := hsz; omega
              clear hbp6 hsz
              clear hcn
              refine wpAnyH_ready (rs := [22]) (by kernel_rfl) (by simp) ?_
              refine consL rfl rfl (fun K hK => ?_) AllReadyH.nil
              have hsz := hHeld.2.2.2.2.1
              have hlt := kp6.lt
              refine wp_zeroAcc rfl ?_
              intro p5 wn hbp5 kp5 hcn
              refine hK.out _ _ ⟨hcn.blk hHeld.1 (by simp), hcn.blk hHeld.2.1 (by simp), hcn.blk hHeld.2.2.1 (by simp), hcn.blk hHeld.2.2.2.1 (by simp), Nat.le_trans hHeld.2.2.2.2.1 hcn.size, hHeld.2.2.2.2.2.trans (hcn.mono (by simp))⟩ (fun hHeld => ?_)
              clear hK K
              try simp only [Act.put, List.setIfInBounds_toArray, List.set_cons_zero, List.set_cons_succ, List.toList_toArray]
              have kp6 := hcn.blk kp6 (by simp)
              have gp5 : wc.heap.size ≤ p5 := by have := hbp5.out; have := hsz; omega
              have n56 : p5 ≠ p6 := by have := hbp5.out; have := hlt; omega
              clear hbp5 hsz hlt
              clear hcn
              refine wpAnyH_ready (rs := [24]) (by kernel_rfl) (by simp) ?_
              refine consL rfl rfl (fun K hK => ?_) AllReadyH.nil
              refine wp_store_mid 58 _ _ rfl p5 0 (W (x1 * y2)).toArray rfl rfl ((At.whole kp5).there _ (by rw [List.size_toArray, W_length, W_length])) (by rw [List.size_toArray, W_length]; exact info58) (Wd_one _) ?_
              have V0 := (At.setCells (W (x1 * y2)) _ _ _ _ (At.whole kp5) (by rw [W_length, W_length])).toBlk
              have V1 := Blk.setCells_ne p5 (W (x1 * y2)) 0 _ kp6 (by omega)
              have V2 := Nat.le_trans hHeld.2.2.2.2.1 (Chg.setCells p5 (by simp) (W (x1 * y2)) 0 _ (Chg.refl [p5] wn)).size
              have V3 := Chg.setCellsNew p5 (by omega) (W (x1 * y2)) 0 _ hHeld.2.2.2.2.2
              have U0 := Blk.setCells_ne p5 (W (x1 * y2)) 0 _ hHeld.1 (by omega)
              have U1 := Blk.setCells_ne p5 (W (x1 * y2)) 0 _ hHeld.2.1 (by omega)
              have U2 := Blk.setCells_ne p5 (W (x1 * y2)) 0 _ hHeld.2.2.1 (by omega)
              have U3 := Blk.setCells_ne p5 (W (x1 * y2)) 0 _ hHeld.2.2.2.1 (by omega)
              refine hK.out _ _ ⟨U0, U1, U2, U3, V2, V3⟩ (fun hHeld => ?_)
              clear hK K
              try simp only [Act.put, List.setIfInBounds_toArray, List.set_cons_zero, List.set_cons_succ, List.toList_toArray]
              generalize wn.setCells p5 0 (W (x1 * y2)) = wm at *
              clear kp5 kp6
              have kp5 := V0
              have kp6 := V1
              clear V0 V1 V2 V3 U0 U1 U2 U3
              refine wpAnyH_ready (rs := [25]) (by kernel_rfl) (by simp) ?_
              refine consL rfl rfl (fun K hK => ?_) AllReadyH.nil
              refine wp_store_mid 58 _ _ rfl p6 0 (W (x2 * y1)).toArray rfl rfl ((At.whole kp6).there _ (by rw [List.size_toArray, W_length, W_length])) (by rw [List.size_toArray, W_length]; exact info58) (Wd_one _) ?_
              have V0 := (At.setCells (W (x2 * y1)) _ _ _ _ (At.whole kp6) (by rw [W_length, W_length])).toBlk
              have V1 := Blk.setCells_ne p6 (W (x2 * y1)) 0 _ kp5 (by omega)
              have V2 := Nat.le_trans hHeld.2.2.2.2.1 (Chg.setCells p6 (by simp) (W (x2 * y1)) 0 _ (Chg.refl [p6] wm)).size
              have V3 := Chg.setCellsNew p6 (by omega) (W (x2 * y1)) 0 _ hHeld.2.2.2.2.2
              have U0 := Blk.setCells_ne p6 (W (x2 * y1)) 0 _ hHeld.1 (by omega)
              have U1 := Blk.setCells_ne p6 (W (x2 * y1)) 0 _ hHeld.2.1 (by omega)
              have U2 := Blk.setCells_ne p6 (W (x2 * y1)) 0 _ hHeld.2.2.1 (by omega)
              have U3 := Blk.setCells_ne p6 (W (x2 * y1)) 0 _ hHeld.2.2.2.1 (by omega)
              refine hK.out _ _ ⟨U0, U1, U2, U3, V2, V3⟩ (fun hHeld => ?_)
              clear hK K
              try simp only [Act.put, List.setIfInBounds_toArray, List.set_cons_zero, List.set_cons_succ, List.toList_toArray]
              generalize wm.setCells p6 0 (W (x2 * y1)) = wk at *
              clear kp6 kp5
              have kp6 := V0
              have kp5 := V1
              clear V0 V1 V2 V3 U0 U1 U2 U3
              refine wpAnyH_done (by kernel_rfl) ?_ _
              go_wp2_with fail
              go_meet
              exact ⟨p5, p6, rfl, rfl, n56, gp5, gp6, kp5, kp6, hHeld⟩
            refine consL rfl rfl (fun K hK => ?_) ?_
            · have hsz := hHeld.2.2.2.2.1
              refine wp_zeroAcc rfl ?_
              intro p5 wn hbp5 kp5 hcn
              refine hK.out _ _ ⟨hcn.blk hHeld.1 (by simp), hcn.blk hHeld.2.1 (by simp), hcn.blk hHeld.2.2.1 (by simp), hcn.blk hHeld.2.2.2.1 (by simp), Nat.le_trans hHeld.2.2.2.2.1 hcn.size, hHeld.2.2.2.2.2.trans (hcn.mono (by simp))⟩ (fun hHeld => ?_)
              clear hK K
              try simp only [Act.put, List.setIfInBounds_toArray, List.set_cons_zero, List.set_cons_succ, List.toList_toArray]
              have gp5 : wc.heap.size ≤ p5 := by have := hbp5.out; have := hsz; omega
              clear hbp5 hsz
              clear hcn
              refine wpAnyH_ready (rs := [21, 23]) (by kernel_rfl) (by simp) ?_
              refine consL rfl rfl (fun K hK => ?_) ?_
              · go_simp
                refine (HP4.out _).mono ?_
                rintro e wn ⟨rfl, hcn⟩
                refine hK.out _ _ ⟨hcn.blk hHeld.1 (by simp), hcn.blk hHeld.2.1 (by simp), hcn.blk hHeld.2.2.1 (by simp), hcn.blk hHeld.2.2.2.1 (by simp), Nat.le_trans hHeld.2.2.2.2.1 hcn.size, hHeld.2.2.2.2.2.trans (hcn.mono (by simp))⟩ (fun hHeld => ?_)
                clear hK K
                try simp only [Act.put, List.setIfInBounds_toArray, List.set_cons_zero, List.set_cons_succ, List.toList_toArray]
                have kp5 := hcn.blk kp5 (by simp)
                clear hcn
                refine wpAnyH_ready (rs := [23]) (by kernel_rfl) (by simp) ?_
                refine consL rfl rfl (fun K hK => ?_) AllReadyH.nil
                have hsz := hHeld.2.2.2.2.1
                have hlt := kp5.lt
                refine wp_zeroAcc rfl ?_
                intro p6 wn hbp6 kp6 hcn
                refine hK.out _ _ ⟨hcn.blk hHeld.1 (by simp), hcn.blk hHeld.2.1 (by simp), hcn.blk hHeld.2.2.1 (by simp), hcn.blk hHeld.2.2.2.1 (by simp), Nat.le_trans hHeld.2.2.2.2.1 hcn.size, hHeld.2.2.2.2.2.trans (hcn.mono (by simp))⟩ (fun hHeld => ?_)
                clear hK K
                try simp only [Act.put, List.setIfInBounds_toArray, List.set_cons_zero, List.set_cons_succ, List.toList_toArray]
                have kp5 := hcn.blk kp5 (by simp)
                have gp6 : wc.heap.size ≤ p6 := by have := hbp6.out; have := hsz; omega
                have n56 : p5 ≠ p6 := by have := hbp6.out; have := hlt; omega
                clear hbp6 hsz hlt
                clear hcn
                refine wpAnyH_ready (rs := [24]) (by kernel_rfl) (by simp) ?_
                refine consL rfl rfl (fun K hK => ?_) AllReadyH.nil
                refine wp_store_mid 58 _ _ rfl p5 0 (W (x1 * y2)).toArray rfl rfl ((At.whole kp5).there _ (by rw [List.size_toArray, W_length, W_length])) (by rw [List.size_toArray, W_length]; exact info58) (Wd_one _) ?_
                have V0 := (At.setCells (W (x1 * y2)) _ _ _ _ (At.whole kp5) (by rw [W_length, W_length])).toBlk
                have V1 := Blk.setCells_ne p5 (W (x1 * y2)) 0 _ kp6 (by omega)
                have V2 := Nat.le_trans hHeld.2.2.2.2.1 (Chg.setCells p5 (by simp) (W (x1 * y2)) 0 _ (Chg.refl [p5] wn)).size
                have V3 := Chg.setCellsNew p5 (by omega) (W (x1 * y2)) 0 _ hHeld.2.2.2.2.2
                have U0 := Blk.setCells_ne p5 (W (x1 * y2)) 0 _ hHeld.1 (by omega)
                have U1 := Blk.setCells_ne p5 (W (x1 * y2)) 0 _ hHeld.2.1 (by omega)
                have U2 := Blk.setCells_ne p5 (W (x1 * y2)) 0 _ hHeld.2.2.1 (by omega)
                have U3 := Blk.setCells_ne p5 (W (x1 * y2)) 0 _ hHeld.2.2.2.1 (by omega)
                refine hK.out _ _ ⟨U0, U1, U2, U3, V2, V3⟩ (fun hHeld => ?_)
                clear hK K
                try simp only [Act.put, List.setIfInBounds_toArray, List.set_cons_zero, List.set_cons_succ, List.toList_toArray]
                generalize wn.setCells p5 0 (W (x1 * y2)) = wm at *
                clear kp5 kp6
                have kp5 := V0
                have kp6 := V1
                clear V0 V1 V2 V3 U0 U1 U2 U3
                refine wpAnyH_ready (rs := [25]) (by kernel_rfl) (by simp) ?_
                refine consL rfl rfl (fun K hK => ?_) AllReadyH.nil
                refine wp_store_mid 58 _ _ rfl p6 0 (W (x2 * y1)).toArray rfl rfl ((At.whole kp6).there _ (by rw [List.size_toArray, W_length, W_length])) (by rw [List.size_toArray, W_length]; exact info58) (Wd_one _) ?_
                have V0 := (At.setCells (W (x2 * y1)) _ _ _ _ (At.whole kp6) (by rw [W_length, W_length])).toBlk
                have V1 := Blk.setCells_ne p6 (W (x2 * y1)) 0 _ kp5 (by omega)
                have V2 := Nat.le_trans hHeld.2.2.2.2.1 (Chg.setCells p6 (by simp) (W (x2 * y1)) 0 _ (Chg.refl [p6] wm)).size
                have V3 := Chg.setCellsNew p6 (by omega) (W (x2 * y1)) 0 _ hHeld.2.2.2.2.2
                have U0 := Blk.setCells_ne p6 (W (x2 * y1)) 0 _ hHeld.1 (by omega)
                have U1 := Blk.setCells_ne p6 (W (x2 * y1)) 0 _ hHeld.2.1 (by omega)
                have U2 := Blk.setCells_ne p6 (W (x2 * y1)) 0 _ hHeld.2.2.1 (by omega)
                have U3 := Blk.setCells_ne p6 (W (x2 * y1)) 0 _ hHeld.2.2.2.1 (by omega)
                refine hK.out _ _ ⟨U0, U1, U2, U3, V2, V3⟩ (fun hHeld => ?_)
                clear hK K
                try simp only [Act.put, List.setIfInBounds_toArray, List.set_cons_zero, List.set_cons_succ, List.toList_toArray]
                generalize wm.setCells p6 0 (W (x2 * y1)) = wk at *
                clear kp6 kp5
                have kp6 := V0
                have kp5 := V1
                clear V0 V1 V2 V3 U0 U1 U2 U3
                refine wpAnyH_done (by kernel_rfl) ?_ _
                go_wp2_with fail
                go_meet
                exact ⟨p5, p6, rfl, rfl, n56, gp5, gp6, kp5, kp6, hHeld⟩
              refine consL rfl rfl (fun K hK => ?_) AllReadyH.nil
              have hsz := hHeld.2.2.2.2.1
              have hlt := kp5.lt
              refine wp_zeroAcc rfl ?_
              intro p6 wn hbp6 kp6 hcn
              refine hK.out _ _ ⟨hcn.blk hHeld.1 (by simp), hcn.blk hHeld.2.1 (by simp), hcn.blk hHeld.2.2.1 (by simp), hcn.blk hHeld.2.2.2.1 (by simp), Nat.le_trans hHeld.2.2.2.2.1 hcn.size, hHeld.2.2.2.2.2.trans (hcn.mono (by simp))⟩ (fun hHeld => ?_)
              clear hK K
              try simp only [Act.put, List.setIfInBounds_toArray, List.set_cons_zero, List.set_cons_succ, List.toList_toArray]
              have kp5 := hcn.blk kp5 (by simp)
              have gp6 : wc.heap.size ≤ p6 := by have := hbp6.out; have := hsz; omega
              have n56 : p5 ≠ p6 := by have := hbp6.out; have := hlt; omega
              clear hbp6 hsz hlt
              clear hcn
              refine wpAnyH_ready (rs := [21]) (by kernel_rfl) (by simp) ?_
              refine consL rfl rfl (fun K hK => ?_) AllReadyH.nil
              go_simp
              refine (HP4.out _).mono ?_
              rintro e wn ⟨rfl, hcn⟩
              refine hK.out _ _ ⟨hcn.blk hHeld.1 (by simp), hcn.blk hHeld.2.1 (by simp), hcn.blk hHeld.2.2.1 (by simp), hcn.blk hHeld.2.2.2.1 (by simp), Nat.le_trans hHeld.2.2.2.2.1 hcn.size, hHeld.2.2.2.2.2.trans (hcn.mono (by simp))⟩ (fun hHeld => ?_)
              clear hK K
              try simp only [Act.put, List.setIfInBounds_toArray, List.set_cons_zero, List.set_cons_succ, List.toList_toArray]
              have kp5 := hcn.blk kp5 (by simp)
              have kp6 := hcn.blk kp6 (by simp)
              clear hcn
              refine wpAnyH_ready (rs := [24]) (by kernel_rfl) (by simp) ?_
              refine consL rfl rfl (fun K hK => ?_) AllReadyH.nil
              refine wp_store_mid 58 _ _ rfl p5 0 (W (x1 * y2)).toArray rfl rfl ((At.whole kp5).there _ (by rw [List.size_toArray, W_length, W_length])) (by rw [List.size_toArray, W_length]; exact info58) (Wd_one _) ?_
              have V0 := (At.setCells (W (x1 * y2)) _ _ _ _ (At.whole kp5) (by rw [W_length, W_length])).toBlk
              have V1 := Blk.setCells_ne p5 (W (x1 * y2)) 0 _ kp6 (by omega)
              have V2 := Nat.le_trans hHeld.2.2.2.2.1 (Chg.setCells p5 (by simp) (W (x1 * y2)) 0 _ (Chg.refl [p5] wn)).size
              have V3 := Chg.setCellsNew p5 (by omega) (W (x1 * y2)) 0 _ hHeld.2.2.2.2.2
              have U0 := Blk.setCells_ne p5 (W (x1 * y2)) 0 _ hHeld.1 (by omega)
              have U1 := Blk.setCells_ne p5 (W (x1 * y2)) 0 _ hHeld.2.1 (by omega)
              have U2 := Blk.setCells_ne p5 (W (x1 * y2)) 0 _ hHeld.2.2.1 (by omega)
              have U3 := Blk.setCells_ne p5 (W (x1 * y2)) 0 _ hHeld.2.2.2.1 (by omega)
              refine hK.out _ _ ⟨U0, U1, U2, U3, V2, V3⟩ (fun hHeld => ?_)
              clear hK K
              try simp only [Act.put, List.setIfInBounds_toArray, List.set_cons_zero, List.set_cons_succ, List.toList_toArray]
              generalize wn.setCells p5 0 (W (x1 * y2)) = wm at *
              clear kp5 kp6
              have kp5 := V0
              have kp6 := V1
              clear V0 V1 V2 V3 U0 U1 U2 U3
              refine wpAnyH_ready (rs := [25]) (by kernel_rfl) (by simp) ?_
              refine consL rfl rfl (fun K hK => ?_) AllReadyH.nil
              refine wp_store_mid 58 _ _ rfl p6 0 (W (x2 * y1)).toArray rfl rfl ((At.whole kp6).there _ (by rw [List.size_toArray, W_length, W_length])) (by rw [List.size_toArray, W_length]; exact info58) (Wd_one _) ?_
              have V0 := (At.setCells (W (x2 * y1)) _ _ _ _ (At.whole kp6) (by rw [W_length, W_length])).toBlk
              have V1 := Blk.setCells_ne p6 (W (x2 * y1)) 0 _ kp5 (by omega)
              have V2 := Nat.le_trans hHeld.2.2.2.2.1 (Chg.setCells p6 (by simp) (W (x2 * y1)) 0 _ (Chg.refl [p6] wm)).size
              have V3 := Chg.setCellsNew p6 (by omega) (W (x2 * y1)) 0 _ hHeld.2.2.2.2.2
              have U0 := Blk.setCells_ne p6 (W (x2 * y1)) 0 _ hHeld.1 (by omega)
              have U1 := Blk.setCells_ne p6 (W (x2 * y1)) 0 _ hHeld.2.1 (by omega)
              have U2 := Blk.setCells_ne p6 (W (x2 * y1)) 0 _ hHeld.2.2.1 (by omega)
              have U3 := Blk.setCells_ne p6 (W (x2 * y1)) 0 _ hHeld.2.2.2.1 (by omega)
              refine hK.out _ _ ⟨U0, U1, U2, U3, V2, V3⟩ (fun hHeld => ?_)
              clear hK K
              try simp only [Act.put, List.setIfInBounds_toArray, List.set_cons_zero, List.set_cons_succ, List.toList_toArray]
              generalize wm.setCells p6 0 (W (x2 * y1)) = wk at *
              clear kp6 kp5
              have kp6 := V0
              have kp5 := V1
              clear V0 V1 V2 V3 U0 U1 U2 U3
              refine wpAnyH_done (by kernel_rfl) ?_ _
              go_wp2_with fail
              go_meet
              exact ⟨p5, p6, rfl, rfl, n56, gp5, gp6, kp5, kp6, hHeld⟩
            refine consL rfl rfl (fun K hK => ?_) AllReadyH.nil
            have hsz := hHeld.2.2.2.2.1
            refine wp_zeroAcc rfl ?_
            intro p6 wn hbp6 kp6 hcn
            refine hK.out _ _ ⟨hcn.blk hHeld.1 (by simp), hcn.blk hHeld.2.1 (by simp), hcn.blk hHeld.2.2.1 (by simp), hcn.blk hHeld.2.2.2.1 (by simp), Nat.le_trans hHeld.2.2.2.2.1 hcn.size, hHeld.2.2.2.2.2.trans (hcn.mono (by simp))⟩ (fun hHeld => ?_)
            clear hK K
            try simp only [Act.put, List.setIfInBounds_toArray, List.set_cons_zero, List.set_cons_succ, List.toList_toArray]
            have gp6 : wc.heap.size ≤ p6 := by have := hbp6.out; have := hsz; omega
            clear hbp6 hsz
            clear hcn
            refine wpAnyH_ready (rs := [21, 22]) (by kernel_rfl) (by simp) ?_
            refine consL rfl rfl (fun K hK => ?_) ?_
            · go_simp
              refine (HP4.out _).mono ?_
              rintro e wn ⟨rfl, hcn⟩
              refine hK.out _ _ ⟨hcn.blk hHeld.1 (by simp), hcn.blk hHeld.2.1 (by simp), hcn.blk hHeld.2.2.1 (by simp), hcn.blk hHeld.2.2.2.1 (by simp), Nat.le_trans hHeld.2.2.2.2.1 hcn.size, hHeld.2.2.2.2.2.trans (hcn.mono (by simp))⟩ (fun hHeld => ?_)
              clear hK K
              try simp only [Act.put, List.setIfInBounds_toArray, List.set_cons_zero, List.set_cons_succ, List.toList_toArray]
              have kp6 := hcn.blk kp6 (by simp)
              clear hcn
              refine wpAnyH_ready (rs := [22]) (by kernel_rfl) (by simp) ?_
              refine consL rfl rfl (fun K hK => ?_) AllReadyH.nil
              have hsz := hHeld.2.2.2.2.1
              have hlt := kp6.lt
              refine wp_zeroAcc rfl ?_
              intro p5 wn hbp5 kp5 hcn
              refine hK.out _ _ ⟨hcn.blk hHeld.1 (by simp), hcn.blk hHeld.2.1 (by simp), hcn.blk hHeld.2.2.1 (by simp), hcn.blk hHeld.2.2.2.1 (by simp), Nat.le_trans hHeld.2.2.2.2.1 hcn.size, hHeld.2.2.2.2.2.trans (hcn.mono (by simp))⟩ (fun hHeld => ?_)
              clear hK K
              try simp only [Act.put, List.setIfInBounds_toArray, List.set_cons_zero, List.set_cons_succ, List.toList_toArray]
              have kp6 := hcn.blk kp6 (by simp)
              have gp5 : wc.heap.size ≤ p5 := by have := hbp5.out; have := hsz; omega
              have n56 : p5 ≠ p6 := by have := hbp5.out; have := hlt; omega
              clear hbp5 hsz hlt
              clear hcn
              refine wpAnyH_ready (rs := [24]) (by kernel_rfl) (by simp) ?_
              refine consL rfl rfl (fun K hK => ?_) AllReadyH.nil
              refine wp_store_mid 58 _ _ rfl p5 0 (W (x1 * y2)).toArray rfl rfl ((At.whole kp5).there _ (by rw [List.size_toArray, W_length, W_length])) (by rw [List.size_toArray, W_length]; exact info58) (Wd_one _) ?_
              have V0 := (At.setCells (W (x1 * y2)) _ _ _ _ (At.whole kp5) (by rw [W_length, W_length])).toBlk
              have V1 := Blk.setCells_ne p5 (W (x1 * y2)) 0 _ kp6 (by omega)
              have V2 := Nat.le_trans hHeld.2.2.2.2.1 (Chg.setCells p5 (by simp) (W (x1 * y2)) 0 _ (Chg.refl [p5] wn)).size
              have V3 := Chg.setCellsNew p5 (by omega) (W (x1 * y2)) 0 _ hHeld.2.2.2.2.2
              have U0 := Blk.setCells_ne p5 (W (x1 * y2)) 0 _ hHeld.1 (by omega)
              have U1 := Blk.setCells_ne p5 (W (x1 * y2)) 0 _ hHeld.2.1 (by omega)
              have U2 := Blk.setCells_ne p5 (W (x1 * y2)) 0 _ hHeld.2.2.1 (by omega)
              have U3 := Blk.setCells_ne p5 (W (x1 * y2)) 0 _ hHeld.2.2.2.1 (by omega)
              refine hK.out _ _ ⟨U0, U1, U2, U3, V2, V3⟩ (fun hHeld => ?_)
              clear hK K
              try simp only [Act.put, List.setIfInBounds_toArray, List.set_cons_zero, List.set_cons_succ, List.toList_toArray]
              generalize wn.setCells p5 0 (W (x1 * y2)) = wm at *
              clear kp5 kp6
              have kp5 := V0
              have kp6 := V1
              clear V0 V1 V2 V3 U0 U1 U2 U3
              refine wpAnyH_ready (rs := [25]) (by kernel_rfl) (by simp) ?_
              refine consL rfl rfl (fun K hK => ?_) AllReadyH.nil
              refine wp_store_mid 58 _ _ rfl p6 0 (W (x2 * y1)).toArray rfl rfl ((At.whole kp6).there _ (by rw [List.size_toArray, W_length, W_length])) (by rw [List.size_toArray, W_length]; exact info58) (Wd_one _) ?_
              have V0 := (At.setCells (W (x2 * y1)) _ _ _ _ (At.whole kp6) (by rw [W_length, W_length])).toBlk
              have V1 := Blk.setCells_ne p6 (W (x2 * y1)) 0 _ kp5 (by omega)
              have V2 := Nat.le_trans hHeld.2.2.2.2.1 (Chg.setCells p6 (by simp) (W (x2 * y1)) 0 _ (Chg.refl [p6] wm)).size
              have V3 := Chg.setCellsNew p6 (by omega) (W (x2 * y1)) 0 _ hHeld.2.2.2.2.2
              have U0 := Blk.setCells_ne p6 (W (x2 * y1)) 0 _ hHeld.1 (by omega)
              have U1 := Blk.setCells_ne p6 (W (x2 * y1)) 0 _ hHeld.2.1 (by omega)
              have U2 := Blk.setCells_ne p6 (W (x2 * y1)) 0 _ hHeld.2.2.1 (by omega)
              have U3 := Blk.setCells_ne p6 (W (x2 * y1)) 0 _ hHeld.2.2.2.1 (by omega)
              refine hK.out _ _ ⟨U0, U1, U2, U3, V2, V3⟩ (fun hHeld => ?_)
              clear hK K
              try simp only [Act.put, List.setIfInBounds_toArray, List.set_cons_zero, List.set_cons_succ, List.toList_toArray]
              generalize wm.setCells p6 0 (W (x2 * y1)) = wk at *
              clear kp6 kp5
              have kp6 := V0
              have kp5 := V1
              clear V0 V1 V2 V3 U0 U1 U2 U3
              refine wpAnyH_done (by kernel_rfl) ?_ _
              go_wp2_with fail
              go_meet
              exact ⟨p5, p6, rfl, rfl, n56, gp5, gp6, kp5, kp6, hHeld⟩
            refine consL rfl rfl (fun K hK => ?_) AllReadyH.nil
            have hsz := hHeld.2.2.2.2.1
            have hlt := kp6.lt
            refine wp_zeroAcc rfl ?_
            intro p5 wn hbp5 kp5 hcn
            refine hK.out _ _ ⟨hcn.blk hHeld.1 (by simp), hcn.blk hHeld.2.1 (by simp), hcn.blk hHeld.2.2.1 (by simp), hcn.blk hHeld.2.2.2.1 (by simp), Nat.le_trans hHeld.2.2.2.2.1 hcn.size, hHeld.2.2.2.2.2.trans (hcn.mono (by simp))⟩ (fun hHeld => ?_)
            clear hK K
            try simp only [Act.put, List.setIfInBounds_toArray, List.set_cons_zero, List.set_cons_succ, List.toList_toArray]
            have kp6 := hcn.blk kp6 (by simp)
            have gp5 : wc.heap.size ≤ p5 := by have := hbp5.out; have := hsz; omega
            have n56 : p5 ≠ p6 := by have := hbp5.out; have := hlt; omega
            clear hbp5 hsz hlt
            clear hcn
            refine wpAnyH_ready (rs := [21]) (by kernel_rfl) (by simp) ?_
            refine consL rfl rfl (fun K hK => ?_) AllReadyH.nil
            go_simp
            refine (HP4.out _).mono ?_
            rintro e wn ⟨rfl, hcn⟩
            refine hK.out _ _ ⟨hcn.blk hHeld.1 (by simp), hcn.blk hHeld.2.1 (by simp), hcn.blk hHeld.2.2.1 (by simp), hcn.blk hHeld.2.2.2.1 (by simp), Nat.le_trans hHeld.2.2.2.2.1 hcn.size, hHeld.2.2.2.2.2.trans (hcn.mono (by simp))⟩ (fun hHeld => ?_)
            clear hK K
            try simp only [Act.put, List.setIfInBounds_toArray, List.set_cons_zero, List.set_cons_succ, List.toList_toArray]
            have kp6 := hcn.blk kp6 (by simp)
            have kp5 := hcn.blk kp5 (by simp)
            clear hcn
            refine wpAnyH_ready (rs := [24]) (by kernel_rfl) (by simp) ?_
            refine consL rfl rfl (fun K hK => ?_) AllReadyH.nil
            refine wp_store_mid 58 _ _ rfl p5 0 (W (x1 * y2)).toArray rfl rfl ((At.whole kp5).there _ (by rw [List.size_toArray, W_length, W_length])) (by rw [List.size_toArray, W_length]; exact info58) (Wd_one _) ?_
            have V0 := (At.setCells (W (x1 * y2)) _ _ _ _ (At.whole kp5) (by rw [W_length, W_length])).toBlk
            have V1 := Blk.setCells_ne p5 (W (x1 * y2)) 0 _ kp6 (by omega)
            have V2 := Nat.le_trans hHeld.2.2.2.2.1 (Chg.setCells p5 (by simp) (W (x1 * y2)) 0 _ (Chg.refl [p5] wn)).size
            have V3 := Chg.setCellsNew p5 (by omega) (W (x1 * y2)) 0 _ hHeld.2.2.2.2.2
            have U0 := Blk.setCells_ne p5 (W (x1 * y2)) 0 _ hHeld.1 (by omega)
            have U1 := Blk.setCells_ne p5 (W (x1 * y2)) 0 _ hHeld.2.1 (by omega)
            have U2 := Blk.setCells_ne p5 (W (x1 * y2)) 0 _ hHeld.2.2.1 (by omega)
            have U3 := Blk.setCells_ne p5 (W (x1 * y2)) 0 _ hHeld.2.2.2.1 (by omega)
            refine hK.out _ _ ⟨U0, U1, U2, U3, V2, V3⟩ (fun hHeld => ?_)
            clear hK K
            try simp only [Act.put, List.setIfInBounds_toArray, List.set_cons_zero, List.set_cons_succ, List.toList_toArray]
            generalize wn.setCells p5 0 (W (x1 * y2)) = wm at *
            clear kp5 kp6
            have kp5 := V0
            have kp6 := V1
            clear V0 V1 V2 V3 U0 U1 U2 U3
            refine wpAnyH_ready (rs := [25]) (by kernel_rfl) (by simp) ?_
            refine consL rfl rfl (fun K hK => ?_) AllReadyH.nil
            refine wp_store_mid 58 _ _ rfl p6 0 (W (x2 * y1)).toArray rfl rfl ((At.whole kp6).there _ (by rw [List.size_toArray, W_length, W_length])) (by rw [List.size_toArray, W_length]; exact info58) (Wd_one _) ?_
            have V0 := (At.setCells (W (x2 * y1)) _ _ _ _ (At.whole kp6) (by rw [W_length, W_length])).toBlk
            have V1 := Blk.setCells_ne p6 (W (x2 * y1)) 0 _ kp5 (by omega)
            have V2 := Nat.le_trans hHeld.2.2.2.2.1 (Chg.setCells p6 (by simp) (W (x2 * y1)) 0 _ (Chg.refl [p6] wm)).size
            have V3 := Chg.setCellsNew p6 (by omega) (W (x2 * y1)) 0 _ hHeld.2.2.2.2.2
            have U0 := Blk.setCells_ne p6 (W (x2 * y1)) 0 _ hHeld.1 (by omega)
            have U1 := Blk.setCells_ne p6 (W (x2 * y1)) 0 _ hHeld.2.1 (by omega)
            have U2 := Blk.setCells_ne p6 (W (x2 * y1)) 0 _ hHeld.2.2.1 (by omega)
            have U3 := Blk.setCells_ne p6 (W (x2 * y1)) 0 _ hHeld.2.2.2.1 (by omega)
            refine hK.out _ _ ⟨U0, U1, U2, U3, V2, V3⟩ (fun hHeld => ?_)
            clear hK K
            try simp only [Act.put, List.setIfInBounds_toArray, List.set_cons_zero, List.set_cons_succ, List.toList_toArray]
            generalize wm.setCells p6 0 (W (x2 * y1)) = wk at *
            clear kp6 kp5
            have kp6 := V0
            have kp5 := V1
            clear V0 V1 V2 V3 U0 U1 U2 U3
            refine wpAnyH_done (by kernel_rfl) ?_ _
            go_wp2_with fail
            go_meet
            exact ⟨p5, p6, rfl, rfl, n56, gp5, gp6, kp5, kp6, hHeld⟩
          refine consL rfl rfl (fun K hK => ?_) ?_
          · have hsz := hHeld.2.2.2.2.1
            refine wp_zeroAcc rfl ?_
            intro p5 wn hbp5 kp5 hcn
            refine hK.out _ _ ⟨hcn.blk hHeld.1 (by simp), hcn.blk hHeld.2.1 (by simp), hcn.blk hHeld.2.2.1 (by simp), hcn.blk hHeld.2.2.2.1 (by simp), Nat.le_trans hHeld.2.2.2.2.1 hcn.size, hHeld.2.2.2.2.2.trans (hcn.mono (by simp))⟩ (fun hHeld => ?_)
            clear hK K
            try simp only [Act.put, List.setIfInBounds_toArray, List.set_cons_zero, List.set_cons_succ, List.toList_toArray]
            have gp5 : wc.heap.size ≤ p5 := by have := hbp5.out; have := hsz; omega
            clear hbp5 hsz
            clear hcn
            refine wpAnyH_ready (rs := [10, 23]) (by kernel_rfl) (by simp) ?_
            refine consL rfl rfl (fun K hK => ?_) ?_
            · go_simp
              refine (HP3.out _).mono ?_
              rintro e wn ⟨rfl, hcn⟩
              refine hK.out _ _ ⟨hcn.blk hHeld.1 (by simp), hcn.blk hHeld.2.1 (by simp), hcn.blk hHeld.2.2.1 (by simp), hcn.blk hHeld.2.2.2.1 (by simp), Nat.le_trans hHeld.2.2.2.2.1 hcn.size, hHeld.2.2.2.2.2.trans (hcn.mono (by simp))⟩ (fun hHeld => ?_)
              clear hK K
              try simp only [Act.put, List.setIfInBounds_toArray, List.set_cons_zero, List.set_cons_succ, List.toList_toArray]
              have kp5 := hcn.blk kp5 (by simp)
              clear hcn
              refine wpAnyH_ready (rs := [21, 23]) (by kernel_rfl) (by simp) ?_
              refine consL rfl rfl (fun K hK => ?_) ?_
              · go_simp
                refine (HP4.out _).mono ?_
                rintro e wn ⟨rfl, hcn⟩
                refine hK.out _ _ ⟨hcn.blk hHeld.1 (by simp), hcn.blk hHeld.2.1 (by simp), hcn.blk hHeld.2.2.1 (by simp), hcn.blk hHeld.2.2.2.1 (by simp), Nat.le_trans hHeld.2.2.2.2.1 hcn.size, hHeld.2.2.2.2.2.trans (hcn.mono (by simp))⟩ (fun hHeld => ?_)
                clear hK K
                try simp only [Act.put, List.setIfInBounds_toArray, List.set_cons_zero, List.set_cons_succ, List.toList_toArray]
                have kp5 := hcn.blk kp5 (by simp)
                clear hcn
                refine wpAnyH_ready (rs := [23]) (by kernel_rfl) (by simp) ?_
                refine consL rfl rfl (fun K hK => ?_) AllReadyH.nil
                have hsz := hHeld.2.2.2.2.1
                have hlt := kp5.lt
                refine wp_zeroAcc rfl ?_
                intro p6 wn hbp6 kp6 hcn
                refine hK.out _ _ ⟨hcn.blk hHeld.1 (by simp), hcn.blk hHeld.2.1 (by simp), hcn.blk hHeld.2.2.1 (by simp), hcn.blk hHeld.2.2.2.1 (by simp), Nat.le_trans hHeld.2.2.2.2.1 hcn.size, hHeld.2.2.2.2.2.trans (hcn.mono (by simp))⟩ (fun hHeld => ?_)
                clear hK K
                try simp only [Act.put, List.setIfInBounds_toArray, List.set_cons_zero, List.set_cons_succ, List.toList_toArray]
                have kp5 := hcn.blk kp5 (by simp)
                have gp6 : wc.heap.size ≤ p6 := by have := hbp6.out; have := hsz; omega
                have n56 : p5 ≠ p6 := by have := hbp6.out; have := hlt; omega
                clear hbp6 hsz hlt
                clear hcn
                refine wpAnyH_ready (rs := [24]) (by kernel_rfl) (by simp) ?_
                refine consL rfl rfl (fun K hK => ?_) AllReadyH.nil
                refine wp_store_mid 58 _ _ rfl p5 0 (W (x1 * y2)).toArray rfl rfl ((At.whole kp5).there _ (by rw [List.size_toArray, W_length, W_length])) (by rw [List.size_toArray, W_length]; exact info58) (Wd_one _) ?_
                have V0 := (At.setCells (W (x1 * y2)) _ _ _ _ (At.whole kp5) (by rw [W_length, W_length])).toBlk
                have V1 := Blk.setCells_ne p5 (W (x1 * y2)) 0 _ kp6 (by omega)
                have V2 := Nat.le_trans hHeld.2.2.2.2.1 (Chg.setCells p5 (by simp) (W (x1 * y2)) 0 _ (Chg.refl [p5] wn)).size
                have V3 := Chg.setCellsNew p5 (by omega) (W (x1 * y2)) 0 _ hHeld.2.2.2.2.2
                have U0 := Blk.setCells_ne p5 (W (x1 * y2)) 0 _ hHeld.1 (by omega)
                have U1 := Blk.setCells_ne p5 (W (x1 * y2)) 0 _ hHeld.2.1 (by omega)
                have U2 := Blk.setCells_ne p5 (W (x1 * y2)) 0 _ hHeld.2.2.1 (by omega)
                have U3 := Blk.setCells_ne p5 (W (x1 * y2)) 0 _ hHeld.2.2.2.1 (by omega)
                refine hK.out _ _ ⟨U0, U1, U2, U3, V2, V3⟩ (fun hHeld => ?_)
                clear hK K
                try simp only [Act.put, List.setIfInBounds_toArray, List.set_cons_zero, List.set_cons_succ, List.toList_toArray]
                generalize wn.setCells p5 0 (W (x1 * y2)) = wm at *
                clear kp5 kp6
                have kp5 := V0
                have kp6 := V1
                clear V0 V1 V2 V3 U0 U1 U2 U3
                refine wpAnyH_ready (rs := [25]) (by kernel_rfl) (by simp) ?_
                refine consL rfl rfl (fun K hK => ?_) AllReadyH.nil
                refine wp_store_mid 58 _ _ rfl p6 0 (W (x2 * y1)).toArray rfl rfl ((At.whole kp6).there _ (by rw [List.size_toArray, W_length, W_length])) (by rw [List.size_toArray, W_length]; exact info58) (Wd_one _) ?_
                have V0 := (At.setCells (W (x2 * y1)) _ _ _ _ (At.whole kp6) (by rw [W_length, W_length])).toBlk
                have V1 := Blk.setCells_ne p6 (W (x2 * y1)) 0 _ kp5 (by omega)
                have V2 := Nat.le_trans hHeld.2.2.2.2.1 (Chg.setCells p6 (by simp) (W (x2 * y1)) 0 _ (Chg.refl [p6] wm)).size
                have V3 := Chg.setCellsNew p6 (by omega) (W (x2 * y1)) 0 _ hHeld.2.2.2.2.2
                have U0 := Blk.setCells_ne p6 (W (x2 * y1)) 0 _ hHeld.1 (by omega)
                have U1 := Blk.setCells_ne p6 (W (x2 * y1)) 0 _ hHeld.2.1 (by omega)
                have U2 := Blk.setCells_ne p6 (W (x2 * y1)) 0 _ hHeld.2.2.1 (by omega)
                have U3 := Blk.setCells_ne p6 (W (x2 * y1)) 0 _ hHeld.2.2.2.1 (by omega)
                refine hK.out _ _ ⟨U0, U1, U2, U3, V2, V3⟩ (fun hHeld => ?_)
                clear hK K
                try simp only [Act.put, List.setIfInBounds_toArray, List.set_cons_zero, List.set_cons_succ, List.toList_toArray]
                generalize wm.setCells p6 0 (W (x2 * y1)) = wk at *
                clear kp6 kp5
                have kp6 := V0
                have kp5 := V1
                clear V0 V1 V2 V3 U0 U1 U2 U3
                refine wpAnyH_done (by kernel_rfl) ?_ _
                go_wp2_with fail
                go_meet
                exact ⟨p5, p6, rfl, rfl, n56, gp5, gp6, kp5, kp6, hHeld⟩
              refine consL rfl rfl (fun K hK => ?_) AllReadyH.nil
              have hsz := hHeld.2.2.2.2.1
              have hlt := kp5.lt
              refine wp_zeroAcc rfl ?_
              intro p6 wn hbp6 kp6 hcn
              refine hK.out _ _ ⟨hcn.blk hHeld.1 (by simp), hcn.blk hHeld.2.1 (by simp), hcn.blk hHeld.2.2.1 (by simp), hcn.blk hHeld.2.2.2.1 (by simp), Nat.le_trans hHeld.2.2.2.2.1 hcn.size, hHeld.2.2.2.2.2.trans (hcn.mono (by simp))⟩ (fun hHeld => ?_)
              clear hK K
              try simp only [Act.put, List.setIfInBounds_toArray, List.set_cons_zero, List.set_cons_succ, List.toList_toArray]
              have kp5 := hcn.blk kp5 (by simp)
              have gp6 : wc.heap.size ≤ p6 := by have := hbp6.out; have := hsz; omega
              have n56 : p5 ≠ p6 := by have := hbp6.out; have := hlt; omega
              clear hbp6 hsz hlt
              clear hcn
              refine wpAnyH_ready (rs := [21]) (by kernel_rfl) (by simp) ?_
              refine consL rfl rfl (fun K hK => ?_) AllReadyH.nil
              go_simp
              refine (HP4.out _).mono ?_
              rintro e wn ⟨rfl, hcn⟩
              refine hK.out _ _ ⟨hcn.blk hHeld.1 (by simp), hcn.blk hHeld.2.1 (by simp), hcn.blk hHeld.2.2.1 (by simp), hcn.blk hHeld.2.2.2.1 (by simp), Nat.le_trans hHeld.2.2.2.2.1 hcn.size, hHeld.2.2.2.2.2.trans (hcn.mono (by simp))⟩ (fun hHeld => ?_)
              clear hK K
              try simp only [Act.put, List.setIfInBounds_toArray, List.set_cons_zero, List.set_cons_succ, List.toList_toArray]
              have kp5 := hcn.blk kp5 (by simp)
              have kp6 := hcn.blk kp6 (by simp)
              clear hcn
              refine wpAnyH_ready (rs := [24]) (by kernel_rfl) (by simp) ?_
              refine consL rfl rfl (fun K hK => ?_) AllReadyH.nil
              refine wp_store_mid 58 _ _ rfl p5 0 (W (x1 * y2)).toArray rfl rfl ((At.whole kp5).there _ (by rw [List.size_toArray, W_length, W_length])) (by rw [List.size_toArray, W_length]; exact info58) (Wd_one _) ?_
              have V0 := (At.setCells (W (x1 * y2)) _ _ _ _ (At.whole kp5) (by rw [W_length, W_length])).toBlk
              have V1 := Blk.setCells_ne p5 (W (x1 * y2)) 0 _ kp6 (by omega)
              have V2 := Nat.le_trans hHeld.2.2.2.2.1 (Chg.setCells p5 (by simp) (W (x1 * y2)) 0 _ (Chg.refl [p5] wn)).size
              have V3 := Chg.setCellsNew p5 (by omega) (W (x1 * y2)) 0 _ hHeld.2.2.2.2.2
              have U0 := Blk.setCells_ne p5 (W (x1 * y2)) 0 _ hHeld.1 (by omega)
              have U1 := Blk.setCells_ne p5 (W (x1 * y2)) 0 _ hHeld.2.1 (by omega)
              have U2 := Blk.setCells_ne p5 (W (x1 * y2)) 0 _ hHeld.2.2.1 (by omega)
              have U3 := Blk.setCells_ne p5 (W (x1 * y2)) 0 _ hHeld.2.2.2.1 (by omega)
              refine hK.out _ _ ⟨U0, U1, U2, U3, V2, V3⟩ (fun hHeld => ?_)
              clear hK K
              try simp only [Act.put, List.setIfInBounds_toArray, List.set_cons_zero, List.set_cons_succ, List.toList_toArray]
              generalize wn.setCells p5 0 (W (x1 * y2)) = wm at *
              clear kp5 kp6
              have kp5 := V0
              have kp6 := V1
              clear V0 V1 V2 V3 U0 U1 U2 U3
              refine wpAnyH_ready (rs := [25]) (by kernel_rfl) (by simp) ?_
              refine consL rfl rfl (fun K hK => ?_) AllReadyH.nil
              refine wp_store_mid 58 _ _ rfl p6 0 (W (x2 * y1)).toArray rfl rfl ((At.whole kp6).there _ (by rw [List.size_toArray, W_length, W_length])) (by rw [List.size_toArray, W_length]; exact info58) (Wd_one _) ?_
              have V0 := (At.setCells (W (x2 * y1)) _ _ _ _ (At.whole kp6) (by rw [W_length, W_length])).toBlk
              have V1 := Blk.setCells_ne p6 (W (x2 * y1)) 0 _ kp5 (by omega)
              have V2 := Nat.le_trans hHeld.2.2.2.2.1 (Chg.setCells p6 (by simp) (W (x2 * y1)) 0 _ (Chg.refl [p6] wm)).size
              have V3 := Chg.setCellsNew p6 (by omega) (W (x2 * y1)) 0 _ hHeld.2.2.2.2.2
              have U0 := Blk.setCells_ne p6 (W (x2 * y1)) 0 _ hHeld.1 (by omega)
              have U1 := Blk.setCells_ne p6 (W (x2 * y1)) 0 _ hHeld.2.1 (by omega)
              have U2 := Blk.setCells_ne p6 (W (x2 * y1)) 0 _ hHeld.2.2.1 (by omega)
              have U3 := Blk.setCells_ne p6 (W (x2 * y1)) 0 _ hHeld.2.2.2.1 (by omega)
              refine hK.out _ _ ⟨U0, U1, U2, U3, V2, V3⟩ (fun hHeld => ?_)
              clear hK K
              try simp only [Act.put, List.setIfInBounds_toArray, List.set_cons_zero, List.set_cons_succ, List.toList_toArray]
              generalize wm.setCells p6 0 (W (x2 * y1)) = wk at *
              clear kp6 kp5
              have kp6 := V0
              have kp5 := V1
              clear V0 V1 V2 V3 U0 U1 U2 U3
              refine wpAnyH_done (by kernel_rfl) ?_ _
              go_wp2_with fail
              go_meet
              exact ⟨p5, p6, rfl, rfl, n56, gp5, gp6, kp5, kp6, hHeld⟩
            refine consL rfl rfl (fun K hK => ?_) AllReadyH.nil
            have hsz := hHeld.2.2.2.2.1
            have hlt := kp5.lt
            refine wp_zeroAcc rfl ?_
            intro p6 wn hbp6 kp6 hcn
            refine hK.out _ _ ⟨hcn.blk hHeld.1 (by simp), hcn.blk hHeld.2.1 (by simp), hcn.blk hHeld.2.2.1 (by simp), hcn.blk hHeld.2.2.2.1 (by simp), Nat.le_trans hHeld.2.2.2.2.1 hcn.size, hHeld.2.2.2.2.2.trans (hcn.mono (by simp))⟩ (fun hHeld => ?_)
            clear hK K
            try simp only [Act.put, List.setIfInBounds_toArray, List.set_cons_zero, List.set_cons_succ, List.toList_toArray]
            have kp5 := hcn.blk kp5 (by simp)
            have gp6 : wc.heap.size ≤ p6 := by have := hbp6.out; have := hsz; omega
            have n56 : p5 ≠ p6 := by have := hbp6.out; have := hlt; omega
            clear hbp6 hsz hlt
            clear hcn
            refine wpAnyH_ready (rs := [10]) (by kernel_rfl) (by simp) ?_
            refine consL rfl rfl (fun K hK => ?_) AllReadyH.nil
            go_simp
            refine (HP3.out _).mono ?_
            rintro e wn ⟨rfl, hcn⟩
            refine hK.out _ _ ⟨hcn.blk hHeld.1 (by simp), hcn.blk hHeld.2.1 (by simp), hcn.blk hHeld.2.2.1 (by simp), hcn.blk hHeld.2.2.2.1 (by simp), Nat.le_trans hHeld.2.2.2.2.1 hcn.size, hHeld.2.2.2.2.2.trans (hcn.mono (by simp))⟩ (fun hHeld => ?_)
            clear hK K
            try simp only [Act.put, List.setIfInBounds_toArray, List.set_cons_zero, List.set_cons_succ, List.toList_toArray]
            have kp5 := hcn.blk kp5 (by simp)
            have kp6 := hcn.blk kp6 (by simp)
            clear hcn
            refine wpAnyH_ready (rs := [21]) (by kernel_rfl) (by simp) ?_
            refine consL rfl rfl (fun K hK => ?_) AllReadyH.nil
            go_simp
            refine (HP4.out _).mono ?_
            rintro e wn ⟨rfl, hcn⟩
            refine hK.out _ _ ⟨hcn.blk hHeld.1 (by simp), hcn.blk hHeld.2.1 (by simp), hcn.blk hHeld.2.2.1 (by simp), hcn.blk hHeld.2.2.2.1 (by simp), Nat.le_trans hHeld.2.2.2.2.1 hcn.size, hHeld.2.2.2.2.2.trans (hcn.mono (by simp))⟩ (fun hHeld => ?_)
            clear hK K
            try simp only [Act.put, List.setIfInBounds_toArray, List.set_cons_zero, List.set_cons_succ, List.toList_toArray]
            have kp5 := hcn.blk kp5 (by simp)
            have kp6 := hcn.blk kp6 (by simp)
            clear hcn
            refine wpAnyH_ready (rs := [24]) (by kernel_rfl) (by simp) ?_
            refine consL rfl rfl (fun K hK => ?_) AllReadyH.nil
            refine wp_store_mid 58 _ _ rfl p5 0 (W (x1 * y2)).toArray rfl rfl ((At.whole kp5).there _ (by rw [List.size_toArray, W_length, W_length])) (by rw [List.size_toArray, W_length]; exact info58) (Wd_one _) ?_
            have V0 := (At.setCells (W (x1 * y2)) _ _ _ _ (At.whole kp5) (by rw [W_length, W_length])).toBlk
            have V1 := Blk.setCells_ne p5 (W (x1 * y2)) 0 _ kp6 (by omega)
            have V2 := Nat.le_trans hHeld.2.2.2.2.1 (Chg.setCells p5 (by simp) (W (x1 * y2)) 0 _ (Chg.refl [p5] wn)).size
            have V3 := Chg.setCellsNew p5 (by omega) (W (x1 * y2)) 0 _ hHeld.2.2.2.2.2
            have U0 := Blk.setCells_ne p5 (W (x1 * y2)) 0 _ hHeld.1 (by omega)
            have U1 := Blk.setCells_ne p5 (W (x1 * y2)) 0 _ hHeld.2.1 (by omega)
            have U2 := Blk.setCells_ne p5 (W (x1 * y2)) 0 _ hHeld.2.2.1 (by omega)
            have U3 := Blk.setCells_ne p5 (W (x1 * y2)) 0 _ hHeld.2.2.2.1 (by omega)
            refine hK.out _ _ ⟨U0, U1, U2, U3, V2, V3⟩ (fun hHeld => ?_)
            clear hK K
            try simp only [Act.put, List.setIfInBounds_toArray, List.set_cons_zero, List.set_cons_succ, List.toList_toArray]
            generalize wn.setCells p5 0 (W (x1 * y2)) = wm at *
            clear kp5 kp6
            have kp5 := V0
            have kp6 := V1
            clear V0 V1 V2 V3 U0 U1 U2 U3
            refine wpAnyH_ready (rs := [25]) (by kernel_rfl) (by simp) ?_
            refine consL rfl rfl (fun K hK => ?_) AllReadyH.nil
            refine wp_store_mid 58 _ _ rfl p6 0 (W (x2 * y1)).toArray rfl rfl ((At.whole kp6).there _ (by rw [List.size_toArray, W_length, W_length])) (by rw [List.size_toArray, W_length]; exact info58) (Wd_one _) ?_
            have V0 := (At.setCells (W (x2 * y1)) _ _ _ _ (At.whole kp6) (by rw [W_length, W_length])).toBlk
            have V1 := Blk.setCells_ne p6 (W (x2 * y1)) 0 _ kp5 (by omega)
            have V2 := Nat.le_trans hHeld.2.2.2.2.1 (Chg.setCells p6 (by simp) (W (x2 * y1)) 0 _ (Chg.refl [p6] wm)).size
            have V3 := Chg.setCellsNew p6 (by omega) (W (x2 * y1)) 0 _ hHeld.2.2.2.2.2
            have U0 := Blk.setCells_ne p6 (W (x2 * y1)) 0 _ hHeld.1 (by omega)
            have U1 := Blk.setCells_ne p6 (W (x2 * y1)) 0 _ hHeld.2.1 (by omega)
            have U2 := Blk.setCells_ne p6 (W (x2 * y1)) 0 _ hHeld.2.2.1 (by omega)
            have U3 := Blk.setCells_ne p6 (W (x2 * y1)) 0 _ hHeld.2.2.2.1 (by omega)
            refine hK.out _ _ ⟨U0, U1, U2, U3, V2, V3⟩ (fun hHeld => ?_)
            clear hK K
            try simp only [Act.put, List.setIfInBounds_toArray, List.set_cons_zero, List.set_cons_succ, List.toList_toArray]
            generalize wm.setCells p6 0 (W (x2 * y1)) = wk at *
            clear kp6 kp5
            have kp6 := V0
            have kp5 := V1
            clear V0 V1 V2 V3 U0 U1 U2 U3
            refine wpAnyH_done (by kernel_rfl) ?_ _
            go_wp2_with fail
            go_meet
            exact ⟨p5, p6, rfl, rfl, n56, gp5, gp6, kp5, kp6, hHeld⟩
          refine consL rfl rfl (fun K hK => ?_) AllReadyH.nil
          have hsz := hHeld.2.2.2.2.1
          refine wp_zeroAcc rfl ?_
          intro p6 wn hbp6 kp6 hcn
          refine hK.out _ _ ⟨hcn.blk hHeld.1 (by simp), hcn.blk hHeld.2.1 (by simp), hcn.blk hHeld.2.2.1 (by simp), hcn.blk hHeld.2.2.2.1 (by simp), Nat.le_trans hHeld.2.2.2.2.1 hcn.size, hHeld.2.2.2.2.2.trans (hcn.mono (by simp))⟩ (fun hHeld => ?_)
          clear hK K
          try simp only [Act.put, List.setIfInBounds_toArray, List.set_cons_zero, List.set_cons_succ, List.toList_toArray]
          have gp6 : wc.heap.size ≤ p6 := by have := hbp6.out; have := hsz; omega
          clear hbp6 hsz
          clear hcn
          refine wpAnyH_ready (rs := [10, 22]) (by kernel_rfl) (by simp) ?_
          refine consL rfl rfl (fun K hK => ?_) ?_
          · go_simp
            refine (HP3.out _).mono ?_
            rintro e wn ⟨rfl, hcn⟩
            refine hK.out _ _ ⟨hcn.blk hHeld.1 (by simp), hcn.blk hHeld.2.1 (by simp), hcn.blk hHeld.2.2.1 (by simp), hcn.blk hHeld.2.2.2.1 (by simp), Nat.le_trans hHeld.2.2.2.2.1 hcn.size, hHeld.2.2.2.2.2.trans (hcn.mono (by simp))⟩ (fun hHeld => ?_)
            clear hK K
            try simp only [Act.put, List.setIfInBounds_toArray, List.set_cons_zero, List.set_cons_succ, List.toList_toArray]
            have kp6 := hcn.blk kp6 (by simp)
            clear hcn
            refine wpAnyH_ready (rs := [21, 22]) (by kernel_rfl) (by simp) ?_
            refine consL rfl rfl (fun K hK => ?_) ?_
            · go_simp
              refine (HP4.out _).mono ?_
              rintro e wn ⟨rfl, hcn⟩
              refine hK.out _ _ ⟨hcn.blk hHeld.1 (by simp), hcn.blk hHeld.2.1 (by simp), hcn.blk hHeld.2.2.1 (by simp), hcn.blk hHeld.2.2.2.1 (by simp), Nat.le_trans hHeld.2.2.2.2.1 hcn.size, hHeld.2.2.2.2.2.trans (hcn.mono (by simp))⟩ (fun hHeld => ?_)
              clear hK K
              try simp only [Act.put, List.setIfInBounds_toArray, List.set_cons_zero, List.set_cons_succ, List.toList_toArray]
              have kp6 := hcn.blk kp6 (by simp)
              clear hcn
              refine wpAnyH_ready (rs := [22]) (by kernel_rfl) (by simp) ?_
              refine consL rfl rfl (fun K hK => ?_) AllReadyH.nil
              have hsz := hHeld.2.2.2.2.1
              have hlt := kp6.lt
              refine wp_zeroAcc rfl ?_
              intro p5 wn hbp5 kp5 hcn
              refine hK.out _ _ ⟨hcn.blk hHeld.1 (by simp), hcn.blk hHeld.2.1 (by simp), hcn.blk hHeld.2.2.1 (by simp), hcn.blk hHeld.2.2.2.1 (by simp), Nat.le_trans hHeld.2.2.2.2.1 hcn.size, hHeld.2.2.2.2.2.trans (hcn.mono (by simp))⟩ (fun hHeld => ?_)
              clear hK K
              try simp only [Act.put, List.setIfInBounds_toArray, List.set_cons_zero, List.set_cons_succ, List.toList_toArray]
              have kp6 := hcn.blk kp6 (by simp)
              have gp5 : wc.heap.size ≤ p5 := by have := hbp5.out; have := hsz; omega
              have n56 : p5 ≠ p6 := by have := hbp5.out; have := hlt; omega
              clear hbp5 hsz hlt
              clear hcn
              refine wpAnyH_ready (rs := [24]) (by kernel_rfl) (by simp) ?_
              refine consL rfl rfl (fun K hK => ?_) AllReadyH.nil
              refine wp_store_mid 58 _ _ rfl p5 0 (W (x1 * y2)).toArray rfl rfl ((At.whole kp5).there _ (by rw [List.size_toArray, W_length, W_length])) (by rw [List.size_toArray, W_length]; exact info58) (Wd_one _) ?_
              have V0 := (At.setCells (W (x1 * y2)) _ _ _ _ (At.whole kp5) (by rw [W_length, W_length])).toBlk
              have V1 := Blk.setCells_ne p5 (W (x1 * y2)) 0 _ kp6 (by omega)
              have V2 := Nat.le_trans hHeld.2.2.2.2.1 (Chg.setCells p5 (by simp) (W (x1 * y2)) 0 _ (Chg.refl [p5] wn)).size
              have V3 := Chg.setCellsNew p5 (by omega) (W (x1 * y2)) 0 _ hHeld.2.2.2.2.2
              have U0 := Blk.setCells_ne p5 (W (x1 * y2)) 0 _ hHeld.1 (by omega)
              have U1 := Blk.setCells_ne p5 (W (x1 * y2)) 0 _ hHeld.2.1 (by omega)
              have U2 := Blk.setCells_ne p5 (W (x1 * y2)) 0 _ hHeld.2.2.1 (by omega)
              have U3 := Blk.setCells_ne p5 (W (x1 * y2)) 0 _ hHeld.2.2.2.1 (by omega)
              refine hK.out _ _ ⟨U0, U1, U2, U3, V2, V3⟩ (fun hHeld => ?_)
              clear hK K
              try simp only [Act.put, List.setIfInBounds_toArray, List.set_cons_zero, List.set_cons_succ, List.toList_toArray]
              generalize wn.setCells p5 0 (W (x1 * y2)) = wm at *
              clear kp5 kp6
              have kp5 := V0
              have kp6 := V1
              clear V0 V1 V2 V3 U0 U1 U2 U3
              refine wpAnyH_ready (rs := [25]) (by kernel_rfl) (by simp) ?_
              refine consL rfl rfl (fun K hK => ?_) AllReadyH.nil
              refine wp_store_mid 58 _ _ rfl p6 0 (W (x2 * y1)).toArray rfl rfl ((At.whole kp6).there _ (by rw [List.size_toArray, W_length, W_length])) (by rw [List.size_toArray, W_length]; exact info58) (Wd_one _) ?_
              have V0 := (At.setCells (W (x2 * y1)) _ _ _ _ (At.whole kp6) (by rw [W_length, W_length])).toBlk
              have V1 := Blk.setCells_ne p6 (W (x2 * y1)) 0 _ kp5 (by omega)
              have V2 := Nat.le_trans hHeld.2.2.2.2.1 (Chg.setCells p6 (by simp) (W (x2 * y1)) 0 _ (Chg.refl [p6] wm)).size
              have V3 := Chg.setCellsNew p6 (by omega) (W (x2 * y1)) 0 _ hHeld.2.2.2.2.2
              have U0 := Blk.setCells_ne p6 (W (x2 * y1)) 0 _ hHeld.1 (by omega)
              have U1 := Blk.setCells_ne p6 (W (x2 * y1)) 0 _ hHeld.2.1 (by omega)
              have U2 := Blk.setCells_ne p6 (W (x2 * y1)) 0 _ hHeld.2.2.1 (by omega)
              have U3 := Blk.setCells_ne p6 (W (x2 * y1)) 0 _ hHeld.2.2.2.1 (by omega)
              refine hK.out _ _ ⟨U0, U1, U2, U3, V2, V3⟩ (fun hHeld => ?_)
              clear hK K
              try simp only [Act.put, List.setIfInBounds_toArray, List.set_cons_zero, List.set_cons_succ, List.toList_toArray]
              generalize wm.setCells p6 0 (W (x2 * y1)) = wk at *
              clear kp6 kp5
              have kp6 := V0
              have kp5 := V1
              clear V0 V1 V2 V3 U0 U1 U2 U3
              refine wpAnyH_done (by kernel_rfl) ?_ _
              go_wp2_with fail
              go_meet
              exact ⟨p5, p6, rfl, rfl, n56, gp5, gp6, kp5, kp6, hHeld⟩
            refine consL rfl rfl (fun K hK => ?_) AllReadyH.nil
            have hsz := hHeld.2.2.2.2.1
            have hlt := kp6.lt
            refine wp_zeroAcc rfl ?_
            intro p5 wn hbp5 kp5 hcn
            refine hK.out _ _ ⟨hcn.blk hHeld.1 (by simp), hcn.blk hHeld.2.1 (by simp), hcn.blk hHeld.2.2.1 (by simp), hcn.blk hHeld.2.2.2.1 (by simp), Nat.le_trans hHeld.2.2.2.2.1 hcn.size, hHeld.2.2.2.2.2.trans (hcn.mono (by simp))⟩ (fun hHeld => ?_)
            clear hK K
            try simp only [Act.put, List.setIfInBounds_toArray, List.set_cons_zero, List.set_cons_succ, List.toList_toArray]
            have kp6 := hcn.blk kp6 (by simp)
            have gp5 : wc.heap.size ≤ p5 := by have := hbp5.out; have := hsz; omega
            have n56 : p5 ≠ p6 := by have := hbp5.out; have := hlt; omega
            clear hbp5 hsz hlt
            clear hcn
            refine wpAnyH_ready (rs := [21]) (by kernel_rfl) (by simp) ?_
            refine consL rfl rfl (fun K hK => ?_) AllReadyH.nil
            go_simp
            refine (HP4.out _).mono ?_
            rintro e wn ⟨rfl, hcn⟩
            refine hK.out _ _ ⟨hcn.blk hHeld.1 (by simp), hcn.blk hHeld.2.1 (by simp), hcn.blk hHeld.2.2.1 (by simp), hcn.blk hHeld.2.2.2.1 (by simp), Nat.le_trans hHeld.2.2.2.2.1 hcn.size, hHeld.2.2.2.2.2.trans (hcn.mono (by simp))⟩ (fun hHeld => ?_)
            clear hK K
            try simp only [Act.put, List.setIfInBounds_toArray, List.set_cons_zero, List.set_cons_succ, List.toList_toArray]
            have kp6 := hcn.blk kp6 (by simp)
            have kp5 := hcn.blk kp5 (by simp)
            clear hcn
            refine wpAnyH_ready (rs := [24]) (by kernel_rfl) (by simp) ?_
            refine consL rfl rfl (fun K hK => ?_) AllReadyH.nil
            refine wp_store_mid 58 _ _ rfl p5 0 (W (x1 * y2)).toArray rfl rfl ((At.whole kp5).there _ (by rw [List.size_toArray, W_length, W_length])) (by rw [List.size_toArray, W_length]; exact info58) (Wd_one _) ?_
            have V0 := (At.setCells (W (x1 * y2)) _ _ _ _ (At.whole kp5) (by rw [W_length, W_length])).toBlk
            have V1 := Blk.setCells_ne p5 (W (x1 * y2)) 0 _ kp6 (by omega)
            have V2 := Nat.le_trans hHeld.2.2.2.2.1 (Chg.setCells p5 (by simp) (W (x1 * y2)) 0 _ (Chg.refl [p5] wn)).size
            have V3 := Chg.setCellsNew p5 (by omega) (W (x1 * y2)) 0 _ hHeld.2.2.2.2.2
            have U0 := Blk.setCells_ne p5 (W (x1 * y2)) 0 _ hHeld.1 (by omega)
            have U1 := Blk.setCells_ne p5 (W (x1 * y2)) 0 _ hHeld.2.1 (by omega)
            have U2 := Blk.setCells_ne p5 (W (x1 * y2)) 0 _ hHeld.2.2.1 (by omega)
            have U3 := Blk.setCells_ne p5 (W (x1 * y2)) 0 _ hHeld.2.2.2.1 (by omega)
            refine hK.out _ _ ⟨U0, U1, U2, U3, V2, V3⟩ (fun hHeld => ?_)
            clear hK K
            try simp only [Act.put, List.setIfInBounds_toArray, List.set_cons_zero, List.set_cons_succ, List.toList_toArray]
            generalize wn.setCells p5 0 (W (x1 * y2)) = wm at *
            clear kp5 kp6
            have kp5 := V0
            have kp6 := V1
            clear V0 V1 V2 V3 U0 U1 U2 U3
            refine wpAnyH_ready (rs := [25]) (by kernel_rfl) (by simp) ?_
            refine consL rfl rfl (fun K hK => ?_) AllReadyH.nil
            refine wp_store_mid 58 _ _ rfl p6 0 (W (x2 * y1)).toArray rfl rfl ((At.whole kp6).there _ (by rw [List.size_toArray, W_length, W_length])) (by rw [List.size_toArray, W_length]; exact info58) (Wd_one _) ?_
            have V0 := (At.setCells (W (x2 * y1)) _ _ _ _ (At.whole kp6) (by rw [W_length, W_length])).toBlk
            have V1 := Blk.setCells_ne p6 (W (x2 * y1)) 0 _ kp5 (by omega)
            have V2 := Nat.le_trans hHeld.2.2.2.2.1 (Chg.setCells p6 (by simp) (W (x2 * y1)) 0 _ (Chg.refl [p6] wm)).size
            have V3 := Chg.setCellsNew p6 (by omega) (W (x2 * y1)) 0 _ hHeld.2.2.2.2.2
            have U0 := Blk.setCells_ne p6 (W (x2 * y1)) 0 _ hHeld.1 (by omega)
            have U1 := Blk.setCells_ne p6 (W (x2 * y1)) 0 _ hHeld.2.1 (by omega)
            have U2 := Blk.setCells_ne p6 (W (x2 * y1)) 0 _ hHeld.2.2.1 (by omega)
            have U3 := Blk.setCells_ne p6 (W (x2 * y1)) 0 _ hHeld.2.2.2.1 (by omega)
            refine hK.out _ _ ⟨U0, U1, U2, U3, V2, V3⟩ (fun hHeld => ?_)
            clear hK K
            try simp only [Act.put, List.setIfInBounds_toArray, List.set_cons_zero, List.set_cons_succ, List.toList_toArray]
            generalize wm.setCells p6 0 (W (x2 * y1)) = wk at *
            clear kp6 kp5
            have kp6 := V0
            have kp5 := V1
            clear V0 V1 V2 V3 U0 U1 U2 U3
            refine wpAnyH_done (by kernel_rfl) ?_ _
            go_wp2_with fail
            go_meet
            exact ⟨p5, p6, rfl, rfl, n56, gp5, gp6, kp5, kp6, hHeld⟩
          refine consL rfl rfl (fun K hK => ?_) AllReadyH.nil
          have hsz := hHeld.2.2.2.2.1
          have hlt := kp6.lt
          refine wp_zeroAcc rfl ?_
          intro p5 wn hbp5 kp5 hcn
          refine hK.out _ _ ⟨hcn.blk hHeld.1 (by simp), hcn.blk hHeld.2.1 (by simp), hcn.blk hHeld.2.2.1 (by simp), hcn.blk hHeld.2.2.2.1 (by simp), Nat.le_trans hHeld.2.2.2.2.1 hcn.size, hHeld.2.2.2.2.2.trans (hcn.mono (by simp))⟩ (fun hHeld => ?_)
          clear hK K
          try simp only [Act.put, List.setIfInBounds_toArray, List.set_cons_zero, List.set_cons_succ, List.toList_toArray]
          have kp6 := hcn.blk kp6 (by simp)
          have gp5 : wc.heap.size ≤ p5 := by have := hbp5.out; have := hsz; omega
          have n56 : p5 ≠ p6 := by have := hbp5.out; have := hlt; omega
          clear hbp5 hsz hlt
          clear hcn
          refine wpAnyH_ready (rs := [10]) (by kernel_rfl) (by simp) ?_
          refine consL rfl rfl (fun K hK => ?_) AllReadyH.nil
          go_simp
          refine (HP3.out _).mono ?_
          rintro e wn ⟨rfl, hcn⟩
          refine hK.out _ _ ⟨hcn.blk hHeld.1 (by simp), hcn.blk hHeld.2.1 (by simp), hcn.blk hHeld.2.2.1 (by simp), hcn.blk hHeld.2.2.2.1 (by simp), Nat.le_trans hHeld.2.2.2.2.1 hcn.size, hHeld.2.2.2.2.2.trans (hcn.mono (by simp))⟩ (fun hHeld => ?_)
          clear hK K
          try simp only [Act.put, List.setIfInBounds_toArray, List.set_cons_zero, List.set_cons_succ, List.toList_toArray]
          have kp6 := hcn.blk kp6 (by simp)
          have kp5 := hcn.blk kp5 (by simp)
          clear hcn
          refine wpAnyH_ready (rs := [21]) (by kernel_rfl) (by simp) ?_
          refine consL rfl rfl (fun K hK => ?_) AllReadyH.nil
          go_simp
          refine (HP4.out _).mono ?_
          rintro e wn ⟨rfl, hcn⟩
          refine hK.out _ _ ⟨hcn.blk hHeld.1 (by simp), hcn.blk hHeld.2.1 (by simp), hcn.blk hHeld.2.2.1 (by simp), hcn.blk hHeld.2.2.2.1 (by simp), Nat.le_trans hHeld.2.2.2.2.1 hcn.size, hHeld.2.2.2.2.2.trans (hcn.mono (by simp))⟩ (fun hHeld => ?_)
          clear hK K
          try simp only [Act.put, List.setIfInBounds_toArray, List.set_cons_zero, List.set_cons_succ, List.toList_toArray]
          have kp6 := hcn.blk kp6 (by simp)
          have kp5 := hcn.blk kp5 (by simp)
          clear hcn
          refine wpAnyH_ready (rs := [24]) (by kernel_rfl) (by simp) ?_
          refine consL rfl rfl (fun K hK => ?_) AllReadyH.nil
          refine wp_store_mid 58 _ _ rfl p5 0 (W (x1 * y2)).toArray rfl rfl ((At.whole kp5).there _ (by rw [List.size_toArray, W_length, W_length])) (by rw [List.size_toArray, W_length]; exact info58) (Wd_one _) ?_
          have V0 := (At.setCells (W (x1 * y2)) _ _ _ _ (At.whole kp5) (by rw [W_length, W_length])).toBlk
          have V1 := Blk.setCells_ne p5 (W (x1 * y2)) 0 _ kp6 (by omega)
          have V2 := Nat.le_trans hHeld.2.2.2.2.1 (Chg.setCells p5 (by simp) (W (x1 * y2)) 0 _ (Chg.refl [p5] wn)).size
          have V3 := Chg.setCellsNew p5 (by omega) (W (x1 * y2)) 0 _ hHeld.2.2.2.2.2
          have U0 := Blk.setCells_ne p5 (W (x1 * y2)) 0 _ hHeld.1 (by omega)
          have U1 := Blk.setCells_ne p5 (W (x1 * y2)) 0 _ hHeld.2.1 (by omega)
          have U2 := Blk.setCells_ne p5 (W (x1 * y2)) 0 _ hHeld.2.2.1 (by omega)
          have U3 := Blk.setCells_ne p5 (W (x1 * y2)) 0 _ hHeld.2.2.2.1 (by omega)
          refine hK.out _ _ ⟨U0, U1, U2, U3, V2, V3⟩ (fun hHeld => ?_)
          clear hK K
          try simp only [Act.put, List.setIfInBounds_toArray, List.set_cons_zero, List.set_cons_succ, List.toList_toArray]
          generalize wn.setCells p5 0 (W (x1 * y2)) = wm at *
          clear kp5 kp6
          have kp5 := V0
          have kp6 := V1
          clear V0 V1 V2 V3 U0 U1 U2 U3
          refine wpAnyH_ready (rs := [25]) (by kernel_rfl) (by simp) ?_
          refine consL rfl rfl (fun K hK => ?_) AllReadyH.nil
          refine wp_store_mid 58 _ _ rfl p6 0 (W (x2 * y1)).toArray rfl rfl ((At.whole kp6).there _ (by rw [List.size_toArray, W_length, W_length])) (by rw [List.size_toArray, W_length]; exact info58) (Wd_one _) ?_
          have V0 := (At.setCells (W (x2 * y1)) _ _ _ _ (At.whole kp6) (by rw [W_length, W_length])).toBlk
          have V1 := Blk.setCells_ne p6 (W (x2 * y1)) 0 _ kp5 (by omega)
          have V2 := Nat.le_trans hHeld.2.2.2.2.1 (Chg.setCells p6 (by simp) (W (x2 * y1)) 0 _ (Chg.refl [p6] wm)).size
          have V3 := Chg.setCellsNew p6 (by omega) (W (x2 * y1)) 0 _ hHeld.2.2.2.2.2
          have U0 := Blk.setCells_ne p6 (W (x2 * y1)) 0 _ hHeld.1 (by omega)
          have U1 := Blk.setCells_ne p6 (W (x2 * y1)) 0 _ hHeld.2.1 (by omega)
          have U2 := Blk.setCells_ne p6 (W (x2 * y1)) 0 _ hHeld.2.2.1 (by omega)
          have U3 := Blk.setCells_ne p6 (W (x2 * y1)) 0 _ hHeld.2.2.2.1 (by omega)
          refine hK.out _ _ ⟨U0, U1, U2, U3, V2, V3⟩ (fun hHeld => ?_)
          clear hK K
          try simp only [Act.put, List.setIfInBounds_toArray, List.set_cons_zero, List.set_cons_succ, List.toList_toArray]
          generalize wm.setCells p6 0 (W (x2 * y1)) = wk at *
          clear kp6 kp5
          have kp6 := V0
          have kp5 := V1
          clear V0 V1 V2 V3 U0 U1 U2 U3
          refine wpAnyH_done (by kernel_rfl) ?_ _
          go_wp2_with fail
          go_meet
          exact ⟨p5, p6, rfl, rfl, n56, gp5, gp6, kp5, kp6, hHeld⟩
        case rest =>
          clear hbr hb2r hcr k5 k6
          obtain ⟨c7, c8, rfl, rfl, n78, g7, g8, k7, k8, hbr, hb2r, k5, k6, sz2, hcr⟩ := hcut
          clear Lx1 Lx2 Ly1 Ly2 HP1 HP2 HP3 HP4
          go_wp2_with fail
          refine (Neg_any c6 0 58 [] [] (x2 * y2) _ (At.whole k6)).mono ?_
          rintro e w5 ⟨rfl, m6, hc5⟩
          have hbr := hc5.blk hbr (by simp; omega)
          have hb2r := hc5.blk hb2r (by simp; omega)
          have k5 := hc5.blk k5 (by simp; omega)
          have k7 := hc5.blk k7 (by simp; omega)
          have k8 := hc5.blk k8 (by simp; omega)
          have hcr := hcr.news hc5 (by simp; omega)
          clear hc5 k6
          go_wp2_with fail
          refine (Add_any c5 0 58 c6 0 58 [] [] [] [] (x1 * y1) (-(x2 * y2)) _ n56 (At.whole k5) m6).mono ?_
          rintro e w6 ⟨rfl, m5, hc6⟩
          have hbr := hc6.blk hbr (by simp; omega)
          have hb2r := hc6.blk hb2r (by simp; omega)
          have k7 := hc6.blk k7 (by simp; omega)
          have k8 := hc6.blk k8 (by simp; omega)
          have hcr := hcr.news hc6 (by simp; omega)
          clear hc6 k5 m6
          go_wp2_with fail
          refine (Add_any c7 0 58 c8 0 58 [] [] [] [] (x1 * y2) (x2 * y1) _ n78 (At.whole k7) (At.whole k8)).mono ?_
          rintro e w7 ⟨rfl, m7, hc7⟩
          have hbr := hc7.blk hbr (by simp; omega)
          have hb2r := hc7.blk hb2r (by simp; omega)
          have m5 := m5.chg hc7 (by simp; omega)
          have hcr := hcr.news hc7 (by simp; omega)
          clear hc7 k7 k8
          obtain ⟨z1, hz1⟩ : ∃ z, z = x1 * y1 + -(x2 * y2) := ⟨_, rfl⟩
          obtain ⟨z2, hz2⟩ : ∃ z, z = x1 * y2 + x2 * y1 := ⟨_, rfl⟩
          rw [← hz1] at m5
          rw [← hz2] at m7
          have HQ : Hid (pq (x1, x2) (y1, y2) = (z1, z2)) := by unfold Hid pq; rw [hz1, hz2]
          clear hz1 hz2
          go_wp2_with (first | (refine wpList_loadAcc (by rfl) (.tmp 5) (by rfl) c5 0 58 [] [] z1 (by rfl) m5 ?_) | (refine wpList_loadAcc (by rfl) (.tmp 7) (by rfl) c7 0 58 [] [] z2 (by rfl) m7 ?_) | (refine wpList_build119 (by rfl) (.tmp 64) (.tmp 65) (by rfl) z1 z2 (by rfl) (by rfl) ?_) | (refine wpList_storeCc (by rfl) (.tmp 67) (.tmp 66) (by rfl) (by rfl) b i 119 X (by have := HL.out; omega) (z1, z2) hbr (by rfl) (by rfl) ?_; intro w9 hb9 hc9))
          have hb2r := hc9.blk hb2r (by simpa using Ne.symm hne)
          have hcr := hcr.trans hc9
          have hF := HNX.out
          rw [HQ.out] at hF
          rw [hF] at hb9
          clear hF
          go_roundw
          case rel => exact ⟨i + 1, by go_num, by omega, hb9, hb2r, hcr⟩
          case measure => simp [intOf]; omega
    · have hie : i = n := by omega
      subst hie
      rw [etU_end _ _ _ (by have := HX.out; omega)] at hbr
      go_wp2_with fail
      go_end0
      exact ⟨rfl, hbr, hcr⟩
end Ex
end Go.Proofs.Ygctak
