/-
  Walks: mirror, exactStart, conjTable.
-/
import Derived.Test.YgctakHo9
import Derived.Test.YgctakFt9
namespace Go.Proofs.Ygctak
open Go.RowKit
set_option linter.unusedVariables false
set_option linter.unusedSimpArgs false
attribute [local go_sem ↓] Go.wp_at_zero Go.wp_at_succ
attribute [local go_sem] Fl.neg_run Fl.run_store_complex
namespace Ex
open Ac Fl Sh

theorem rev_next : ∀ (s i : Nat), Ft.rev (s + 1) i = 2 * Ft.rev s i + i / 2 ^ s % 2
  | 0, i => by simp [Ft.rev]
  | s + 1, i => by
    rw [Ft.rev, rev_next s (i / 2), Nat.div_div_eq_div_mul, ← Nat.pow_succ']
    show _ = 2 * (i % 2 * 2 ^ s + Ft.rev s (i / 2)) + _
    rw [Nat.mul_add, Nat.pow_succ]
    have : i % 2 * (2 ^ s * 2) = 2 * (i % 2 * 2 ^ s) := by rw [← Nat.mul_assoc, Nat.mul_comm]
    omega

theorem or_top (a q k : Nat) (hq : q < k) : a * 2 ^ (k - q) ||| 2 ^ (k - 1 - q) = a * 2 ^ (k - q) + 2 ^ (k - 1 - q) := by
  have := Nat.shiftLeft_add_eq_or_of_lt (b := 2 ^ (k - 1 - q)) (i := k - q) (Nat.pow_lt_pow_right (by omega) (by omega)) a
  rw [Nat.shiftLeft_eq] at this
  exact this.symm

set_option maxHeartbeats 1000000 in
theorem mirror_any (i k : Nat) (w : World) (hi : i < 1024) (hk : k ≤ 10) :
    Calls Takg.prog 74 #[.int .i64 i, .int .i64 k] w fun e w' => e = .returned (.int .i64 (Ft.rev k i : Nat)) ∧ w' = w := by
  go_enter Takg.func74, Takg.ntmps74
  go_wp2_with fail
  go_loop [5, 6] (fun v u => ∃ (r q : Nat), v = .int .i64 r ∧ u = .int .i64 q ∧ q ≤ k ∧ Hid (r = Ft.rev q i * 2 ^ (k - q)) ∧ r < 1024) (fun v u => k - (intOf u).toNat)
  case atStart => exact ⟨0, 0, rfl, rfl, by omega, by unfold Hid; simp [Ft.rev], by omega⟩
  case round =>
    obtain ⟨r, q, rfl, rfl, hq, HR, hr⟩ := hrel
    by_cases hql : q < k
    · have hsh : (i : Int) / 2 ^ q = ((i / 2 ^ q : Nat) : Int) := by rw [Int.natCast_ediv, ipow]
      have hdl : i / 2 ^ q ≤ i := Nat.div_le_self _ _
      have hnx := rev_next q i
      have hrl : Ft.rev (q + 1) i * 2 ^ (k - (q + 1)) < 1024 := by
        have h1 := Ft.rev_lt (q + 1) i
        have h2 : Ft.rev (q + 1) i * 2 ^ (k - (q + 1)) < 2 ^ (q + 1) * 2 ^ (k - (q + 1)) := Nat.mul_lt_mul_of_pos_right h1 (Nat.two_pow_pos _)
        rw [← Nat.pow_add, show q + 1 + (k - (q + 1)) = k by omega] at h2
        exact Nat.lt_of_lt_of_le h2 (Nat.le_trans (Nat.pow_le_pow_right (n := 2) (by omega) hk) (by decide))
      have hstep : (2 * Ft.rev q i) * 2 ^ (k - (q + 1)) = r := by
        rw [HR.out, show k - q = k - (q + 1) + 1 by omega, Nat.pow_succ, Nat.mul_comm 2, Nat.mul_assoc, Nat.mul_comm 2]
      obtain ⟨d, hd⟩ : ∃ d, d = i / 2 ^ q := ⟨_, rfl⟩
      rw [← hd] at hsh hdl hnx
      rw [hnx, Nat.add_mul, hstep] at hrl
      have ha : bits .and .i64 (d : Int) 1 = ((d % 2 : Nat) : Int) := by
        have := i64_and d 1 (by omega) (by omega)
        rw [Nat.and_one_is_mod] at this
        exact this
      have HNX := hide hnx
      have HST := hide hstep
      clear hnx hstep hd
      rcases Nat.mod_two_eq_zero_or_one d with h2 | h2
      · rw [h2] at ha hrl
        have H2 := hide h2
        clear h2
        go_wp2_with fail
        go_round
        case rel =>
          refine ⟨r, q + 1, rfl, by go_num, by omega, ?_, hr⟩
          unfold Hid
          rw [HNX.out, H2.out, Nat.add_zero, HST.out]
        case measure => simp [intOf]; omega
      · rw [h2] at ha hrl
        have H2 := hide h2
        clear h2
        obtain ⟨t, ht⟩ : ∃ t, t = 2 ^ (k - 1 - q) := ⟨_, rfl⟩
        have ht2 : t < 1024 := by
          rw [Nat.one_mul, show k - (q + 1) = k - 1 - q by omega, ← ht] at hrl
          omega
        have hrt : r + t < 1024 := by
          rw [Nat.one_mul, show k - (q + 1) = k - 1 - q by omega, ← ht] at hrl
          omega
        have hor : bits .or .i64 (r : Int) (t : Int) = ((r + t : Nat) : Int) := by
          rw [i64_or r t (by omega) (by omega), HR.out, ht, or_top _ _ _ hql]
        have hw : wrap64 (2 ^ (k - 1 - q)) = (t : Int) := by
          have h2 : (2 ^ (k - 1 - q) : Int) = ((2 ^ (k - 1 - q) : Nat) : Int) := (ipow _).symm
          rw [h2, ← ht]
          unfold wrap64
          omega
        have hkq : ((k : Int) - 1 - (q : Int)).toNat = k - 1 - q := by omega
        have HT := hide ht
        clear ht hrl
        go_wp2_with fail
        go_round
        case rel =>
          refine ⟨r + t, q + 1, by go_num, by go_num, by omega, ?_, ?_⟩
          · unfold Hid
            rw [HNX.out, H2.out, Nat.add_mul, HST.out, HT.out, Nat.one_mul, show k - (q + 1) = k - 1 - q by omega]
          · exact hrt
        case measure => simp [intOf]; omega
    · have hqe : q = k := by omega
      have hre : r = Ft.rev k i := by rw [HR.out, hqe, Nat.sub_self, Nat.pow_zero, Nat.mul_one]
      have HRE := hide hre
      clear hqe hre
      go_wp2_with fail
      go_ret
      exact ⟨by rw [HRE.out]; rfl, rfl⟩

/-- The digits as exact points, i of them laid. -/
def exU (ds : List Int) (k i : Nat) : List Q := (List.range (2 ^ k)).map fun j => if Ft.rev k j < i then (Ft.dg ds (Ft.rev k j), 0) else q0
def exS (ds : List Int) (k : Nat) : List Q := (List.range (2 ^ k)).map fun j => (Ft.dg ds (Ft.rev k j), 0)
theorem exU_length (ds : List Int) (k i : Nat) : (exU ds k i).length = 2 ^ k := by simp [exU]
theorem exS_length (ds : List Int) (k : Nat) : (exS ds k).length = 2 ^ k := by simp [exS]
theorem exU_get (ds : List Int) (k i j : Nat) (h : j < 2 ^ k) : (exU ds k i).getD j q0 = if Ft.rev k j < i then (Ft.dg ds (Ft.rev k j), 0) else q0 := by
  simp only [exU, List.getD_eq_getElem?_getD, List.getElem?_map, List.getElem?_range h, Option.map_some, Option.getD_some]
theorem exS_get (ds : List Int) (k j : Nat) (h : j < 2 ^ k) : (exS ds k).getD j q0 = (Ft.dg ds (Ft.rev k j), 0) := by
  simp only [exS, List.getD_eq_getElem?_getD, List.getElem?_map, List.getElem?_range h, Option.map_some, Option.getD_some]
theorem exU_zero (ds : List Int) (k : Nat) : exU ds k 0 = List.replicate (2 ^ k) q0 := qext (by rw [exU_length, List.length_replicate]) fun j hj => by
  rw [exU_length] at hj
  rw [exU_get _ _ _ _ hj, if_neg (by omega), List.getD_eq_getElem?_getD, List.getElem?_replicate]
  simp [hj]
theorem exU_end (ds : List Int) (k : Nat) : exU ds k ds.length = exS ds k := qext (by rw [exU_length, exS_length]) fun j hj => by
  rw [exU_length] at hj
  rw [exU_get _ _ _ _ hj, exS_get _ _ _ hj]
  split
  · rfl
  · rename_i h
    unfold Ft.dg
    rw [List.getD_eq_getElem?_getD, List.getElem?_eq_none (by omega)]
    rfl
theorem exU_here (ds : List Int) (k i : Nat) (hi : i < 2 ^ k) : (exU ds k i).getD (Ft.rev k i) q0 = q0 := by
  rw [exU_get _ _ _ _ (Ft.rev_lt k i), Ft.rev_rev k i hi, if_neg (by omega)]
theorem exU_next (ds : List Int) (k i : Nat) (hi : i < 2 ^ k) : (exU ds k i).set (Ft.rev k i) (Ft.dg ds i, 0) = exU ds k (i + 1) := qext (by rw [List.length_set, exU_length, exU_length]) fun j hj => by
  rw [List.length_set, exU_length] at hj
  rw [qget_set _ _ _ _ (by rw [exU_length]; exact hj), exU_get _ _ _ _ hj, exU_get _ _ _ _ hj]
  by_cases e : Ft.rev k i = j
  · subst e
    rw [if_pos rfl, Ft.rev_rev k i hi, if_pos (by omega)]
  · rw [if_neg e]
    have : Ft.rev k j ≠ i := fun h => e (by rw [← h, Ft.rev_rev k j hj])
    by_cases e2 : Ft.rev k j < i
    · rw [if_pos e2, if_pos (by omega)]
    · rw [if_neg e2, if_neg (by omega)]

theorem run_build58 {a : Act} {o : Oper} (x : Operand) (h : o.op = .build 58 #[(0, x)]) (n : Int) (w : World) (hx : a.eval x = .int .u64 n) (h0 : 0 ≤ n) (h1 : n ≤ 18446744073709551615) : (execOp a.eval o).run Takg.prog w = .ok (.value (.agg (W n).toArray)) w := by
  unfold execOp
  rw [h]
  have hb := build58 n w
  rw [← W_small n h0 h1] at hb
  simp only [List.map_toArray, List.map_cons, List.map_nil, hx, Sem.run_bind, hb, Result.andThen]
  rfl
theorem setRe {w : World} {b t : Nat} {x : List Q} (h : Blk w b t (Cs x)) (i : Nat) (hi : i < x.length) (e : Int) : Blk (w.setCells b (i * 136) (W e)) b t (Cs (x.set i (e, (x.getD i q0).2))) :=
  unre i hi (At.setCells (W e) _ _ _ _ (cre h i hi) (by rw [W_length, W_length]))

set_option maxRecDepth 100000 in
set_option maxHeartbeats 1000000 in
theorem exactStart_any (bd off cap k : Nat) (ds : List Int) (w : World) (hk : k ≤ 10) (hl : ds.length ≤ 2 ^ k) (hg : Dig w bd off ds) (hd : Digs 255 ds) :
    Calls Takg.prog 61 #[.slice (some ⟨bd, off, none⟩) ds.length cap, .int .i64 k] w fun e w' => ∃ bx, e = .returned (.slice (some ⟨bx, 0, none⟩) (2 ^ k) (2 ^ k)) ∧ Hid (bx = w.heap.size) ∧ Blk w' bx 119 (Cs (exS ds k)) ∧ Chg [] w w' := by
  have hn2 : 2 ^ k ≤ 1024 := Nat.le_trans (Nat.pow_le_pow_right (n := 2) (by omega) hk) (by decide)
  have hw := wrap64_pow k (by omega)
  obtain ⟨n, en⟩ : ∃ n, n = 2 ^ k := ⟨_, rfl⟩
  rw [← en] at hn2 hl hw
  rw [← en]
  have HEN := hide en
  clear en
  have hmk := fun W => make48 n hn2 W
  go_enter Takg.func61, Takg.ntmps61
  go_upto_region 2 with fail
  rw [hw]
  have hbn := Blk.new w (Cs (List.replicate n q0)) 119
  have hch := (Chg.refl [] w).alloc (.cells (Cs (List.replicate n q0)).toArray 119)
  have hg1 := hg.alloc (.cells (Cs (List.replicate n q0)).toArray 119)
  obtain ⟨bx, hbx⟩ : ∃ b, b = w.heap.size := ⟨_, rfl⟩
  rw [← hbx] at hbn ⊢
  have nbd : bd ≠ bx := by have := hg.lt; omega
  have gbx : w.heap.size ≤ bx := by omega
  have HBX := hide hbx
  clear hbx hmk hw hg
  generalize w.alloc (.cells (Cs (List.replicate n q0)).toArray 119) = w1 at *
  have e0 : List.replicate n q0 = exU ds k 0 := by rw [exU_zero, HEN.out]
  rw [e0] at hbn
  clear e0
  go_wp2_with fail
  go_loopw [6] (fun v wr => ∃ i : Nat, v = .int .i64 i ∧ i ≤ ds.length ∧ Dig wr bd off ds ∧ Blk wr bx 119 (Cs (exU ds k i)) ∧ Chg [] w wr) (fun v _ => ds.length - (intOf v).toNat)
  case atStart => exact ⟨0, rfl, by omega, hg1, hbn, hch⟩
  case round =>
    clear hg1 hbn hch
    obtain ⟨i, rfl, hi, hgr, hbr, hcr⟩ := hrel
    by_cases hil : i < ds.length
    · have hnext := exU_next ds k i (by rw [← HEN.out]; omega)
      have hhere := exU_here ds k i (by rw [← HEN.out]; omega)
      have HMI := hide (fun W => mirror_any i k W (by omega) hk)
      have hj := Ft.rev_lt k i
      rw [← HEN.out] at hj
      obtain ⟨j, ej⟩ : ∃ j, j = Ft.rev k i := ⟨_, rfl⟩
      rw [← ej] at hnext hhere hj HMI
      obtain ⟨v, ev⟩ : ∃ v, v = Ft.dg ds i := ⟨_, rfl⟩
      have hv := hd i hil
      have ev2 : ds.getD i 0 = v := ev.symm
      rw [ev2] at hv
      have EV := hide ev2
      clear ev2
      rw [← ev] at hnext
      obtain ⟨v0, v1⟩ := hv
      have hvw : IntKind.u64.wrap v = v := by rw [IntKind.wrap_u64]; omega
      obtain ⟨X, hX⟩ : ∃ X, X = exU ds k i := ⟨_, rfl⟩
      have HXL : Hid (X.length = n) := by unfold Hid; rw [hX, exU_length]; exact HEN.out.symm
      rw [← hX] at hbr hnext hhere
      have HNX : Hid (X.set j (v, (X.getD j q0).2) = exU ds k (i + 1)) := by unfold Hid; rw [hhere]; exact hnext
      clear hnext hhere ej ev hX
      go_upto_region 5 with fail
      refine wp_region_held_drew (S := fun w1 => Dig w1 bd off ds ∧ (∃ X' : List Q, X'.length = n ∧ Blk w1 bx 119 (Cs X')) ∧ Chg [] w w1) (by kernel_rfl) ⟨hgr.drew, ⟨X, HXL.out, hbr.drew⟩, hcr.drew⟩ (fun hHeld => ?_)
      refine takeL 0 (v := ?_) rfl (by kernel_rfl) (by kernel_rfl) (by kernel_rfl) (fun _ _ _ h => h) (by rfl) ?_ hHeld ?_
      rotate_left
      · (intro w1 hSw; have hcell := hSw.1.cell i hil; rw [EV.out] at hcell; go_simp; try with_reducible rfl)
      simp only [Act.put, List.setIfInBounds_toArray, List.set_cons_zero, List.set_cons_succ]
      refine takeL 1 (v := ?_) rfl (by kernel_rfl) (by kernel_rfl) (by kernel_rfl) (fun _ _ _ h => h) (by rfl) ?_ hHeld ?_
      rotate_left
      · (intro w1 hSw; have hcell := hSw.1.cell i hil; rw [EV.out] at hcell; go_simp; try with_reducible rfl)
      simp only [Act.put, List.setIfInBounds_toArray, List.set_cons_zero, List.set_cons_succ]
      refine takeL 2 (v := ?_) rfl (by kernel_rfl) (by kernel_rfl) (by kernel_rfl) (fun _ _ _ h => h) (by rfl) ?_ hHeld ?_
      rotate_left
      · (intro w1 hSw; have hcell := hSw.1.cell i hil; rw [EV.out] at hcell; go_simp; try with_reducible rfl)
      simp only [Act.put, List.setIfInBounds_toArray, List.set_cons_zero, List.set_cons_succ]
      refine takeL 4 (v := ?_) rfl (by kernel_rfl) (by kernel_rfl) (by kernel_rfl) (fun _ _ _ h => h) (by rfl) ?_ hHeld ?_
      rotate_left
      · (intro w1 hSw; have hcell := hSw.1.cell i hil; rw [EV.out] at hcell; go_simp; try with_reducible rfl)
      simp only [Act.put, List.setIfInBounds_toArray, List.set_cons_zero, List.set_cons_succ]
      refine takeL 5 (v := ?_) rfl (by kernel_rfl) (by kernel_rfl) (by kernel_rfl) (fun _ _ _ h => h) (by rfl) ?_ hHeld ?_
      rotate_left
      · (intro w1 hSw; have hcell := hSw.1.cell i hil; rw [EV.out] at hcell; go_simp; try with_reducible rfl)
      simp only [Act.put, List.setIfInBounds_toArray, List.set_cons_zero, List.set_cons_succ]
      refine takeL 6 (v := ?_) rfl (by kernel_rfl) (by kernel_rfl) (by kernel_rfl) (fun _ _ _ h => h) (by rfl) ?_ hHeld ?_
      rotate_left
      · (intro w1 hSw; have hcell := hSw.1.cell i hil; rw [EV.out] at hcell; go_simp; try with_reducible rfl)
      simp only [Act.put, List.setIfInBounds_toArray, List.set_cons_zero, List.set_cons_succ]
      refine takeL 7 (v := ?_) rfl (by kernel_rfl) (by kernel_rfl) (by kernel_rfl) (fun _ _ _ h => h) (by rfl) ?_ hHeld ?_
      rotate_left
      · (intro w1 hSw; have hcell := hSw.1.cell i hil; rw [EV.out] at hcell; go_simp; try with_reducible rfl)
      simp only [Act.put, List.setIfInBounds_toArray, List.set_cons_zero, List.set_cons_succ]
      refine takeL 8 (v := ?_) rfl (by kernel_rfl) (by kernel_rfl) (by kernel_rfl) (fun _ _ _ h => h) (by rfl) ?_ hHeld ?_
      rotate_left
      · (intro w1 hSw; have hcell := hSw.1.cell i hil; rw [EV.out] at hcell; go_simp; try with_reducible rfl)
      simp only [Act.put, List.setIfInBounds_toArray, List.set_cons_zero, List.set_cons_succ]
      refine takeL 9 rfl (by kernel_rfl) (by kernel_rfl) (by kernel_rfl) (fun _ _ _ h => h) (by rfl) (fun w1 hSw => run_build58 (.tmp 24) rfl v w1 rfl (by omega) (by omega)) hHeld ?_
      simp only [Act.put, List.setIfInBounds_toArray, List.set_cons_zero, List.set_cons_succ]
      refine wpAnyH_ready (rs := [3]) (by kernel_rfl) (by simp) ?_
      refine consL rfl rfl (fun K hK => ?_) AllReadyH.nil
      go_simp
      refine (HMI.out _).mono ?_
      rintro e w7 ⟨rfl, rfl⟩
      refine hK.out _ _ hHeld (fun hHeld => ?_)
      clear hK K
      try simp only [Act.put, List.setIfInBounds_toArray, List.set_cons_zero, List.set_cons_succ, List.toList_toArray]
      refine takeL 10 (v := ?_) rfl (by kernel_rfl) (by kernel_rfl) (by kernel_rfl) (fun _ _ _ h => h) (by rfl) ?_ hHeld ?_
      rotate_left
      · (intro w1 hSw; have hcell := hSw.1.cell i hil; rw [EV.out] at hcell; go_simp; try with_reducible rfl)
      simp only [Act.put, List.setIfInBounds_toArray, List.set_cons_zero, List.set_cons_succ]
      refine takeL 11 (v := ?_) rfl (by kernel_rfl) (by kernel_rfl) (by kernel_rfl) (fun _ _ _ h => h) (by rfl) ?_ hHeld ?_
      rotate_left
      · (intro w1 hSw; have hcell := hSw.1.cell i hil; rw [EV.out] at hcell; go_simp; try with_reducible rfl)
      simp only [Act.put, List.setIfInBounds_toArray, List.set_cons_zero, List.set_cons_succ]
      clear hHeld
      have q1 := cre hbr.drew j (by rw [HXL.out]; omega)
      have q2 := setRe hbr.drew j (by rw [HXL.out]; omega) v
      have V1 : Dig _ bd off ds := (Chg.setCells bx (by simp) (W v) (j * 136) _ (Chg.refl [bx] wr.drew)).dig hgr.drew (by simpa using nbd)
      have V2 := Chg.setCellsNew bx (by omega) (W v) (j * 136) _ hcr.drew
      rw [HNX.out] at q2
      refine wpAnyH_ready (rs := [12]) (by kernel_rfl) (by simp) ?_
      refine consL rfl rfl (fun K hK => ?_) AllReadyH.nil
      refine wp_store_mid 58 _ _ rfl bx (j * 136) (W v).toArray rfl rfl (q1.there _ (by rw [List.size_toArray, W_length, W_length])) (by rw [List.size_toArray, W_length]; exact info58) (Wd_one _) ?_
      refine hK.out _ _ ⟨V1, ⟨_, (by rw [exU_length]; exact HEN.out.symm), q2⟩, V2⟩ (fun hHeld => ?_)
      clear hK K hHeld q1
      try simp only [Act.put, List.setIfInBounds_toArray, List.set_cons_zero, List.set_cons_succ, List.toList_toArray]
      generalize wr.drew.setCells bx (j * 136) (W v) = w9 at *
      refine wpAnyH_done (by kernel_rfl) ?_ _
      go_wp2_with fail
      go_roundw
      case rel => exact ⟨i + 1, by go_num, by omega, V1, q2, V2⟩
      case measure => simp [intOf]; omega
    · have hie : i = ds.length := by omega
      subst hie
      rw [exU_end] at hbr
      go_wp2_with fail
      go_ret
      exact ⟨bx, rfl, HBX, hbr, hcr⟩
end Ex
end Go.Proofs.Ygctak
