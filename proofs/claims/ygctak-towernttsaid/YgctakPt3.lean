/-
  Walk: shadow.Stage.
-/
import Derived.Test.YgctakHeld
namespace Go.Proofs.Ygctak
open Go.RowKit
set_option linter.unusedVariables false
set_option linter.unusedSimpArgs false
attribute [local go_sem ↓] Go.wp_at_zero Go.wp_at_succ
attribute [local go_sem] Fl.run_store_complex Fl.run_store_float
namespace Sh
open Ac Fl

theorem wrap64_nat (n : Nat) (h : n ≤ 9223372036854775807) : wrap64 (n : Int) = n := by unfold wrap64; omega
theorem wrap64_pow (n : Nat) (h : n ≤ 62) : wrap64 (2 ^ n) = ((2 ^ n : Nat) : Int) := by
  have h1 : 2 ^ n ≤ 2 ^ 62 := Nat.pow_le_pow_right (n := 2) (by omega) h
  have h2 : (2 ^ n : Int) = ((2 ^ n : Nat) : Int) := (ipow _).symm
  rw [h2]
  exact wrap64_nat _ (by omega)

theorem W_cells (z : Int) : ∀ v ∈ W z, v.oneCell' = true := fun v hv => by
  unfold W Wd at hv
  rw [List.mem_map] at hv
  obtain ⟨j, _, rfl⟩ := hv
  rfl
theorem quiet_loadAcc {o : Oper} {a : Act} {D : World → Prop} {K : Act → Prop} (x : Operand) (ho : o.op = .load 58 x) (b1 p1 : Nat) (z : Int) (hx : a.eval x = .pointer (some ⟨b1, p1, none⟩)) (hD : ∀ w, D w → w.rangeAt b1 p1 (W z))
    (hk : K (a.put o.dst (.agg (W z).toArray))) : o.quiet Takg.prog a D K :=
  ⟨_, fun w hw => by
    unfold Oper.quietAt execOp
    simp only [ho, hx, Instr.loadAt, Instr.sureAddr, Sem.run_bind, Sem.run_pure, Result.andThen_ok, run_loadVar_mid w b1 p1 58 (W z) _ (hD w hw) Takg.underlying58 (by rfl) (by rw [W_length]; exact info58)]
    exact ⟨rfl, rfl⟩, hk⟩
theorem guard58 (x y : Operand) (a b : Array Value) (w : World) : (eqGuard .neq 58 x y (.agg a) (.agg b)).run Takg.prog w = .ok () w := by kernel_rfl
theorem guard58e (x y : Operand) (a b : Array Value) (w : World) : (eqGuard .eql 58 x y (.agg a) (.agg b)).run Takg.prog w = .ok () w := by kernel_rfl
theorem quiet_neqAcc {o : Oper} {a : Act} {D : World → Prop} {K : Act → Prop} (x y : Operand) (ho : o.op = .binOp .neq 58 x y 58) (p q : Int) (r : Bool) (hx : a.eval x = .agg (W p).toArray) (hy : a.eval y = .agg (W q).toArray)
    (hr : ∀ w, (Op.equalIn 10000 58 (.agg (W p).toArray) (.agg (W q).toArray)).run Takg.prog w = .ok r w)
    (hk : K (a.put o.dst (.bool (!r)))) : o.quiet Takg.prog a D K :=
  ⟨_, fun w hw => by
    unfold Oper.quietAt execOp
    simp only [ho, hx, hy]
    rw [Sem.run_bind, Sem.run_bind, guard58]
    simp only [Result.andThen_ok]
    rw [run_neq_struct, hr]
    exact ⟨rfl, rfl⟩, hk⟩

set_option maxRecDepth 100000 in
set_option maxHeartbeats 8000000 in
theorem Stage_any (b bt tb k t m E F : Nat) (x : List P) (T : List (Nat × Nat)) (w : World) (hk : k ≤ 10) (ht1 : 1 ≤ t) (htk : t ≤ k) (hm : m ≤ 18446744073709551615)
    (hn : x.length = 2 ^ k) (hT : T.length = 2 ^ (k - 1)) (hb : Blk w b tb (Pts x)) (hbt : Blk w bt 103 (C T)) (hx : AllP E 150 x) (hTf : AllC F T) (hE : E + F + 2 ≤ 1023) (hne : b ≠ bt) :
    Calls Takg.prog 63 #[.slice (some ⟨b, 0, none⟩) (2 ^ k) (2 ^ k), .slice (some ⟨bt, 0, none⟩) (2 ^ (k - 1)) (2 ^ (k - 1)), .int .u8 t, .int .u64 m] w fun e w' =>
      e = .returned (.tuple #[]) ∧ Blk w' b tb (Pts (stg x T (2 ^ (t - 1)) (2 ^ (k - t)) ((m : Int) * 2 ^ 32 + 1))) ∧ Chg [b] w w' := by
  have hlev := fun W => level_any k W (by omega)
  have hunits := fun W => units_any (m : Int) 32 W (by omega) (by omega) (by omega)
  have hn2 : 2 ^ k ≤ 1024 := Nat.pow_le_pow_right (n := 2) (by omega) hk
  have hnn : 2 ^ k = 2 * 2 ^ (k - 1) := by rw [← Nat.pow_succ']; congr 1; omega
  have hhalf : 2 ^ k = 2 ^ (k - t) * (2 * 2 ^ (t - 1)) := by rw [← Nat.pow_succ', ← Nat.pow_add]; congr 1; omega
  have w1 := wrap64_pow (t - 1) (by omega)
  have w2 := wrap64_pow (k - t) (by omega)
  have p1 : 0 < 2 ^ (t - 1) := Nat.pos_of_ne_zero (by simp)
  have p2 : 0 < 2 ^ (k - t) := Nat.pos_of_ne_zero (by simp)
  obtain ⟨n, en⟩ : ∃ n, n = 2 ^ k := ⟨_, rfl⟩
  obtain ⟨h, eh⟩ : ∃ h, h = 2 ^ (k - 1) := ⟨_, rfl⟩
  obtain ⟨half, ef⟩ : ∃ h, h = 2 ^ (t - 1) := ⟨_, rfl⟩
  obtain ⟨step, es⟩ : ∃ h, h = 2 ^ (k - t) := ⟨_, rfl⟩
  obtain ⟨own, eo⟩ : ∃ h, h = ((m : Int) * 2 ^ 32 + 1) := ⟨_, rfl⟩
  rw [← en, ← eh] at hnn
  rw [← en, ← ef, ← es] at hhalf
  rw [← ef] at w1 p1
  rw [← es] at w2 p2
  rw [← en] at hn2 hn hlev
  rw [← eh] at hT
  rw [← eo] at hunits
  rw [← en, ← eh, ← ef, ← es, ← eo]
  have HL := hide hlev
  have HU := hide hunits
  have HNN := hide hnn
  have HHALF := hide hhalf
  have HN := hide hn
  have HT := hide hT
  have HW1 := hide w1
  have HW2 := hide w2
  clear hlev hunits hnn hhalf hn hT w1 w2 en eh ef es eo
  have hn3 : n ≤ 2 * h := by have := HNN.out; omega
  have hn4 : 2 * h ≤ n := by have := HNN.out; omega
  go_enter Takg.func63, Takg.ntmps63
  go_upto_region 2 with (refine (HL.out _).mono ?_; rintro e w' ⟨rfl, rfl⟩)
  go_cut [9, 10] (fun x y wc => x = .int .i64 half ∧ y = .int .i64 step ∧ Chg [] w' wc)
  case first =>
    have q1 : IntKind.u8.wrap ((t : Int) - 1) = (t : Int) - 1 := by rw [IntKind.wrap_u8]; omega
    have q2 : IntKind.i64.wrap ((k : Int) - (t : Int)) = (k : Int) - (t : Int) := by rw [IntKind.wrap_i64]; omega
    go_region
    go_wp2_with fail
    go_meet
    refine ⟨?_, ?_, (Chg.refl [] _).drew⟩
    · rw [HW1.out]
    · rw [HW2.out]
  case rest =>
    rename_i y1 y2 y3 y4 y5 y6
    clear y1 y2 y3 y4
    obtain ⟨rfl, rfl, hc0⟩ := hcut
    have hb0 := hc0.blk hb (by simp)
    have hbt0 := hc0.blk hbt (by simp)
    have hbl := hb.lt
    have hs0 := hc0.size
    clear hb hbt
    go_upto_region 3 with fail
    go_wp2_with (first | (refine (HU.out _).mono ?_; rintro e' w3 ⟨rfl, hc3⟩) | (refine wpList_newAcc (by rfl) (by rfl) (by rfl) _ _ (by rfl) own (by rfl) (fun _ => by rfl) (fun _ => by rfl) ?_; intro bo w4 hbo hko hc4))
    have hb4 := hc4.blk (hc3.blk hb0 (by simp)) (by simp)
    have hbt4 := hc4.blk (hc3.blk hbt0 (by simp)) (by simp)
    have hs3 := hc3.size
    have hs4 := hc4.size
    have gbo : w'.heap.size ≤ bo := by have := hbo.out; omega
    have n1 : b ≠ bo := by omega
    have hc14 : Chg [b] w' w4 := ((hc0.trans hc3).trans hc4).mono (by simp)
    rw [← stL_start x T half step own] at hb4
    clear hb0 hbt0 hc3 hc4 hc0 hbo hs0 hs3
    go_loopw [12] (fun v wr => ∃ j : Nat, v = .int .i64 j ∧ j ≤ half ∧ Blk wr b tb (Pts (stL x T half step own j j)) ∧ Blk wr bt 103 (C T) ∧ Blk wr bo 58 (W own) ∧ w4.heap.size ≤ wr.heap.size ∧ Chg [b] w' wr) (fun v _ => half - (intOf v).toNat)
    case atStart => exact ⟨0, rfl, by omega, hb4, hbt4, hko, Nat.le_refl _, hc14⟩
    case round =>
      clear hb4 hbt4 hko hc14
      obtain ⟨j, rfl, hj, hbr, hbtr, hbor, hsr, hcr⟩ := hrel
      by_cases hjl : j < half
      · have hhs : half * step = h := by
          have h1 := HNN.out; have h2 := HHALF.out
          have h3 : step * (2 * half) = 2 * (half * step) := by rw [Nat.mul_comm half, ← Nat.mul_assoc, Nat.mul_comm step 2, Nat.mul_assoc]
          omega
        have hjs : j * step < h := by
          have := Nat.mul_le_mul_right step (show j + 1 ≤ half by omega)
          rw [Nat.add_mul, hhs] at this; omega
        have hI0 : (0 : Int) ≤ (j : Int) * (step : Int) := by rw [← Int.natCast_mul]; omega
        have hI1 : (j : Int) * (step : Int) < (h : Int) := by rw [← Int.natCast_mul]; omega
        obtain ⟨r, hr⟩ : ∃ r, r = T.getD (j * step) (0, 0) := ⟨_, rfl⟩
        have hTh := HT.out
        have kr : wr.cell? ⟨bt, j * step, none⟩ = some (.complex .f64 r.1 r.2) := by rw [hr]; exact hbtr.cell _ _ (C_get _ _ (by omega))
        have hrf : Fc F r := by rw [hr]; exact hTf.get _ (by omega)
        have HR := hide hr
        have hhn : half ≤ n := by
          have h2 := HHALF.out
          have := Nat.le_mul_of_pos_left (2 * half) p2
          omega
        clear hhs hr hTh
        go_upto_region 8 with fail
        clear kr hI0 hI1
        apply wp_region_lit
        refine wpList_zeroAcc (by rfl) (by rfl) ?_
        intro bu wu hbu hku hcu
        refine wpList_zeroAcc (by rfl) (by rfl) ?_
        intro bv wv hbv hkv hcv
        refine wpList_zeroAcc (by rfl) (by rfl) ?_
        intro be we hbe hke hce
        have su := hcu.size
        have sv := hcv.size
        have se := hce.size
        have lu := hku.lt
        have lv := hkv.lt
        have le := hke.lt
        have lb := hbr.lt
        have lbt := hbtr.lt
        have lbo := hbor.lt
        have hbx := hce.blk (hcv.blk (hcu.blk hbr (by simp)) (by simp)) (by simp)
        have hbtx := hce.blk (hcv.blk (hcu.blk hbtr (by simp)) (by simp)) (by simp)
        have hbox := hce.blk (hcv.blk (hcu.blk hbor (by simp)) (by simp)) (by simp)
        have hkux := hce.blk (hcv.blk hku (by simp)) (by simp)
        have hkvx := hce.blk hkv (by simp)
        have gu : wr.heap.size ≤ bu := by have := hbu.out; omega
        have gv : wr.heap.size ≤ bv := by have := hbv.out; omega
        have ge : wr.heap.size ≤ be := by have := hbe.out; omega
        have nuv : bu ≠ bv := by have := hbv.out; omega
        have nue : bu ≠ be := by have := hbe.out; omega
        have nve : bv ≠ be := by have := hbe.out; omega
        have hcx : Chg [b] w' we := hcr.trans (((hcu.trans hcv).trans hce).mono (by simp))
        have hszx : w4.heap.size ≤ we.heap.size := by omega
        have gw : w'.heap.size ≤ wr.heap.size := hcr.size
        clear hbr hbtr hbor hku hkv hcu hcv hce hcr hbu hbv hbe su sv se hsr
        go_wp2_with fail
        have hbx2 : Blk we b tb (Pts (stL x T half step own j (0 * (2 * half) + j))) := by rw [Nat.zero_mul, Nat.zero_add]; exact hbx
        go_loopw [17] (fun val wr => ∃ (c s : Nat) (u v e : Int), val = .int .i64 s ∧ Hid (s = c * (2 * half) + j) ∧ c ≤ step ∧ Blk wr b tb (Pts (stL x T half step own j s)) ∧ Blk wr bt 103 (C T) ∧ Blk wr bo 58 (W own) ∧
          Blk wr bu 58 (W u) ∧ Blk wr bv 58 (W v) ∧ Blk wr be 58 (W e) ∧ Hid (c ≠ 0 → e = joi u v (pla r) own) ∧ (0 ≤ u ∧ u ≤ 2 ^ 150) ∧ (0 ≤ v ∧ v ≤ 2 ^ 150) ∧ w4.heap.size ≤ wr.heap.size ∧ Chg [b] w' wr) (fun val _ => n - (intOf val).toNat)
        case atStart => exact ⟨0, j, 0, 0, 0, rfl, by unfold Hid; omega, by omega, hbx, hbtx, hbox, hkux, hkvx, hke, fun h => absurd rfl h, ⟨by omega, by decide⟩, ⟨by omega, by decide⟩, hszx, hcx⟩
        case round =>
          clear hbx hbx2 hbtx hbox hkux hkvx hke hcx hszx
          obtain ⟨c, s, u, v, e, rfl, HS, hcs, hbr, hbtr, hbor, hkur, hkvr, hker, HE, ⟨u0, u1⟩, ⟨v0, v1⟩, hsr, hcr⟩ := hrel
          by_cases hclt : c < step
          · have hsn : s + half < n := by
              have h1 := HS.out; have h2 := HHALF.out
              have h3 := Nat.mul_le_mul_right (2 * half) (show c + 1 ≤ step by omega)
              rw [Nat.add_mul] at h3
              omega
            have hxl := HN.out
            have hhere := stL_here x T half step own j c hjl (by have := HS.out; omega)
            rw [← HS.out] at hhere
            obtain ⟨g1, g2⟩ := hhere
            obtain ⟨pp, hpp⟩ : ∃ pp, pp = x.getD s p0 := ⟨_, rfl⟩
            obtain ⟨pq, hpq⟩ : ∃ pp, pp = x.getD (s + half) p0 := ⟨_, rfl⟩
            have ap := hx s (by omega)
            have aq := hx (s + half) (by omega)
            rw [← hpp] at g1 ap
            rw [← hpq] at g2 aq
            have HP := hide hpp
            have HQ := hide hpq
            have HG1 := hide g1
            have HG2 := hide g2
            clear hpp hpq g1 g2 hxl
            obtain ⟨ap1, ap2, ap3⟩ := ap
            obtain ⟨aq1, aq2, aq3⟩ := aq
            go_upto_region 12 with fail
            go_cut [18, 19] (fun px py wc => px = .pointer (some ⟨b, s * 69, none⟩) ∧ py = .pointer (some ⟨b, (s + half) * 69, none⟩) ∧ Blk wc b tb (Pts (stL x T half step own j s)) ∧ Blk wc bt 103 (C T) ∧ Blk wc bo 58 (W own) ∧
              Blk wc bu 58 (W u) ∧ Blk wc bv 58 (W v) ∧ Blk wc be 58 (W e) ∧ w4.heap.size ≤ wc.heap.size ∧ Chg [b] w' wc)
            case first =>
              have q1 : IntKind.i64.wrap ((s : Int) + (half : Int)) = (s : Int) + (half : Int) := by rw [IntKind.wrap_i64]; omega
              go_region
              go_wp2_with fail
              go_meet
              exact ⟨rfl, rfl, hbr.drew, hbtr.drew, hbor.drew, hkur.drew, hkvr.drew, hker.drew, hsr, hcr.drew⟩
            case rest =>
              clear hbr hbtr hbor hkur hkvr hker hsr hcr
              obtain ⟨rfl, rfl, hbr, hbtr, hbor, hkur, hkvr, hker, hsr, hcr⟩ := hcut
              go_upto_if 101 with fail
              have hpe := ptE hbr s (by rw [stL_length]; have := HN.out; omega)
              have hqe := ptE hbr (s + half) (by rw [stL_length]; have := HN.out; omega)
              rw [HG1.out] at hpe
              rw [HG2.out] at hqe
              have fit : ∀ z : Int, 0 ≤ z → z ≤ 2 ^ 150 → Fits z := fun z z0 z1 => by
                have hb := half_big
                have e1 : (2 : Int) ^ 150 < 2 ^ 200 := by decide
                exact ⟨by omega, by omega⟩
              have fu := fit u u0 u1
              have fv := fit v v0 v1
              have fp := fit _ ap2 ap3
              have fq := fit _ aq2 aq3
              have hsj : Hid (s = j ↔ c = 0) := by
                have h1 := HS.out
                constructor
                · intro h2
                  have : c * (2 * half) = 0 := by omega
                  rcases Nat.mul_eq_zero.1 this with h | h
                  · exact h
                  · omega
                · intro h2; rw [h2] at h1; omega
              go_cut [101] (fun val wc2 => ∃ cb : Bool, val = .bool cb ∧ (cb = false → c ≠ 0 ∧ pp.2 = u ∧ pq.2 = v) ∧ ∃ n, wc2 = wc.drewN n)
              case first =>
                have L1 : ∀ w1, (∃ n, w1 = wc.drewN n) → w1.rangeAt b (s * 69 + 1) (W pp.2) := fun w1 ⟨n, e⟩ => by rw [e]; exact At.rangeAt ⟨hpe.off, hpe.blk⟩
                have L2 : ∀ w1, (∃ n, w1 = wc.drewN n) → w1.rangeAt b ((s + half) * 69 + 1) (W pq.2) := fun w1 ⟨n, e⟩ => by rw [e]; exact At.rangeAt ⟨hqe.off, hqe.blk⟩
                have L3 : ∀ w1, (∃ n, w1 = wc.drewN n) → w1.rangeAt bu 0 (W u) := fun w1 ⟨n, e⟩ => by rw [e]; exact (At.whole (hkur.drewN n)).rangeAt
                have L4 : ∀ w1, (∃ n, w1 = wc.drewN n) → w1.rangeAt bv 0 (W v) := fun w1 ⟨n, e⟩ => by rw [e]; exact (At.whole (hkvr.drewN n)).rangeAt
                have M1 := hide L1
                have M2 := hide L2
                have M3 := hide L3
                have M4 := hide L4
                clear L1 L2 L3 L4
                have Q1 := fun w => acc_eq pp.2 u fp fu w
                have Q2 := fun w => acc_eq pq.2 v fq fv w
                by_cases hc0 : c = 0
                · have heq : ((s : Int) == (j : Int)) = true := by rw [beq_iff_eq]; have := hsj.out.2 hc0; omega
                  clear M1 M2 M3 M4 Q1 Q2
                  go_quiet (fail)
                  go_wp2_with fail
                  go_meet
                  exact ⟨true, rfl, fun h => (by cases h), _, rfl⟩
                · have heq : ((s : Int) == (j : Int)) = false := by
                    rw [beq_eq_false_iff_ne]
                    intro h
                    exact hc0 (hsj.out.1 (by omega))
                  by_cases e1 : pp.2 = u
                  · rw [decide_eq_true e1] at Q1
                    by_cases e2 : pq.2 = v
                    · rw [decide_eq_true e2] at Q2
                      have HE1 := hide e1
                      have HE2 := hide e2
                      have QQ1 := hide Q1
                      have QQ2 := hide Q2
                      clear e1 e2 Q1 Q2
                      refine wp_region_quiet_lit (by kernel_rfl) (by kernel_rfl) ?_
                      repeat (first
                        | go_big_quiet_skip
                        | (go_big_quiet_want; first
                            | (refine quiet_loadAcc (.tmp 89) (by rfl) b (s * 69 + 1) pp.2 (by rfl) M1.out ?_; go_big_quiet_on; simp only [Act.put, List.setIfInBounds_toArray, List.set_cons_zero, List.set_cons_succ])
                            | (refine quiet_loadAcc (.tmp 14) (by rfl) bu 0 u (by rfl) M3.out ?_; go_big_quiet_on; simp only [Act.put, List.setIfInBounds_toArray, List.set_cons_zero, List.set_cons_succ])
                            | (refine quiet_loadAcc (.tmp 97) (by rfl) b ((s + half) * 69 + 1) pq.2 (by rfl) M2.out ?_; go_big_quiet_on; simp only [Act.put, List.setIfInBounds_toArray, List.set_cons_zero, List.set_cons_succ])
                            | (refine quiet_loadAcc (.tmp 15) (by rfl) bv 0 v (by rfl) M4.out ?_; go_big_quiet_on; simp only [Act.put, List.setIfInBounds_toArray, List.set_cons_zero, List.set_cons_succ])
                            | (refine quiet_neqAcc (.tmp 90) (.tmp 91) (by rfl) pp.2 u true (by rfl) (by rfl) QQ1.out ?_; go_big_quiet_on; simp only [Act.put, List.setIfInBounds_toArray, List.set_cons_zero, List.set_cons_succ])
                            | (refine quiet_neqAcc (.tmp 98) (.tmp 99) (by rfl) pq.2 v true (by rfl) (by rfl) QQ2.out ?_; go_big_quiet_on; simp only [Act.put, List.setIfInBounds_toArray, List.set_cons_zero, List.set_cons_succ])
                            | (go_big_quiet_op; go_big_quiet_on)))
                      refine wpQuiet_nil ?_
                      intro _ hw'
                      obtain ⟨nq, hw''⟩ := hw'
                      subst hw''
                      go_wp2_with fail
                      go_meet
                      exact ⟨false, rfl, fun h => ⟨hc0, HE1.out, HE2.out⟩, _, rfl⟩
                    · rw [decide_eq_false e2] at Q2
                      have HE1 := hide e1
                      have QQ1 := hide Q1
                      have QQ2 := hide Q2
                      clear e1 e2 Q1 Q2
                      refine wp_region_quiet_lit (by kernel_rfl) (by kernel_rfl) ?_
                      repeat (first
                        | go_big_quiet_skip
                        | (go_big_quiet_want; first
                            | (refine quiet_loadAcc (.tmp 89) (by rfl) b (s * 69 + 1) pp.2 (by rfl) M1.out ?_; go_big_quiet_on; simp only [Act.put, List.setIfInBounds_toArray, List.set_cons_zero, List.set_cons_succ])
                            | (refine quiet_loadAcc (.tmp 14) (by rfl) bu 0 u (by rfl) M3.out ?_; go_big_quiet_on; simp only [Act.put, List.setIfInBounds_toArray, List.set_cons_zero, List.set_cons_succ])
                            | (refine quiet_loadAcc (.tmp 97) (by rfl) b ((s + half) * 69 + 1) pq.2 (by rfl) M2.out ?_; go_big_quiet_on; simp only [Act.put, List.setIfInBounds_toArray, List.set_cons_zero, List.set_cons_succ])
                            | (refine quiet_loadAcc (.tmp 15) (by rfl) bv 0 v (by rfl) M4.out ?_; go_big_quiet_on; simp only [Act.put, List.setIfInBounds_toArray, List.set_cons_zero, List.set_cons_succ])
                            | (refine quiet_neqAcc (.tmp 90) (.tmp 91) (by rfl) pp.2 u true (by rfl) (by rfl) QQ1.out ?_; go_big_quiet_on; simp only [Act.put, List.setIfInBounds_toArray, List.set_cons_zero, List.set_cons_succ])
                            | (refine quiet_neqAcc (.tmp 98) (.tmp 99) (by rfl) pq.2 v false (by rfl) (by rfl) QQ2.out ?_; go_big_quiet_on; simp only [Act.put, List.setIfInBounds_toArray, List.set_cons_zero, List.set_cons_succ])
                            | (go_big_quiet_op; go_big_quiet_on)))
                      refine wpQuiet_nil ?_
                      intro _ hw'
                      obtain ⟨nq, hw''⟩ := hw'
                      subst hw''
                      go_wp2_with fail
                      go_meet
                      exact ⟨true, rfl, fun h => (by cases h), _, rfl⟩
                  · rw [decide_eq_false e1] at Q1
                    have QQ1 := hide Q1
                    have QQ2 := hide Q2
                    clear e1 Q1 Q2
                    refine wp_region_quiet_lit (by kernel_rfl) (by kernel_rfl) ?_
                    repeat (first
                      | go_big_quiet_skip
                      | (go_big_quiet_want; first
                          | (refine quiet_loadAcc (.tmp 89) (by rfl) b (s * 69 + 1) pp.2 (by rfl) M1.out ?_; go_big_quiet_on; simp only [Act.put, List.setIfInBounds_toArray, List.set_cons_zero, List.set_cons_succ])
                          | (refine quiet_loadAcc (.tmp 14) (by rfl) bu 0 u (by rfl) M3.out ?_; go_big_quiet_on; simp only [Act.put, List.setIfInBounds_toArray, List.set_cons_zero, List.set_cons_succ])
                          | (refine quiet_loadAcc (.tmp 97) (by rfl) b ((s + half) * 69 + 1) pq.2 (by rfl) M2.out ?_; go_big_quiet_on; simp only [Act.put, List.setIfInBounds_toArray, List.set_cons_zero, List.set_cons_succ])
                          | (refine quiet_loadAcc (.tmp 15) (by rfl) bv 0 v (by rfl) M4.out ?_; go_big_quiet_on; simp only [Act.put, List.setIfInBounds_toArray, List.set_cons_zero, List.set_cons_succ])
                          | (refine quiet_neqAcc (.tmp 90) (.tmp 91) (by rfl) pp.2 u false (by rfl) (by rfl) QQ1.out ?_; go_big_quiet_on; simp only [Act.put, List.setIfInBounds_toArray, List.set_cons_zero, List.set_cons_succ])
                          | (refine quiet_neqAcc (.tmp 98) (.tmp 99) (by rfl) pq.2 v false (by rfl) (by rfl) QQ2.out ?_; go_big_quiet_on; simp only [Act.put, List.setIfInBounds_toArray, List.set_cons_zero, List.set_cons_succ])
                          | (go_big_quiet_op; go_big_quiet_on)))
                    refine wpQuiet_nil ?_
                    intro _ hw'
                    obtain ⟨nq, hw''⟩ := hw'
                    subst hw''
                    go_wp2_with fail
                    go_meet
                    exact ⟨true, rfl, fun h => (by cases h), _, rfl⟩
              case rest =>
                obtain ⟨cb, rfl, hcb, nq, rfl⟩ := hcut
                have hbr := hbr.drewN nq
                have hbtr := hbtr.drewN nq
                have hbor := hbor.drewN nq
                have hkur := hkur.drewN nq
                have hkvr := hkvr.drewN nq
                have hker := hker.drewN nq
                have hcr := hcr.drewN nq
                have hsr : w4.heap.size ≤ (wc.drewN nq).heap.size := hsr
                have hpe : At (wc.drewN nq) b (s * 69 + 1) tb _ (W pp.2) _ := ⟨hpe.off, hpe.blk⟩
                have hqe : At (wc.drewN nq) b ((s + half) * 69 + 1) tb _ (W pq.2) _ := ⟨hqe.off, hqe.blk⟩
                generalize wc.drewN nq = wd at *
                go_upto_if 101 with fail
                go_cut [] (fun wc => Blk wc b tb (Pts (stL x T half step own j s)) ∧ Blk wc bt 103 (C T) ∧ Blk wc bo 58 (W own) ∧ Blk wc bu 58 (W pp.2) ∧ Blk wc bv 58 (W pq.2) ∧ Blk wc be 58 (W (joi pp.2 pq.2 (pla r) own)) ∧ w4.heap.size ≤ wc.heap.size ∧ Chg [b] w' wc)
                case first =>
                  cases cb with
                  | false =>
                    obtain ⟨d1, d2, d3⟩ := hcb rfl
                    have d4 := HE.out d1
                    rw [d4] at hker
                    rw [← d2, ← d3] at hker
                    rw [← d2] at hkur
                    rw [← d3] at hkvr
                    clear d2 d3 d4
                    go_wp2_with fail
                    go_meet
                    exact ⟨hbr, hbtr, hbor, hkur, hkvr, hker, hsr, hcr⟩
                  | true =>
                    go_upto_region 14 with fail
                    go_cut [] (fun wc => Blk wc b tb (Pts (stL x T half step own j s)) ∧ Blk wc bt 103 (C T) ∧ Blk wc bo 58 (W own) ∧ Blk wc bu 58 (W pp.2) ∧ Blk wc bv 58 (W pq.2) ∧ Blk wc be 58 (W e) ∧ w4.heap.size ≤ wc.heap.size ∧ Chg [b] w' wc)
                    case first =>
                      have nbu : b ≠ bu := by omega
                      have nbv : b ≠ bv := by omega
                      refine wp_region_held_drew (S := fun w1 => w1.rangeAt b (s * 69 + 1) (W pp.2) ∧ w1.rangeAt b ((s + half) * 69 + 1) (W pq.2) ∧ w1.there bu 0 68 ∧ w1.there bv 0 68) (by kernel_rfl) ⟨hpe.drew.rangeAt, hqe.drew.rangeAt, (At.whole hkur.drew).there _ (by rw [W_length]), (At.whole hkvr.drew).there _ (by rw [W_length])⟩ (fun hHeld => ?_)
                      refine takeL 0 (v := ?_) rfl (by kernel_rfl) (by kernel_rfl) (by kernel_rfl) (fun _ _ _ h => h) (by rfl) ?_ hHeld ?_
                      rotate_left
                      · (intro w1 hSw; go_simp; try with_reducible rfl)
                      simp only [Act.put, List.setIfInBounds_toArray, List.set_cons_zero, List.set_cons_succ]
                      refine takeL 1 (v := ?_) rfl (by kernel_rfl) (by kernel_rfl) (by kernel_rfl) (fun _ _ _ h => h) (by rfl) ?_ hHeld ?_
                      rotate_left
                      · (intro w1 hSw; go_simp; try with_reducible rfl)
                      simp only [Act.put, List.setIfInBounds_toArray, List.set_cons_zero, List.set_cons_succ]
                      refine takeL 2 (v := ?_) rfl (by kernel_rfl) (by kernel_rfl) (by kernel_rfl) (fun _ _ _ h => h) (by rfl) ?_ hHeld ?_
                      rotate_left
                      · (intro w1 hSw; go_simp; try with_reducible rfl)
                      simp only [Act.put, List.setIfInBounds_toArray, List.set_cons_zero, List.set_cons_succ]
                      refine takeL 3 rfl (by kernel_rfl) (by kernel_rfl) (by kernel_rfl) (fun _ _ _ h => h) (by rfl) (fun w1 hSw => run_load58 (.tmp 104) rfl b (s * 69 + 1) pp.2 w1 rfl hSw.1) hHeld ?_
                      simp only [Act.put, List.setIfInBounds_toArray, List.set_cons_zero, List.set_cons_succ]
                      refine takeL 4 (v := ?_) rfl (by kernel_rfl) (by kernel_rfl) (by kernel_rfl) (fun _ _ _ h => h) (by rfl) ?_ hHeld ?_
                      rotate_left
                      · (intro w1 hSw; go_simp; try with_reducible rfl)
                      simp only [Act.put, List.setIfInBounds_toArray, List.set_cons_zero, List.set_cons_succ]
                      refine takeL 5 (v := ?_) rfl (by kernel_rfl) (by kernel_rfl) (by kernel_rfl) (fun _ _ _ h => h) (by rfl) ?_ hHeld ?_
                      rotate_left
                      · (intro w1 hSw; go_simp; try with_reducible rfl)
                      simp only [Act.put, List.setIfInBounds_toArray, List.set_cons_zero, List.set_cons_succ]
                      refine takeL 6 (v := ?_) rfl (by kernel_rfl) (by kernel_rfl) (by kernel_rfl) (fun _ _ _ h => h) (by rfl) ?_ hHeld ?_
                      rotate_left
                      · (intro w1 hSw; go_simp; try with_reducible rfl)
                      simp only [Act.put, List.setIfInBounds_toArray, List.set_cons_zero, List.set_cons_succ]
                      refine takeL 7 rfl (by kernel_rfl) (by kernel_rfl) (by kernel_rfl) (fun _ _ _ h => h) (by rfl) (fun w1 hSw => run_load58 (.tmp 108) rfl b ((s + half) * 69 + 1) pq.2 w1 rfl hSw.2.1) hHeld ?_
                      simp only [Act.put, List.setIfInBounds_toArray, List.set_cons_zero, List.set_cons_succ]
                      refine wpAnyH_ready (rs := [8]) (by kernel_rfl) (by simp) ?_
                      refine consL rfl rfl (fun K hK => ?_) AllReadyH.nil
                      refine wp_store_mid 58 _ _ rfl bu 0 (W pp.2).toArray rfl rfl (by rw [List.size_toArray, W_length]; exact hHeld.2.2.1) (by rw [List.size_toArray, W_length]; exact info58) (Wd_one _) ?_
                      refine hK.out _ _ ⟨World.rangeAt_setCells_apart hHeld.1 _ _ _ (Or.inl nbu), World.rangeAt_setCells_apart hHeld.2.1 _ _ _ (Or.inl nbu), World.there_setCells hHeld.2.2.1 _ _ _, World.there_setCells hHeld.2.2.2 _ _ _⟩ (fun hHeld => ?_)
                      clear hK K
                      simp only [Act.put, List.setIfInBounds_toArray, List.set_cons_zero, List.set_cons_succ, List.toList_toArray] at hHeld ⊢
                      have X1 := (At.setCells (W pp.2) _ _ _ _ (At.whole hkur.drew) (by rw [W_length, W_length])).toBlk
                      have X2 := Blk.setCells_ne bu (W pp.2) 0 _ hkvr.drew (Ne.symm nuv)
                      have X3 := Blk.setCells_ne bu (W pp.2) 0 _ hbr.drew nbu
                      have X4 := Blk.setCells_ne bu (W pp.2) 0 _ hbtr.drew (by omega)
                      have X5 := Blk.setCells_ne bu (W pp.2) 0 _ hbor.drew (by omega)
                      have X6 := Blk.setCells_ne bu (W pp.2) 0 _ hker.drew (Ne.symm nue)
                      have X7 := Chg.setCellsNew bu (by omega) (W pp.2) 0 _ hcr.drew
                      have X8 := Nat.le_trans hsr (Chg.setCells bu (by simp) (W pp.2) 0 _ (Chg.refl [bu] wd.drew)).size
                      generalize wd.drew.setCells bu 0 (W pp.2) = w5 at *
                      refine wpAnyH_ready (rs := [9]) (by kernel_rfl) (by simp) ?_
                      refine consL rfl rfl (fun K hK => ?_) AllReadyH.nil
                      refine wp_store_mid 58 _ _ rfl bv 0 (W pq.2).toArray rfl rfl (by rw [List.size_toArray, W_length]; exact hHeld.2.2.2) (by rw [List.size_toArray, W_length]; exact info58) (Wd_one _) ?_
                      refine hK.out _ _ ⟨World.rangeAt_setCells_apart hHeld.1 _ _ _ (Or.inl nbv), World.rangeAt_setCells_apart hHeld.2.1 _ _ _ (Or.inl nbv), World.there_setCells hHeld.2.2.1 _ _ _, World.there_setCells hHeld.2.2.2 _ _ _⟩ (fun hHeld => ?_)
                      clear hK K
                      simp only [Act.put, List.setIfInBounds_toArray, List.set_cons_zero, List.set_cons_succ, List.toList_toArray] at hHeld ⊢
                      refine wpAnyH_done (by kernel_rfl) ?_ _
                      clear hHeld
                      have Y2 := (At.setCells (W pq.2) _ _ _ _ (At.whole X2) (by rw [W_length, W_length])).toBlk
                      have Y1 := Blk.setCells_ne bv (W pq.2) 0 _ X1 nuv
                      have Y3 := Blk.setCells_ne bv (W pq.2) 0 _ X3 nbv
                      have Y4 := Blk.setCells_ne bv (W pq.2) 0 _ X4 (by omega)
                      have Y5 := Blk.setCells_ne bv (W pq.2) 0 _ X5 (by omega)
                      have Y6 := Blk.setCells_ne bv (W pq.2) 0 _ X6 (Ne.symm nve)
                      have Y7 := Chg.setCellsNew bv (by omega) (W pq.2) 0 _ X7
                      have Y8 := Nat.le_trans X8 (Chg.setCells bv (by simp) (W pq.2) 0 _ (Chg.refl [bv] w5)).size
                      generalize w5.setCells bv 0 (W pq.2) = w6 at *
                      go_wp2_with fail
                      go_meet
                      exact ⟨Y3, Y4, Y5, Y1, Y2, Y6, Y8, Y7⟩
                    case rest =>
                      clear hbr hbtr hbor hkur hkvr hker hsr hcr hpe hqe hcb
                      obtain ⟨hbr, hbtr, hbor, hkur, hkvr, hker, hsr, hcr⟩ := hcut
                      go_upto_region 15 with fail
                      refine wp_region_held_drew (S := fun w1 => (Blk w1 b tb (Pts (stL x T half step own j s)) ∧ Blk w1 bt 103 (C T) ∧ Blk w1 bo 58 (W own) ∧ Blk w1 bu 58 (W pp.2) ∧ Blk w1 bv 58 (W pq.2) ∧ (∃ e, Blk w1 be 58 (W e)) ∧ w4.heap.size ≤ w1.heap.size ∧ Chg [b] w' w1)) (by kernel_rfl) ⟨hbr.drew, hbtr.drew, hbor.drew, hkur.drew, hkvr.drew, ⟨e, hker.drew⟩, hsr, hcr.drew⟩ (fun hHeld => ?_)
                      refine takeL 0 rfl (by kernel_rfl) (by kernel_rfl) (by kernel_rfl) (fun _ _ _ h => h) (by rfl) (fun w1 hSw => run_load58 (.tmp 14) rfl bu 0 pp.2 w1 rfl (At.whole hSw.2.2.2.1).rangeAt) hHeld ?_
                      simp only [Act.put, List.setIfInBounds_toArray, List.set_cons_zero, List.set_cons_succ]
                      refine takeL 1 rfl (by kernel_rfl) (by kernel_rfl) (by kernel_rfl) (fun _ _ _ h => h) (by rfl) (fun w1 hSw => run_load58 (.tmp 15) rfl bv 0 pq.2 w1 rfl (At.whole hSw.2.2.2.2.1).rangeAt) hHeld ?_
                      simp only [Act.put, List.setIfInBounds_toArray, List.set_cons_zero, List.set_cons_succ]
                      refine takeL 2 (v := ?_) rfl (by kernel_rfl) (by kernel_rfl) (by kernel_rfl) (fun _ _ _ h => h) (by rfl) ?_ hHeld ?_
                      rotate_left
                      · (intro w1 hSw; go_simp; try with_reducible rfl)
                      simp only [Act.put, List.setIfInBounds_toArray, List.set_cons_zero, List.set_cons_succ]
                      refine wpAnyH_ready (rs := [3]) (by kernel_rfl) (by simp) ?_
                      refine consL rfl rfl (fun K hK => ?_) AllReadyH.nil
                      go_simp
                      refine (plain_any r.1 r.2 _).mono ?_
                      rintro e' w5 ⟨rfl, rfl⟩
                      refine hK.out _ _ hHeld (fun hHeld => ?_)
                      clear hK K
                      try simp only [Act.put, List.setIfInBounds_toArray, List.set_cons_zero, List.set_cons_succ, List.toList_toArray]
                      generalize wc.drew = w5 at *
                      refine wpAnyH_ready (rs := [4]) (by kernel_rfl) (by simp) ?_
                      refine consL rfl rfl (fun K hK => ?_) AllReadyH.nil
                      go_simp
                      refine (joined_any pp.2 pq.2 own (pla r) bo _ aq2 aq3 hHeld.2.2.1).mono ?_
                      rintro e' w6 ⟨rfl, hc6⟩
                      refine hK.out _ _ ⟨hc6.blk hHeld.1 (by simp), hc6.blk hHeld.2.1 (by simp), hc6.blk hHeld.2.2.1 (by simp), hc6.blk hHeld.2.2.2.1 (by simp), hc6.blk hHeld.2.2.2.2.1 (by simp), (by obtain ⟨z, hz⟩ := hHeld.2.2.2.2.2.1; exact ⟨z, hc6.blk hz (by simp)⟩), Nat.le_trans hHeld.2.2.2.2.2.2.1 hc6.size, hHeld.2.2.2.2.2.2.2.trans (hc6.mono (by simp))⟩ (fun hHeld => ?_)
                      clear hK K hc6
                      try simp only [Act.put, List.setIfInBounds_toArray, List.set_cons_zero, List.set_cons_succ, List.toList_toArray]
                      obtain ⟨X1, X2, X3, X4, X5, ⟨z, X6⟩, X7, X8⟩ := hHeld
                      obtain ⟨er, her⟩ : ∃ er, er = joi pp.2 pq.2 (pla r) own := ⟨_, rfl⟩
                      have HER := hide her
                      rw [← her]
                      clear her
                      refine wpAnyH_ready (rs := [5]) (by kernel_rfl) (by simp) ?_
                      refine consL rfl rfl (fun K hK => ?_) AllReadyH.nil
                      refine wp_store_mid 58 _ _ rfl be 0 (W er).toArray rfl rfl ((At.whole X6).there _ (by rw [List.size_toArray, W_length, W_length])) (by rw [List.size_toArray, W_length]; exact info58) (Wd_one _) ?_
                      have Y1 := Blk.setCells_ne be (W er) 0 _ X1 (by omega)
                      have Y2 := Blk.setCells_ne be (W er) 0 _ X2 (by omega)
                      have Y3 := Blk.setCells_ne be (W er) 0 _ X3 (by omega)
                      have Y4 := Blk.setCells_ne be (W er) 0 _ X4 nue
                      have Y5 := Blk.setCells_ne be (W er) 0 _ X5 nve
                      have Y6 := (At.setCells (W er) _ _ _ _ (At.whole X6) (by rw [W_length, W_length])).toBlk
                      have Y7 := Nat.le_trans X7 (Chg.setCells be (by simp) (W er) 0 _ (Chg.refl [be] w6)).size
                      have Y8 := Chg.setCellsNew be (by omega) (W er) 0 _ X8
                      refine hK.out _ _ ⟨Y1, Y2, Y3, Y4, Y5, ⟨_, Y6⟩, Y7, Y8⟩ (fun hHeld => ?_)
                      clear hK K hHeld
                      try simp only [Act.put, List.setIfInBounds_toArray, List.set_cons_zero, List.set_cons_succ, List.toList_toArray]
                      generalize w6.setCells be 0 (W er) = w7 at *
                      refine wpAnyH_done (by kernel_rfl) ?_ _
                      go_wp2_with fail
                      go_meet
                      rw [HER.out] at Y6
                      exact ⟨Y1, Y2, Y3, Y4, Y5, Y6, Y7, Y8⟩
                case rest =>
                  clear hbr hbtr hbor hkur hkvr hker hsr hcr hpe hqe hcb
                  obtain ⟨hbr, hbtr, hbor, hkur, hkvr, hker, hsr, hcr⟩ := hcut
                  have hlx : (stL x T half step own j s).length = n := by rw [stL_length]; exact HN.out
                  have k1 := ptZ hbr s (by omega)
                  have k2 := ptZ hbr (s + half) (by omega)
                  rw [HG1.out] at k1
                  rw [HG2.out] at k2
                  obtain ⟨hm1, hmf⟩ := cmul_fin aq1 hrf (by omega)
                  obtain ⟨za, hza⟩ : ∃ z, z = cadd pp.1 (cmul pq.1 r) := ⟨_, rfl⟩
                  obtain ⟨zb, hzb⟩ : ∃ z, z = csub pp.1 (cmul pq.1 r) := ⟨_, rfl⟩
                  have ha1 := (cadd_fin (ap1.mono (show E ≤ E + F + 1 by omega)) hmf (by omega)).1
                  have hb1 := (csub_fin (ap1.mono (show E ≤ E + F + 1 by omega)) hmf (by omega)).1
                  rw [← hza] at ha1
                  rw [← hzb] at hb1
                  obtain ⟨zm, hzm⟩ : ∃ z, z = cmul pq.1 r := ⟨_, rfl⟩
                  rw [← hzm] at hm1 ha1 hb1 hza hzb
                  have R1 := fun w => run_complex_sum (P := Takg.prog) w .add (Or.inl rfl) 103 .f64 pp.1.1 pp.1.2 zm.1 zm.2 za.1 za.2 ha1
                  have R2 := fun w => run_complex_sum (P := Takg.prog) w .sub (Or.inr rfl) 103 .f64 pp.1.1 pp.1.2 zm.1 zm.2 zb.1 zb.2 hb1
                  have HM := hide hm1
                  have HZA := hide hza
                  have HZB := hide hzb
                  have HZM := hide hzm
                  have HLX := hide hlx
                  clear hm1 ha1 hb1 hza hzb hzm hmf hlx fit fu fv fp fq hsj
                  go_upto_region 16 with fail
                  go_cut [20, 21] (fun va vb w1 => va = .complex .f64 pp.1.1 pp.1.2 ∧ vb = .complex .f64 zm.1 zm.2 ∧ ∃ n, w1 = wc.drewN n)
                  case first =>
                    clear R1 R2
                    go_quiet ((go_at_call 59; exact Calls.quiet_of_same (Mul_any _ _ _ _ zm.1 zm.2 _ HM.out)))
                    go_wp2_with fail
                    go_meet
                    exact ⟨rfl, rfl, _, rfl⟩
                  case rest =>
                    obtain ⟨rfl, rfl, nq2, rfl⟩ := hcut
                    have hbr := hbr.drewN nq2
                    have hbtr := hbtr.drewN nq2
                    have hbor := hbor.drewN nq2
                    have hkur := hkur.drewN nq2
                    have hkvr := hkvr.drewN nq2
                    have hker := hker.drewN nq2
                    have hcr := hcr.drewN nq2
                    have hsr : w4.heap.size ≤ (wc.drewN nq2).heap.size := hsr
                    have k1 : (wc.drewN nq2).cell? ⟨b, s * 69, none⟩ = _ := k1
                    have k2 : (wc.drewN nq2).cell? ⟨b, (s + half) * 69, none⟩ = _ := k2
                    generalize wc.drewN nq2 = wd at *
                    have f1 := hbr.frozen (s * 69) none
                    have hz1 := setZ hbr s (by rw [HLX.out]; omega) za
                    rw [HG1.out] at hz1
                    obtain ⟨X1, hX1⟩ : ∃ X, X = (stL x T half step own j s).set s (za, pp.2) := ⟨_, rfl⟩
                    rw [← hX1] at hz1
                    have hX1l : X1.length = n := by rw [hX1, List.length_set]; exact HLX.out
                    have k3 := ptZ hz1 (s + half) (by omega)
                    have f3 := hz1.frozen ((s + half) * 69) none
                    have hz2 := setZ hz1 (s + half) (by omega) zb
                    rw [hX1] at hz2
                    obtain ⟨X2, hX2⟩ : ∃ X, X = ((stL x T half step own j s).set s (za, pp.2)).set (s + half) (zb, (((stL x T half step own j s).set s (za, pp.2)).getD (s + half) p0).2) := ⟨_, rfl⟩
                    rw [← hX2] at hz2
                    have HX2 := hide hX2
                    have HX2l : Hid (X2.length = n) := by unfold Hid; rw [hX2, List.length_set, List.length_set]; exact HLX.out
                    have Z1 := (hbtr.set_ne ⟨b, s * 69, none⟩ (by simpa using Ne.symm hne) (.complex .f64 za.1 za.2)).set_ne ⟨b, (s + half) * 69, none⟩ (by simpa using Ne.symm hne) (.complex .f64 zb.1 zb.2)
                    have Z2 := (hbor.set_ne ⟨b, s * 69, none⟩ (by simpa using Ne.symm n1) (.complex .f64 za.1 za.2)).set_ne ⟨b, (s + half) * 69, none⟩ (by simpa using Ne.symm n1) (.complex .f64 zb.1 zb.2)
                    have Z3 := (hkur.set_ne ⟨b, s * 69, none⟩ (by simp; omega) (.complex .f64 za.1 za.2)).set_ne ⟨b, (s + half) * 69, none⟩ (by simp; omega) (.complex .f64 zb.1 zb.2)
                    have Z4 := (hkvr.set_ne ⟨b, s * 69, none⟩ (by simp; omega) (.complex .f64 za.1 za.2)).set_ne ⟨b, (s + half) * 69, none⟩ (by simp; omega) (.complex .f64 zb.1 zb.2)
                    have Z5 := (hker.set_ne ⟨b, s * 69, none⟩ (by simp; omega) (.complex .f64 za.1 za.2)).set_ne ⟨b, (s + half) * 69, none⟩ (by simp; omega) (.complex .f64 zb.1 zb.2)
                    have Z6 := (hcr.setCell ⟨b, s * 69, none⟩ (by simp) (.complex .f64 za.1 za.2)).setCell ⟨b, (s + half) * 69, none⟩ (by simp) (.complex .f64 zb.1 zb.2)
                    have Z7 : w4.heap.size ≤ ((wd.setCell ⟨b, s * 69, none⟩ (.complex .f64 za.1 za.2)).setCell ⟨b, (s + half) * 69, none⟩ (.complex .f64 zb.1 zb.2)).heap.size := by simpa using hsr
                    clear hX1 hX2 hX1l hz1 hbr hbtr hbor hkur hkvr hker hcr hsr k2
                    go_upto_region 18 with fail
                    clear k1 k3 f1 f3 R1 R2
                    generalize (wd.setCell ⟨b, s * 69, none⟩ (.complex .f64 za.1 za.2)).setCell ⟨b, (s + half) * 69, none⟩ (.complex .f64 zb.1 zb.2) = wf at *
                    obtain ⟨er, her⟩ : ∃ er, er = joi pp.2 pq.2 (pla r) own := ⟨_, rfl⟩
                    have HER := hide her
                    rw [← her] at Z5
                    clear her
                    refine wp_region_held_drew (S := fun w1 => Blk w1 be 58 (W er) ∧ ∃ X : List P, X.length = n ∧ Blk w1 b tb (Pts X)) (by kernel_rfl) ⟨Z5.drew, X2, HX2l.out, hz2.drew⟩ (fun hHeld => ?_)
                    refine takeL 0 (v := ?_) rfl (by kernel_rfl) (by kernel_rfl) (by kernel_rfl) (fun _ _ _ h => h) (by rfl) ?_ hHeld ?_
                    rotate_left
                    · (intro w1 hSw; go_simp; try with_reducible rfl)
                    simp only [Act.put, List.setIfInBounds_toArray, List.set_cons_zero, List.set_cons_succ]
                    refine takeL 1 (v := ?_) rfl (by kernel_rfl) (by kernel_rfl) (by kernel_rfl) (fun _ _ _ h => h) (by rfl) ?_ hHeld ?_
                    rotate_left
                    · (intro w1 hSw; go_simp; try with_reducible rfl)
                    simp only [Act.put, List.setIfInBounds_toArray, List.set_cons_zero, List.set_cons_succ]
                    refine takeL 2 rfl (by kernel_rfl) (by kernel_rfl) (by kernel_rfl) (fun _ _ _ h => h) (by rfl) (fun w1 hSw => run_load58 (.tmp 16) rfl be 0 er w1 rfl (At.whole hSw.1).rangeAt) hHeld ?_
                    simp only [Act.put, List.setIfInBounds_toArray, List.set_cons_zero, List.set_cons_succ]
                    refine takeL 3 rfl (by kernel_rfl) (by kernel_rfl) (by kernel_rfl) (fun _ _ _ h => h) (by rfl) (fun w1 hSw => run_load58 (.tmp 16) rfl be 0 er w1 rfl (At.whole hSw.1).rangeAt) hHeld ?_
                    simp only [Act.put, List.setIfInBounds_toArray, List.set_cons_zero, List.set_cons_succ]
                    refine takeL 4 (v := ?_) rfl (by kernel_rfl) (by kernel_rfl) (by kernel_rfl) (fun _ _ _ h => h) (by rfl) ?_ hHeld ?_
                    rotate_left
                    · (intro w1 hSw; go_simp; try with_reducible rfl)
                    simp only [Act.put, List.setIfInBounds_toArray, List.set_cons_zero, List.set_cons_succ]
                    refine takeL 5 (v := ?_) rfl (by kernel_rfl) (by kernel_rfl) (by kernel_rfl) (fun _ _ _ h => h) (by rfl) ?_ hHeld ?_
                    rotate_left
                    · (intro w1 hSw; go_simp; try with_reducible rfl)
                    simp only [Act.put, List.setIfInBounds_toArray, List.set_cons_zero, List.set_cons_succ]
                    clear hHeld
                    have q1 := ptE hz2.drew s (by rw [HX2l.out]; omega)
                    have q2 := setE hz2.drew s (by rw [HX2l.out]; omega) er
                    obtain ⟨X3, hX3⟩ : ∃ X, X = X2.set s ((X2.getD s p0).1, er) := ⟨_, rfl⟩
                    rw [← hX3] at q2
                    have HX3 := hide hX3
                    have HX3l : Hid (X3.length = n) := by unfold Hid; rw [hX3, List.length_set]; exact HX2l.out
                    clear hX3
                    have V1 := Blk.setCells_ne b (W er) (s * 69 + 1) _ Z1.drew (Ne.symm hne)
                    have V2 := Blk.setCells_ne b (W er) (s * 69 + 1) _ Z2.drew (Ne.symm n1)
                    have V3 := Blk.setCells_ne b (W er) (s * 69 + 1) _ Z3.drew (by omega)
                    have V4 := Blk.setCells_ne b (W er) (s * 69 + 1) _ Z4.drew (by omega)
                    have V5 := Blk.setCells_ne b (W er) (s * 69 + 1) _ Z5.drew (by omega)
                    have V6 := Chg.setCells b (by simp) (W er) (s * 69 + 1) _ Z6.drew
                    have V7 := Nat.le_trans Z7 (Chg.setCells b (by simp) (W er) (s * 69 + 1) _ (Chg.refl [b] wf.drew)).size
                    refine wpAnyH_ready (rs := [6]) (by kernel_rfl) (by simp) ?_
                    refine consL rfl rfl (fun K hK => ?_) AllReadyH.nil
                    refine wp_store_mid 58 _ _ rfl b (s * 69 + 1) (W er).toArray rfl rfl (q1.there _ (by rw [List.size_toArray, W_length, W_length])) (by rw [List.size_toArray, W_length]; exact info58) (Wd_one _) ?_
                    refine hK.out _ _ ⟨V5, X3, HX3l.out, q2⟩ (fun hHeld => ?_)
                    clear hK K q1
                    simp only [Act.put, List.setIfInBounds_toArray, List.set_cons_zero, List.set_cons_succ, List.toList_toArray]
                    generalize wf.drew.setCells b (s * 69 + 1) (W er) = wg at *
                    clear hz2 Z1 Z2 Z3 Z4 Z5 Z6 Z7
                    refine takeL 7 (v := ?_) rfl (by kernel_rfl) (by kernel_rfl) (by kernel_rfl) (fun _ _ _ h => h) (by rfl) ?_ hHeld ?_
                    rotate_left
                    · (intro w1 hSw; go_simp; try with_reducible rfl)
                    simp only [Act.put, List.setIfInBounds_toArray, List.set_cons_zero, List.set_cons_succ]
                    refine takeL 8 (v := ?_) rfl (by kernel_rfl) (by kernel_rfl) (by kernel_rfl) (fun _ _ _ h => h) (by rfl) ?_ hHeld ?_
                    rotate_left
                    · (intro w1 hSw; go_simp; try with_reducible rfl)
                    simp only [Act.put, List.setIfInBounds_toArray, List.set_cons_zero, List.set_cons_succ]
                    clear hHeld
                    have q3 := ptE q2 (s + half) (by rw [HX3l.out]; omega)
                    have q4 := setE q2 (s + half) (by rw [HX3l.out]; omega) er
                    have U1 := Blk.setCells_ne b (W er) ((s + half) * 69 + 1) _ V1 (Ne.symm hne)
                    have U2 := Blk.setCells_ne b (W er) ((s + half) * 69 + 1) _ V2 (Ne.symm n1)
                    have U3 := Blk.setCells_ne b (W er) ((s + half) * 69 + 1) _ V3 (by omega)
                    have U4 := Blk.setCells_ne b (W er) ((s + half) * 69 + 1) _ V4 (by omega)
                    have U5 := Blk.setCells_ne b (W er) ((s + half) * 69 + 1) _ V5 (by omega)
                    have U6 := Chg.setCells b (by simp) (W er) ((s + half) * 69 + 1) _ V6
                    have U7 := Nat.le_trans V7 (Chg.setCells b (by simp) (W er) ((s + half) * 69 + 1) _ (Chg.refl [b] wg)).size
                    refine wpAnyH_ready (rs := [9]) (by kernel_rfl) (by simp) ?_
                    refine consL rfl rfl (fun K hK => ?_) AllReadyH.nil
                    refine wp_store_mid 58 _ _ rfl b ((s + half) * 69 + 1) (W er).toArray rfl rfl (q3.there _ (by rw [List.size_toArray, W_length, W_length])) (by rw [List.size_toArray, W_length]; exact info58) (Wd_one _) ?_
                    refine hK.out _ _ ⟨U5, _, (by rw [List.length_set]; exact HX3l.out), q4⟩ (fun hHeld => ?_)
                    clear hK K hHeld q3
                    simp only [Act.put, List.setIfInBounds_toArray, List.set_cons_zero, List.set_cons_succ, List.toList_toArray]
                    generalize wg.setCells b ((s + half) * 69 + 1) (W er) = wh at *
                    clear q2 V1 V2 V3 V4 V5 V6 V7
                    refine wpAnyH_done (by kernel_rfl) ?_ _
                    have hX4 : X3.set (s + half) ((X3.getD (s + half) p0).1, er) = stL x T half step own j (s + 2 * half) := by
                      have f4 := four_sets (stL x T half step own j s) s (s + half) (by rw [HLX.out]; omega) (by rw [HLX.out]; omega) (by omega) za zb pp.2 er
                      simp only at f4
                      rw [← HX2.out, ← HX3.out] at f4
                      rw [f4]
                      have st := stL_step x T half step own j c hjl (by have := HS.out; have := HN.out; omega)
                      rw [bf_lo x T half step own j c hjl, bf_hi x T half step own j c hjl] at st
                      have e5 : (c + 1) * (2 * half) + j = s + 2 * half := by have := HS.out; rw [Nat.add_mul]; omega
                      rw [e5, ← HS.out, ← HP.out, ← HQ.out, ← HR.out, ← HZM.out, ← HZA.out, ← HZB.out, ← HER.out] at st
                      exact st
                    rw [hX4] at q4
                    clear hX4
                    go_wp2_with fail
                    go_roundw
                    case rel => exact ⟨c + 1, s + 2 * half, pp.2, pq.2, er, by go_num, by unfold Hid; have := HS.out; rw [Nat.add_mul]; omega, by omega, q4, U1, U2, U3, U4, U5, fun _ => HER.out, ⟨ap2, ap3⟩, ⟨aq2, aq3⟩, U7, U6⟩
                    case measure => simp [intOf]; omega
          · have hce : c = step := by omega
            have hsn : n ≤ s := by have h1 := HS.out; have h2 := HHALF.out; rw [hce] at h1; omega
            rw [stL_next _ _ _ _ _ _ _ (by have := HN.out; omega)] at hbr
            clear hce
            go_wp2_with fail
            go_roundw
            case rel => exact ⟨j + 1, by go_num, by omega, hbr, hbtr, hbor, hsr, hcr⟩
            case measure => simp [intOf]; omega
      · have hje : j = half := by omega
        subst hje
        rw [stL_end _ _ _ _ _ _ p1] at hbr
        go_wp2_with fail
        go_end0
        exact ⟨rfl, hbr, hcr⟩
end Sh
end Go.Proofs.Ygctak
