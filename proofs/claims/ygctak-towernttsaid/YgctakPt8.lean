/-
  Walks: shadow.Times.
-/
import Derived.Test.YgctakPt7
import Derived.Test.YgctakPt3
namespace Go.Proofs.Ygctak
open Go.RowKit
set_option linter.unusedVariables false
set_option linter.unusedSimpArgs false
attribute [local go_sem ↓] Go.wp_at_zero Go.wp_at_succ
attribute [local go_sem] Fl.run_store_complex Fl.run_store_float
namespace Sh
open Ac Fl

theorem quiet_eqlAcc {o : Oper} {a : Act} {D : World → Prop} {K : Act → Prop} (x y : Operand) (ho : o.op = .binOp .eql 58 x y 58) (p q : Int) (r : Bool) (hx : a.eval x = .agg (W p).toArray) (hy : a.eval y = .agg (W q).toArray)
    (hr : ∀ w, (Op.equalIn 10000 58 (.agg (W p).toArray) (.agg (W q).toArray)).run Takg.prog w = .ok r w)
    (hk : K (a.put o.dst (.bool r))) : o.quiet Takg.prog a D K :=
  ⟨_, fun w hw => by
    unfold Oper.quietAt execOp
    simp only [ho, hx, hy]
    rw [Sem.run_bind, Sem.run_bind, guard58e]
    simp only [Result.andThen_ok]
    rw [run_eql_struct, hr]
    exact ⟨rfl, rfl⟩, hk⟩

/-- The bound of a product. -/
def ter (m : Nat) (u v : Int) : Int := spr ((u + v) * m) + ((m : Int) * m * 2 ^ 30 + 1)
def tmf (x y : List P) (m i : Nat) : P := (cmul (x.getD i p0).1 (y.getD i p0).1, ter m (x.getD i p0).2 (y.getD i p0).2)
def tms (x y : List P) (m : Nat) : List P := (List.range x.length).map (tmf x y m)

set_option maxRecDepth 100000 in
set_option maxHeartbeats 2000000 in
theorem Times_any (b tb b2 tb2 n m E F : Nat) (x y : List P) (w : World) (hn2 : n ≤ 1024) (hm : m ≤ 130561) (hn : x.length = n) (hny : y.length = n) (hne : b ≠ b2) (hb : Blk w b tb (Pts x)) (hb2 : Blk w b2 tb2 (Pts y))
    (hx : AllP E 130 x) (hy : AllP F 130 y) (hE : E + F + 1 ≤ 1023) :
    Calls Takg.prog 24 #[.slice (some ⟨b, 0, none⟩) n n, .slice (some ⟨b2, 0, none⟩) n n, .int .u64 m] w fun e w' =>
      e = .returned (.tuple #[]) ∧ Blk w' b tb (Pts (tms x y m)) ∧ Chg [b] w w' := by
  have hmm : (m : Int) * (m : Int) = ((m * m : Nat) : Int) := by simp
  have hm2 : m * m ≤ 17046174721 := Nat.le_trans (Nat.mul_le_mul hm hm) (by omega)
  have hw1 : IntKind.u64.wrap ((m : Int) * (m : Int)) = (m : Int) * (m : Int) := by rw [hmm, IntKind.wrap_u64]; omega
  have HU := hide (fun W => units_any ((m : Int) * m) 30 W (by rw [hmm]; omega) (by rw [hmm]; omega) (by omega))
  have HN := hide hn
  have HNY := hide hny
  obtain ⟨own, ho⟩ : ∃ o, o = (m : Int) * m * 2 ^ 30 + 1 := ⟨_, rfl⟩
  rw [← ho] at HU
  have HO := hide ho
  have HT := hide (fun u v => show ter m u v = spr ((u + v) * m) + own by rw [ho]; rfl)
  clear hn hny hmm hm2 ho
  go_enter Takg.func24, Takg.ntmps24
  go_upto_region 1 with (first | (refine (HU.out _).mono ?_; rintro e' w3 ⟨rfl, hc3⟩) | (refine wpList_newAcc (by rfl) (by rfl) (by rfl) _ _ (by rfl) own (by rfl) (fun _ => by rfl) (fun _ => by rfl) ?_; intro bo w4 hbo hko hc4))
  clear hw1
  apply wp_region_lit
  refine wpList_zeroAcc (by rfl) (by rfl) ?_
  intro bu wu hbu hku hcu
  refine wpList_zeroAcc (by rfl) (by rfl) ?_
  intro bv wv hbv hkv hcv
  refine wpList_zeroAcc (by rfl) (by rfl) ?_
  intro be we hbe hke hce
  have lb := hb.lt
  have lb2 := hb2.lt
  have s3 := hc3.size
  have s4 := hc4.size
  have su := hcu.size
  have sv := hcv.size
  have lo := hko.lt
  have lu := hku.lt
  have lv := hkv.lt
  have go : w.heap.size ≤ bo := by have := hbo.out; omega
  have gu : w.heap.size ≤ bu := by have := hbu.out; omega
  have gv : w.heap.size ≤ bv := by have := hbv.out; omega
  have ge : w.heap.size ≤ be := by have := hbe.out; omega
  have nou : bo ≠ bu := by have := hbu.out; omega
  have nov : bo ≠ bv := by have := hbv.out; omega
  have noe : bo ≠ be := by have := hbe.out; omega
  have nuv : bu ≠ bv := by have := hbv.out; omega
  have nue : bu ≠ be := by have := hbe.out; omega
  have nve : bv ≠ be := by have := hbe.out; omega
  have hcT : Chg [] w we := (((hc3.trans hc4).trans hcu).trans hcv).trans hce
  have hbT := hcT.blk hb (by simp)
  have hb2T := hcT.blk hb2 (by simp)
  have hkoT := hce.blk (hcv.blk (hcu.blk hko (by simp)) (by simp)) (by simp)
  have hkuT := hce.blk (hcv.blk hku (by simp)) (by simp)
  have hkvT := hce.blk hkv (by simp)
  rw [← upTo_zero (tmf x y m) x] at hbT
  have hcT2 : Chg [b] w we := hcT.mono (by simp)
  clear hc3 hc4 hcu hcv hce hcT hb hb2 hko hku hkv hbo hbu hbv hbe s3 s4 su sv lo lu lv
  go_wp2_with fail
  go_loopw [10] (fun val wr => ∃ (i : Nat) (u v e : Int), val = .int .i64 i ∧ i ≤ n ∧ Blk wr b tb (Pts (upTo (tmf x y m) x i)) ∧ Blk wr b2 tb2 (Pts y) ∧ Blk wr bo 58 (W own) ∧ Blk wr bu 58 (W u) ∧ Blk wr bv 58 (W v) ∧ Blk wr be 58 (W e) ∧
    Hid (i ≠ 0 → e = ter m u v) ∧ (0 ≤ u ∧ u ≤ 2 ^ 130) ∧ (0 ≤ v ∧ v ≤ 2 ^ 130) ∧ Chg [b] w wr) (fun val _ => n - (intOf val).toNat)
  case atStart => exact ⟨0, 0, 0, 0, rfl, by omega, hbT, hb2T, hkoT, hkuT, hkvT, hke, fun h => absurd rfl h, ⟨by omega, by decide⟩, ⟨by omega, by decide⟩, hcT2⟩
  case round =>
    clear hbT hb2T hkoT hkuT hkvT hke hcT2
    obtain ⟨i, u, v, e, rfl, hi, hbx, hby, hbor, hkur, hkvr, hker, HE, ⟨u0, u1⟩, ⟨v0, v1⟩, hcr⟩ := hrel
    by_cases hil : i < n
    · have hxl := HN.out
      have hyl := HNY.out
      obtain ⟨ap1, ap2, ap3⟩ := hx i (by omega)
      obtain ⟨aq1, aq2, aq3⟩ := hy i (by omega)
      have hhere := upTo_here (tmf x y m) x i (by omega)
      have hset := upTo_set (tmf x y m) x i (by omega)
      have hXl := upTo_length (tmf x y m) x i
      obtain ⟨X, hX⟩ : ∃ X, X = upTo (tmf x y m) x i := ⟨_, rfl⟩
      have htf : tmf x y m i = (cmul (x.getD i p0).1 (y.getD i p0).1, ter m (x.getD i p0).2 (y.getD i p0).2) := rfl
      rw [htf] at hset
      obtain ⟨pp, hpp⟩ : ∃ p, p = x.getD i p0 := ⟨_, rfl⟩
      obtain ⟨pq, hpq⟩ : ∃ p, p = y.getD i p0 := ⟨_, rfl⟩
      rw [← hX] at hhere hset hbx hXl
      rw [← hpp] at ap1 ap2 ap3 hset hhere
      rw [← hpq] at aq1 aq2 aq3 hset
      have k1 := ptZ hbx i (by omega)
      rw [hhere] at k1
      have k2 := ptZ hby i (by omega)
      rw [← hpq] at k2
      obtain ⟨hm1, _⟩ := cmul_fin ap1 aq1 (by omega)
      obtain ⟨zm, hzm⟩ : ∃ z, z = cmul pp.1 pq.1 := ⟨_, rfl⟩
      rw [← hzm] at hm1 hset
      have HM := hide hm1
      have f1 := hbx.frozen (i * 69) none
      have hZ := setZ hbx i (by omega) zm
      rw [hhere] at hZ
      have hqe := ptE hby i (by omega)
      rw [← hpq] at hqe
      have HXL : Hid (X.length = n) := hXl.trans hxl
      have HSET := hide hset
      have fit : ∀ z : Int, 0 ≤ z → z ≤ 2 ^ 130 → Fits z := fun z z0 z1 => fits_of z0 (Int.le_trans z1 (by decide))
      have Q1 := fun w => acc_eq pp.2 u (fit _ ap2 ap3) (fit _ u0 u1) w
      have Q2 := fun w => acc_eq pq.2 v (fit _ aq2 aq3) (fit _ v0 v1) w
      have QH1 := hide Q1
      have QH2 := hide Q2
      have HPQ := hide hpq
      clear hxl hyl hhere hset hXl hX htf hpp hpq hm1 hzm fit Q1 Q2
      go_upto_region 5 with fail
      go_cut [] (fun wc => Blk wc b tb (Pts (X.set i (zm, pp.2))) ∧ Blk wc b2 tb2 (Pts y) ∧ Blk wc bo 58 (W own) ∧ Blk wc bu 58 (W u) ∧ Blk wc bv 58 (W v) ∧ Blk wc be 58 (W e) ∧ Chg [b] w wc)
      case first =>
        go_region_with (first | (go_at_call 59; refine (Mul_any _ _ _ _ zm.1 zm.2 _ HM.out).mono ?_; rintro e' w5 ⟨rfl, rfl⟩))
        all_goals (
          go_wp2_with fail
          go_meet
          exact ⟨hZ.drew, (hby.set_ne _ (by simpa using Ne.symm hne) _).drew, (hbor.set_ne _ (by simp; omega) _).drew, (hkur.set_ne _ (by simp; omega) _).drew, (hkvr.set_ne _ (by simp; omega) _).drew, (hker.set_ne _ (by simp; omega) _).drew, (hcr.setCell _ (by simp) _).drew⟩)
      case rest =>
        clear hbx hby hbor hkur hkvr hker hcr k1 k2 f1 hZ hqe
        obtain ⟨hbx, hby, hbor, hkur, hkvr, hker, hcr⟩ := hcut
        have hlx : i < (X.set i (zm, pp.2)).length := by rw [List.length_set, HXL.out]; omega
        have hpe := ptE hbx i hlx
        rw [set_getD X i _ (by rw [HXL.out]; omega)] at hpe
        have hqe := ptE hby i (by rw [HNY.out]; omega)
        rw [← HPQ.out] at hqe
        simp only at hpe
        go_upto_region 6 with fail
        go_cut [61] (fun val wc2 => ∃ cb : Bool, val = .bool cb ∧ (cb = true → i ≠ 0 ∧ pp.2 = u ∧ pq.2 = v) ∧ ∃ n, wc2 = wc.drewN n)
        case first =>
          have M1 : Hid (∀ w1, (∃ n, w1 = wc.drewN n) → w1.rangeAt b (i * 69 + 1) (W pp.2)) := fun w1 ⟨n, e⟩ => by rw [e]; exact At.rangeAt ⟨hpe.off, hpe.blk⟩
          have M2 : Hid (∀ w1, (∃ n, w1 = wc.drewN n) → w1.rangeAt b2 (i * 69 + 1) (W pq.2)) := fun w1 ⟨n, e⟩ => by rw [e]; exact At.rangeAt ⟨hqe.off, hqe.blk⟩
          have M3 : Hid (∀ w1, (∃ n, w1 = wc.drewN n) → w1.rangeAt bu 0 (W u)) := fun w1 ⟨n, e⟩ => by rw [e]; exact (At.whole (hkur.drewN n)).rangeAt
          have M4 : Hid (∀ w1, (∃ n, w1 = wc.drewN n) → w1.rangeAt bv 0 (W v)) := fun w1 ⟨n, e⟩ => by rw [e]; exact (At.whole (hkvr.drewN n)).rangeAt
          have Q1 := QH1.out
          have Q2 := QH2.out
          by_cases hc0 : i = 0
          · have heq : decide ((0 : Int) < (i : Int)) = false := decide_eq_false (by omega)
            have heq2 : decide (0 < i) = false := decide_eq_false (by omega)
            clear M1 M2 M3 M4 Q1 Q2
            go_quiet (fail)
            go_wp2_with fail
            go_meet
            exact ⟨false, rfl, fun h => (by cases h), _, rfl⟩
          · have heq : decide ((0 : Int) < (i : Int)) = true := decide_eq_true (by omega)
            have heq2 : decide (0 < i) = true := decide_eq_true (by omega)
            have hipos : 0 < i := by omega
            by_cases e1 : pp.2 = u
            · rw [decide_eq_true e1] at Q1
              by_cases e2 : pq.2 = v
              · rw [decide_eq_true e2] at Q2
                have HE1 := hide e1
                have HE2 := hide e2
                have QQ1 := hide Q1
                have QQ2 := hide Q2
                clear e1 e2 Q1 Q2
                refine wp_region_quiet_lit (by kernel_rfl) (by kernel_rfl) ?_
                repeat (first
                  | go_big_quiet_skip
                  | (go_big_quiet_want; first
                      | (refine quiet_loadAcc (.tmp 48) (by rfl) b (i * 69 + 1) pp.2 (by rfl) M1.out ?_; go_big_quiet_on; simp only [Act.put, List.setIfInBounds_toArray, List.set_cons_zero, List.set_cons_succ])
                      | (refine quiet_loadAcc (.tmp 7) (by rfl) bu 0 u (by rfl) M3.out ?_; go_big_quiet_on; simp only [Act.put, List.setIfInBounds_toArray, List.set_cons_zero, List.set_cons_succ])
                      | (refine quiet_loadAcc (.tmp 57) (by rfl) b2 (i * 69 + 1) pq.2 (by rfl) M2.out ?_; go_big_quiet_on; simp only [Act.put, List.setIfInBounds_toArray, List.set_cons_zero, List.set_cons_succ])
                      | (refine quiet_loadAcc (.tmp 8) (by rfl) bv 0 v (by rfl) M4.out ?_; go_big_quiet_on; simp only [Act.put, List.setIfInBounds_toArray, List.set_cons_zero, List.set_cons_succ])
                      | (refine quiet_eqlAcc (.tmp 49) (.tmp 50) (by rfl) pp.2 u true (by rfl) (by rfl) QQ1.out ?_; go_big_quiet_on; simp only [Act.put, List.setIfInBounds_toArray, List.set_cons_zero, List.set_cons_succ])
                      | (refine quiet_eqlAcc (.tmp 58) (.tmp 59) (by rfl) pq.2 v true (by rfl) (by rfl) QQ2.out ?_; go_big_quiet_on; simp only [Act.put, List.setIfInBounds_toArray, List.set_cons_zero, List.set_cons_succ])
                      | (go_big_quiet_op; go_big_quiet_on)))
                refine wpQuiet_nil ?_
                intro _ hw'
                obtain ⟨nq, hw''⟩ := hw'
                subst hw''
                go_wp2_with fail
                go_meet
                exact ⟨true, rfl, fun h => ⟨hc0, HE1.out, HE2.out⟩, _, rfl⟩
              · rw [decide_eq_false e2] at Q2
                have HE1 := hide e1
                have QQ1 := hide Q1
                have QQ2 := hide Q2
                clear e1 e2 Q1 Q2
                refine wp_region_quiet_lit (by kernel_rfl) (by kernel_rfl) ?_
                repeat (first
                  | go_big_quiet_skip
                  | (go_big_quiet_want; first
                      | (refine quiet_loadAcc (.tmp 48) (by rfl) b (i * 69 + 1) pp.2 (by rfl) M1.out ?_; go_big_quiet_on; simp only [Act.put, List.setIfInBounds_toArray, List.set_cons_zero, List.set_cons_succ])
                      | (refine quiet_loadAcc (.tmp 7) (by rfl) bu 0 u (by rfl) M3.out ?_; go_big_quiet_on; simp only [Act.put, List.setIfInBounds_toArray, List.set_cons_zero, List.set_cons_succ])
                      | (refine quiet_loadAcc (.tmp 57) (by rfl) b2 (i * 69 + 1) pq.2 (by rfl) M2.out ?_; go_big_quiet_on; simp only [Act.put, List.setIfInBounds_toArray, List.set_cons_zero, List.set_cons_succ])
                      | (refine quiet_loadAcc (.tmp 8) (by rfl) bv 0 v (by rfl) M4.out ?_; go_big_quiet_on; simp only [Act.put, List.setIfInBounds_toArray, List.set_cons_zero, List.set_cons_succ])
                      | (refine quiet_eqlAcc (.tmp 49) (.tmp 50) (by rfl) pp.2 u true (by rfl) (by rfl) QQ1.out ?_; go_big_quiet_on; simp only [Act.put, List.setIfInBounds_toArray, List.set_cons_zero, List.set_cons_succ])
                      | (refine quiet_eqlAcc (.tmp 58) (.tmp 59) (by rfl) pq.2 v false (by rfl) (by rfl) QQ2.out ?_; go_big_quiet_on; simp only [Act.put, List.setIfInBounds_toArray, List.set_cons_zero, List.set_cons_succ])
                      | (go_big_quiet_op; go_big_quiet_on)))
                refine wpQuiet_nil ?_
                intro _ hw'
                obtain ⟨nq, hw''⟩ := hw'
                subst hw''
                go_wp2_with fail
                go_meet
                exact ⟨false, rfl, fun h => (by cases h), _, rfl⟩
            · rw [decide_eq_false e1] at Q1
              have QQ1 := hide Q1
              have QQ2 := hide Q2
              clear e1 Q1 Q2
              refine wp_region_quiet_lit (by kernel_rfl) (by kernel_rfl) ?_
              repeat (first
                | go_big_quiet_skip
                | (go_big_quiet_want; first
                    | (refine quiet_loadAcc (.tmp 48) (by rfl) b (i * 69 + 1) pp.2 (by rfl) M1.out ?_; go_big_quiet_on; simp only [Act.put, List.setIfInBounds_toArray, List.set_cons_zero, List.set_cons_succ])
                    | (refine quiet_loadAcc (.tmp 7) (by rfl) bu 0 u (by rfl) M3.out ?_; go_big_quiet_on; simp only [Act.put, List.setIfInBounds_toArray, List.set_cons_zero, List.set_cons_succ])
                    | (refine quiet_loadAcc (.tmp 57) (by rfl) b2 (i * 69 + 1) pq.2 (by rfl) M2.out ?_; go_big_quiet_on; simp only [Act.put, List.setIfInBounds_toArray, List.set_cons_zero, List.set_cons_succ])
                    | (refine quiet_loadAcc (.tmp 8) (by rfl) bv 0 v (by rfl) M4.out ?_; go_big_quiet_on; simp only [Act.put, List.setIfInBounds_toArray, List.set_cons_zero, List.set_cons_succ])
                    | (refine quiet_eqlAcc (.tmp 49) (.tmp 50) (by rfl) pp.2 u false (by rfl) (by rfl) QQ1.out ?_; go_big_quiet_on; simp only [Act.put, List.setIfInBounds_toArray, List.set_cons_zero, List.set_cons_succ])
                    | (refine quiet_eqlAcc (.tmp 58) (.tmp 59) (by rfl) pq.2 v false (by rfl) (by rfl) QQ2.out ?_; go_big_quiet_on; simp only [Act.put, List.setIfInBounds_toArray, List.set_cons_zero, List.set_cons_succ])
                    | (go_big_quiet_op; go_big_quiet_on)))
              refine wpQuiet_nil ?_
              intro _ hw'
              obtain ⟨nq, hw''⟩ := hw'
              subst hw''
              go_wp2_with fail
              go_meet
              exact ⟨false, rfl, fun h => (by cases h), _, rfl⟩
        case rest =>
          clear QH1 QH2
          obtain ⟨cb, rfl, hcb, nq, rfl⟩ := hcut
          have hbx := hbx.drewN nq
          have hby := hby.drewN nq
          have hbor := hbor.drewN nq
          have hkur := hkur.drewN nq
          have hkvr := hkvr.drewN nq
          have hker := hker.drewN nq
          have hcr := hcr.drewN nq
          have hpe : At (wc.drewN nq) b (i * 69 + 1) tb _ (W pp.2) _ := ⟨hpe.off, hpe.blk⟩
          have hqe : At (wc.drewN nq) b2 (i * 69 + 1) tb2 _ (W pq.2) _ := ⟨hqe.off, hqe.blk⟩
          generalize wc.drewN nq = wd at *
          obtain ⟨er, her⟩ : ∃ er, er = ter m pp.2 pq.2 := ⟨_, rfl⟩
          have HSET2 := HSET.out
          rw [← her] at HSET2
          have HER := hide her
          have HS2 := hide HSET2
          clear her HSET2 HSET
          cases cb with
          | true =>
            obtain ⟨d1, d2, d3⟩ := hcb rfl
            have d4 := HE.out d1
            rw [← d2, ← d3, ← HER.out] at d4
            rw [d4] at hker
            rw [← d2] at hkur
            rw [← d3] at hkvr
            clear d1 d2 d3 d4 hcb
            go_wp2_with (first | (refine wpList_loadAcc (by rfl) (.tmp 9) (by rfl) be 0 58 [] [] er (by rfl) (At.whole hker) ?_) | (refine wpList_storeAcc (by rfl) _ _ (by rfl) (by rfl) b (i * 69 + 1) tb _ _ (W pp.2) er (W_length _) hpe (by rfl) (by rfl) ?_; intro w7 hk7 hc7))
            have hb7 := unE (x := X.set i (zm, pp.2)) i hlx hk7
            rw [List.set_set, HS2.out] at hb7
            have Y1 := hc7.blk hby (by simpa using Ne.symm hne)
            have Y2 := hc7.blk hbor (by simp; omega)
            have Y3 := hc7.blk hkur (by simp; omega)
            have Y4 := hc7.blk hkvr (by simp; omega)
            have Y5 := hc7.blk hker (by simp; omega)
            have Y6 := hcr.trans hc7
            clear hk7 hc7 hbx hby hbor hkur hkvr hker hcr hpe hqe
            go_roundw
            case rel => exact ⟨i + 1, pp.2, pq.2, er, by go_num, by omega, hb7, Y1, Y2, Y3, Y4, Y5, fun _ => HER.out, ⟨ap2, ap3⟩, ⟨aq2, aq3⟩, Y6⟩
            case measure => simp [intOf]; omega
          | false =>
            clear hcb
            go_upto_region 8 with fail
            go_cut [] (fun wc => Blk wc b tb (Pts (X.set i (zm, pp.2))) ∧ Blk wc b2 tb2 (Pts y) ∧ Blk wc bo 58 (W own) ∧ Blk wc bu 58 (W pp.2) ∧ Blk wc bv 58 (W pq.2) ∧ Blk wc be 58 (W e) ∧ Chg [b] w wc)
            case first =>
              refine wp_region_held_drew (S := fun w1 => w1.rangeAt b (i * 69 + 1) (W pp.2) ∧ w1.rangeAt b2 (i * 69 + 1) (W pq.2) ∧ w1.there bu 0 68 ∧ w1.there bv 0 68) (by kernel_rfl) ⟨hpe.drew.rangeAt, hqe.drew.rangeAt, (At.whole hkur.drew).there _ (by rw [W_length]), (At.whole hkvr.drew).there _ (by rw [W_length])⟩ (fun hHeld => ?_)
              refine takeL 0 (v := ?_) rfl (by kernel_rfl) (by kernel_rfl) (by kernel_rfl) (fun _ _ _ h => h) (by rfl) ?_ hHeld ?_
              rotate_left
              · (intro w1 hSw; go_simp; try with_reducible rfl)
              simp only [Act.put, List.setIfInBounds_toArray, List.set_cons_zero, List.set_cons_succ]
              refine takeL 1 (v := ?_) rfl (by kernel_rfl) (by kernel_rfl) (by kernel_rfl) (fun _ _ _ h => h) (by rfl) ?_ hHeld ?_
              rotate_left
              · (intro w1 hSw; go_simp; try with_reducible rfl)
              simp only [Act.put, List.setIfInBounds_toArray, List.set_cons_zero, List.set_cons_succ]
              refine takeL 2 (v := ?_) rfl (by kernel_rfl) (by kernel_rfl) (by kernel_rfl) (fun _ _ _ h => h) (by rfl) ?_ hHeld ?_
              rotate_left
              · (intro w1 hSw; go_simp; try with_reducible rfl)
              simp only [Act.put, List.setIfInBounds_toArray, List.set_cons_zero, List.set_cons_succ]
              refine takeL 3 (v := ?_) rfl (by kernel_rfl) (by kernel_rfl) (by kernel_rfl) (fun _ _ _ h => h) (by rfl) ?_ hHeld ?_
              rotate_left
              · (intro w1 hSw; go_simp; try with_reducible rfl)
              simp only [Act.put, List.setIfInBounds_toArray, List.set_cons_zero, List.set_cons_succ]
              refine takeL 4 rfl (by kernel_rfl) (by kernel_rfl) (by kernel_rfl) (fun _ _ _ h => h) (by rfl) (fun w1 hSw => run_load58 (.tmp 70) rfl b (i * 69 + 1) pp.2 w1 rfl hSw.1) hHeld ?_
              simp only [Act.put, List.setIfInBounds_toArray, List.set_cons_zero, List.set_cons_succ]
              refine takeL 5 (v := ?_) rfl (by kernel_rfl) (by kernel_rfl) (by kernel_rfl) (fun _ _ _ h => h) (by rfl) ?_ hHeld ?_
              rotate_left
              · (intro w1 hSw; go_simp; try with_reducible rfl)
              simp only [Act.put, List.setIfInBounds_toArray, List.set_cons_zero, List.set_cons_succ]
              refine takeL 6 (v := ?_) rfl (by kernel_rfl) (by kernel_rfl) (by kernel_rfl) (fun _ _ _ h => h) (by rfl) ?_ hHeld ?_
              rotate_left
              · (intro w1 hSw; go_simp; try with_reducible rfl)
              simp only [Act.put, List.setIfInBounds_toArray, List.set_cons_zero, List.set_cons_succ]
              refine takeL 7 (v := ?_) rfl (by kernel_rfl) (by kernel_rfl) (by kernel_rfl) (fun _ _ _ h => h) (by rfl) ?_ hHeld ?_
              rotate_left
              · (intro w1 hSw; go_simp; try with_reducible rfl)
              simp only [Act.put, List.setIfInBounds_toArray, List.set_cons_zero, List.set_cons_succ]
              refine takeL 8 (v := ?_) rfl (by kernel_rfl) (by kernel_rfl) (by kernel_rfl) (fun _ _ _ h => h) (by rfl) ?_ hHeld ?_
              rotate_left
              · (intro w1 hSw; go_simp; try with_reducible rfl)
              simp only [Act.put, List.setIfInBounds_toArray, List.set_cons_zero, List.set_cons_succ]
              refine takeL 9 rfl (by kernel_rfl) (by kernel_rfl) (by kernel_rfl) (fun _ _ _ h => h) (by rfl) (fun w1 hSw => run_load58 (.tmp 75) rfl b2 (i * 69 + 1) pq.2 w1 rfl hSw.2.1) hHeld ?_
              simp only [Act.put, List.setIfInBounds_toArray, List.set_cons_zero, List.set_cons_succ]
              refine wpAnyH_ready (rs := [10]) (by kernel_rfl) (by simp) ?_
              refine consL rfl rfl (fun K hK => ?_) AllReadyH.nil
              refine wp_store_mid 58 _ _ rfl bu 0 (W pp.2).toArray rfl rfl (by rw [List.size_toArray, W_length]; exact hHeld.2.2.1) (by rw [List.size_toArray, W_length]; exact info58) (Wd_one _) ?_
              refine hK.out _ _ ⟨World.rangeAt_setCells_apart hHeld.1 _ _ _ (Or.inl (by omega)), World.rangeAt_setCells_apart hHeld.2.1 _ _ _ (Or.inl (by omega)), World.there_setCells hHeld.2.2.1 _ _ _, World.there_setCells hHeld.2.2.2 _ _ _⟩ (fun hHeld => ?_)
              clear hK K
              simp only [Act.put, List.setIfInBounds_toArray, List.set_cons_zero, List.set_cons_succ, List.toList_toArray] at hHeld ⊢
              have X1 := (At.setCells (W pp.2) _ _ _ _ (At.whole hkur.drew) (by rw [W_length, W_length])).toBlk
              have X2 := Blk.setCells_ne bu (W pp.2) 0 _ hkvr.drew (Ne.symm nuv)
              have X3 := Blk.setCells_ne bu (W pp.2) 0 _ hbx.drew (by omega)
              have X4 := Blk.setCells_ne bu (W pp.2) 0 _ hby.drew (by omega)
              have X5 := Blk.setCells_ne bu (W pp.2) 0 _ hbor.drew (by omega)
              have X6 := Blk.setCells_ne bu (W pp.2) 0 _ hker.drew (Ne.symm nue)
              have X7 := Chg.setCellsNew bu (by omega) (W pp.2) 0 _ hcr.drew
              generalize wd.drew.setCells bu 0 (W pp.2) = w5 at *
              refine wpAnyH_ready (rs := [11]) (by kernel_rfl) (by simp) ?_
              refine consL rfl rfl (fun K hK => ?_) AllReadyH.nil
              refine wp_store_mid 58 _ _ rfl bv 0 (W pq.2).toArray rfl rfl (by rw [List.size_toArray, W_length]; exact hHeld.2.2.2) (by rw [List.size_toArray, W_length]; exact info58) (Wd_one _) ?_
              refine hK.out _ _ ⟨World.rangeAt_setCells_apart hHeld.1 _ _ _ (Or.inl (by omega)), World.rangeAt_setCells_apart hHeld.2.1 _ _ _ (Or.inl (by omega)), World.there_setCells hHeld.2.2.1 _ _ _, World.there_setCells hHeld.2.2.2 _ _ _⟩ (fun hHeld => ?_)
              clear hK K
              simp only [Act.put, List.setIfInBounds_toArray, List.set_cons_zero, List.set_cons_succ, List.toList_toArray] at hHeld ⊢
              refine wpAnyH_done (by kernel_rfl) ?_ _
              clear hHeld
              have Y2 := (At.setCells (W pq.2) _ _ _ _ (At.whole X2) (by rw [W_length, W_length])).toBlk
              have Y1 := Blk.setCells_ne bv (W pq.2) 0 _ X1 nuv
              have Y3 := Blk.setCells_ne bv (W pq.2) 0 _ X3 (by omega)
              have Y4 := Blk.setCells_ne bv (W pq.2) 0 _ X4 (by omega)
              have Y5 := Blk.setCells_ne bv (W pq.2) 0 _ X5 (by omega)
              have Y6 := Blk.setCells_ne bv (W pq.2) 0 _ X6 (Ne.symm nve)
              have Y7 := Chg.setCellsNew bv (by omega) (W pq.2) 0 _ X7
              generalize w5.setCells bv 0 (W pq.2) = w6 at *
              go_wp2_with fail
              go_meet
              exact ⟨Y3, Y4, Y5, Y1, Y2, Y6, Y7⟩
            case rest =>
              clear hbx hby hbor hkur hkvr hker hcr hpe hqe
              obtain ⟨hbx, hby, hbor, hkur, hkvr, hker, hcr⟩ := hcut
              go_upto_region 9 with fail
              apply wp_region_lit
              refine wpList_moveAcc (by rfl) _ (by rfl) (by rfl) _ _ (by rfl) (by rfl) bu 0 58 be 0 58 [] [] [] [] (W e) pp.2 (by rfl) (At.whole hkur) (W_length _) (At.whole hker) (fun _ => by rfl) (fun _ => by rfl) ?_
              intro w6 hk6 hc6
              have hbx6 := hc6.blk hbx (by simp; omega)
              have hby6 := hc6.blk hby (by simp; omega)
              have hbor6 := hc6.blk hbor (by simp; omega)
              have hkur6 := hc6.blk hkur (by simp; omega)
              have hkvr6 := hc6.blk hkvr (by simp; omega)
              have hcr6 := hcr.news hc6 (by simp; omega)
              clear hbx hby hbor hkur hkvr hker hcr hc6
              have HA := hide (Add_any be 0 58 bv 0 58 [] [] [] [] pp.2 pq.2 w6 (Ne.symm nve) hk6 (At.whole hkvr6))
              go_wp2_with fail
              refine HA.out.mono ?_
              rintro e' w7 ⟨rfl, hk7, hc7⟩
              have hbx7 := hc7.blk hbx6 (by simp; omega)
              have hby7 := hc7.blk hby6 (by simp; omega)
              have hbor7 := hc7.blk hbor6 (by simp; omega)
              have hkur7 := hc7.blk hkur6 (by simp; omega)
              have hkvr7 := hc7.blk hkvr6 (by simp; omega)
              have hcr7 := hcr6.news hc7 (by simp; omega)
              clear hbx6 hby6 hbor6 hkur6 hkvr6 hk6 hcr6 hc7 HA
              have HM2 := hide (MulSmall_any be 0 58 [] [] (pp.2 + pq.2) m w7 (by omega) (by omega) hk7)
              go_wp2_with fail
              refine HM2.out.mono ?_
              rintro e' w8 ⟨rfl, hk8, hc8⟩
              have hbx8 := hc8.blk hbx7 (by simp; omega)
              have hby8 := hc8.blk hby7 (by simp; omega)
              have hbor8 := hc8.blk hbor7 (by simp; omega)
              have hkur8 := hc8.blk hkur7 (by simp; omega)
              have hkvr8 := hc8.blk hkvr7 (by simp; omega)
              have hcr8 := hcr7.news hc8 (by simp; omega)
              clear hbx7 hby7 hbor7 hkur7 hkvr7 hk7 hcr7 hc8 HM2
              have hs0 : 0 ≤ (pp.2 + pq.2) * (m : Int) := Int.mul_nonneg (by omega) (by omega)
              have hs1 : (pp.2 + pq.2) * (m : Int) ≤ 2 ^ 150 := by
                have h2 : (2 : Int) ^ 131 = 2 ^ 130 + 2 ^ 130 := by decide
                have h1 : (pp.2 + pq.2) * (m : Int) ≤ (2 ^ 131) * (130561 : Int) := Int.mul_le_mul (by omega) (by omega) (by omega) (by decide)
                exact Int.le_trans h1 (by decide)
              have HSP := hide (fun W => spread_any ((pp.2 + pq.2) * (m : Int)) W hs0 hs1)
              obtain ⟨sm, hsm⟩ : ∃ sm, sm = (pp.2 + pq.2) * (m : Int) := ⟨_, rfl⟩
              have hert : er = spr sm + own := by rw [HER.out, HT.out, hsm]
              have HERT := hide hert
              rw [← hsm] at HSP hk8
              clear hs0 hs1 hsm hert
              go_wp2_with (refine wpList_loadAcc (by rfl) (.tmp 9) (by rfl) be 0 58 [] [] sm (by rfl) hk8 ?_)
              refine (HSP.out _).mono ?_
              rintro e' w9 ⟨rfl, hc9⟩
              have hbx9 := hc9.blk hbx8 (by simp)
              have hby9 := hc9.blk hby8 (by simp)
              have hbor9 := hc9.blk hbor8 (by simp)
              have hkur9 := hc9.blk hkur8 (by simp)
              have hkvr9 := hc9.blk hkvr8 (by simp)
              have hk9 := hk8.chg hc9 (by simp)
              have hcr9 := hcr8.trans (hc9.mono (by simp))
              clear hbx8 hby8 hbor8 hkur8 hkvr8 hk8 hcr8 hc9 HSP
              obtain ⟨sp, hsp⟩ : ∃ sp, sp = spr sm := ⟨_, rfl⟩
              have HERT2 := HERT.out
              rw [← hsp] at HERT2 ⊢
              have HERT := hide HERT2
              clear hsp HERT2
              go_upto_region 13 with (refine wpList_storeAcc (by rfl) _ _ (by rfl) (by rfl) be 0 58 [] [] (W sm) sp (W_length _) hk9 (by rfl) (by rfl) ?_; intro w10 hk10 hc10)
              have hbx10 := hc10.blk hbx9 (by simp; omega)
              have hby10 := hc10.blk hby9 (by simp; omega)
              have hbor10 := hc10.blk hbor9 (by simp; omega)
              have hkur10 := hc10.blk hkur9 (by simp; omega)
              have hkvr10 := hc10.blk hkvr9 (by simp; omega)
              have hcr10 := hcr9.news hc10 (by simp; omega)
              clear hbx9 hby9 hbor9 hkur9 hkvr9 hk9 hcr9 hc10
              have HA := hide (Add_any be 0 58 bo 0 58 [] [] [] [] sp own w10 (Ne.symm noe) hk10 (At.whole hbor10))
              go_wp2_with fail
              refine HA.out.mono ?_
              rintro e' w11 ⟨rfl, hk11, hc11⟩
              have hbx11 := hc11.blk hbx10 (by simp; omega)
              have hby11 := hc11.blk hby10 (by simp; omega)
              have hbor11 := hc11.blk hbor10 (by simp; omega)
              have hkur11 := hc11.blk hkur10 (by simp; omega)
              have hkvr11 := hc11.blk hkvr10 (by simp; omega)
              have hcr11 := hcr10.news hc11 (by simp; omega)
              rw [← HERT.out] at hk11
              clear hbx10 hby10 hbor10 hkur10 hkvr10 hk10 hcr10 hc11 HA
              have hpe := ptE hbx11 i hlx
              rw [set_getD X i _ (by rw [HXL.out]; omega)] at hpe
              simp only at hpe
              go_wp2_with (first | (refine wpList_loadAcc (by rfl) (.tmp 9) (by rfl) be 0 58 [] [] er (by rfl) hk11 ?_) | (refine wpList_storeAcc (by rfl) _ _ (by rfl) (by rfl) b (i * 69 + 1) tb _ _ (W pp.2) er (W_length _) hpe (by rfl) (by rfl) ?_; intro w12 hk12 hc12))
              have hb12 := unE (x := X.set i (zm, pp.2)) i hlx hk12
              rw [List.set_set, HS2.out] at hb12
              have Y1 := hc12.blk hby11 (by simpa using Ne.symm hne)
              have Y2 := hc12.blk hbor11 (by simp; omega)
              have Y3 := hc12.blk hkur11 (by simp; omega)
              have Y4 := hc12.blk hkvr11 (by simp; omega)
              have Y5 := hc12.blk hk11.toBlk (by simp; omega)
              have Y6 := hcr11.trans hc12
              clear hk12 hc12 hbx11 hby11 hbor11 hkur11 hkvr11 hk11 hcr11 hpe
              go_roundw
              case rel => exact ⟨i + 1, pp.2, pq.2, er, by go_num, by omega, hb12, Y1, Y2, Y3, Y4, Y5, fun _ => HER.out, ⟨ap2, ap3⟩, ⟨aq2, aq3⟩, Y6⟩
              case measure => simp [intOf]; omega
    · have hie : i = n := by omega
      rw [hie, ← HN.out, upTo_all] at hbx
      clear hie
      go_wp2_with fail
      go_end0
      exact ⟨rfl, hbx, hcr⟩
end Sh
end Go.Proofs.Ygctak
