/-
  Walk: law.ShadowSmall, 1 ≤ k ≤ 10.
-/
import Derived.Test.YgctakPt15
namespace Go.Proofs.Ygctak
open Go.RowKit
set_option linter.unusedVariables false
set_option linter.unusedSimpArgs false
attribute [local go_sem ↓] Go.wp_at_zero Go.wp_at_succ
attribute [local go_sem] Fl.run_store_complex Fl.run_store_float
namespace Sh
open Ac Fl

theorem info5 : (Takg.prog.info? 5).map (fun i => (i.zero, i.size, i.bytes)) = some (some (.int .u8 0), 1, 1) := by kernel_rfl

theorem rep_set {a b : Value} (i n : Nat) (h : i < n) : (List.replicate i a ++ List.replicate (n - i) b).set i a = List.replicate (i + 1) a ++ List.replicate (n - (i + 1)) b := by
  rw [List.set_append_right _ _ (by simp), List.length_replicate, Nat.sub_self, show n - i = n - (i + 1) + 1 by omega, List.replicate_succ, List.set_cons_zero, List.replicate_succ' (n := i), List.append_assoc]
  rfl

theorem _root_.Go.Proofs.Ygctak.Blk.dig {w : World} {b n : Nat} {d : Int} (h : Blk w b 5 (List.replicate n (.int .u8 d))) : Dig w b 0 (List.replicate n d) :=
  ⟨h.lt, fun i hi => by
    have hi2 : i < n := by simpa using hi
    rw [Nat.zero_add, h.cellq, List.getElem?_replicate, if_pos hi2]
    simp [List.getD_eq_getElem?_getD, hi2]⟩
theorem own_dig {w0 w : World} {v : Value} {n : Nat} (hn : 0 < n) (h : w.ownsRow w0.heap.size 5 1 v n (List.replicate n (.int .u8 0))) : ∃ g cap, v = .slice (some ⟨g, 0, none⟩) n cap ∧ Dig w g 0 (List.replicate n 0) := by
  rcases h.2 with ⟨_, h0⟩ | ⟨g, cap, cur, hv, hb, hg, hnc, _, hcs, ht⟩
  · omega
  · refine ⟨g, cap, hv, ?_, fun i hi => ?_⟩
    · rcases Nat.lt_or_ge g w.heap.size with h1 | h1
      · exact h1
      · rw [Array.getElem?_eq_none h1] at hg; cases hg
    · have hi2 : i < n := by simpa using hi
      have hc : w.cell? ⟨g, i, none⟩ = cur[i]? := by simp [World.cell?, hg]
      have h2 : (cur.toList.take (n * 1))[i]? = some (.int .u8 0) := by rw [ht, List.getElem?_replicate, if_pos hi2]
      rw [List.getElem?_take_of_lt (by omega), Array.getElem?_toList] at h2
      rw [Nat.zero_add, hc, h2]
      simp [List.getD_eq_getElem?_getD, hi2]
theorem consW {P : Program} {Q : Exit → Act → World → Prop} {md : Region.Mode} {S : World → Prop} {L : List Oper} {fuel : Nat} {listed : Array Bool} {a : Act} {w : World} {i : Nat} {o : Oper} {rs : List Nat} (ho : L[i]? = some o) (hg : Region.wanted o (yielded L.toArray a.tmps) = true)
    (h : ∀ K' : Act → World → Prop, Shut (∀ a w, S w → (S w → wpAnyH P md L.toArray Q S fuel (listed.setIfInBounds i true) a w) → K' a w) → Oper.wp P o a w K' Q)
    (hs : AllReadyH P md L.toArray Q S fuel listed a w rs) : AllReadyH P md L.toArray Q S fuel listed a w (i :: rs) :=
  AllReadyH.cons (by simpa using ho) (fun K hK => by
    rw [if_pos hg]
    exact h K hK) hs
theorem run_eql58 {a : Act} {o : Oper} (x y : Operand) (ho : o.op = .binOp .eql 58 x y 58) (p q : Int) (w : World) (hx : a.eval x = .agg (W p).toArray) (hy : a.eval y = .agg (W q).toArray) (fp : Fits p) (fq : Fits q) :
    (execOp a.eval o).run Takg.prog w = .ok (.value (.bool (decide (p = q)))) w := by
  unfold execOp
  rw [ho]
  simp only [hx, hy]
  rw [Sem.run_bind, Sem.run_bind, guard58e]
  simp only [Result.andThen_ok]
  rw [run_eql_struct, acc_eq p q fp fq]
  rfl
theorem grown_chg {w w' : World} (h : w.grownBy w' none) : Chg [] w w' := ⟨h.os, h.tape, h.output, h.size, fun k hk _ => h.block k hk (by simp)⟩

set_option maxRecDepth 100000 in
set_option maxHeartbeats 2000000 in
theorem law_on (k d : Nat) (w : World) (h1 : 1 ≤ k) (h2 : k ≤ 10) (hd : d ≤ 255) :
    Calls Takg.prog 11 #[.int .u8 k, .int .u8 d] w fun e w' => e = .returned (.bool true) ∧ Chg [] w w' := by
  have hB := fun W => Bound_any k d W (by omega) hd
  have hbd : bound k d = grt (shRun k d [] []) := by unfold bound; rw [if_pos ⟨h1, h2⟩]
  have hs0 := grt_pos k d [] []
  have hs1 := grt_small k d [] [] h1 h2 hd
  have hsame := fun xa xb => grt_same k d xa xb [] []
  rw [hbd] at hB
  obtain ⟨g, hg⟩ : ∃ g, g = grt (shRun k d [] []) := ⟨_, rfl⟩
  rw [← hg] at hB hs0 hs1 hsame
  have HB := hide hB
  have HSAME := hide hsame
  have fg : Fits g := fits_of (by omega) (Int.le_trans (Int.le_of_lt hs1) (by decide))
  have fq : Fits (1 * 2 ^ 78) := fits_of (by decide) (by decide)
  have hsgn : sgn g = 1 := by unfold sgn; rw [if_neg (by omega), if_neg (by omega)]
  have hcmp : cmp g (1 * 2 ^ 78) = -1 := by unfold cmp; rw [if_pos (by rw [Int.one_mul]; exact hs1)]
  have HSG := hide hsgn
  have HCM := hide hcmp
  have hn : 2 ^ (k - 1) ≤ 512 := (show 2 ^ (k - 1) ≤ 2 ^ 9 from Nat.pow_le_pow_right (n := 2) (by omega) (by omega))
  have hn0 : 1 ≤ 2 ^ (k - 1) := Nat.pos_of_ne_zero (by simp)
  have hw := wrap64_pow (k - 1) (by omega)
  have hkk : 2 ^ k = 2 ^ (k - 1) + 2 ^ (k - 1) := by rw [show k = k - 1 + 1 by omega, Nat.pow_succ]; simp; omega
  clear hB hbd hsame hg hsgn hcmp hs0 hs1
  go_enter Takg.func11, Takg.ntmps11
  go_upto_region 5 with (first | (refine (HB.out _).mono ?_; rintro e1 w1 ⟨rfl, hc1⟩) | (refine wpList_newAcc (by rfl) (by rfl) (by rfl) (.tmp 5) _ (by rfl) g (by rfl) (fun _ => by rfl) (fun _ => by rfl) ?_; intro b5 w2 hb5 hk5 hc2) | (refine wpList_acc (by rfl) _ (by rfl) 1 (by rfl) (by omega) (by omega) ?_) | (refine wpList_newAcc (by rfl) (by rfl) (by rfl) (.tmp 6) _ (by rfl) 1 (by rfl) (fun _ => by rfl) (fun _ => by rfl) ?_; intro b6 w3 hb6 hk6 hc3))
  have hk53 := hc3.blk hk5 (by simp)
  have n56 : b5 ≠ b6 := by have := hb6.out; have := hk5.lt; omega
  have g5 : w.heap.size ≤ b5 := by have := hb5.out; have := hc1.size; omega
  have g6 : w.heap.size ≤ b6 := by have := hb6.out; have := hc1.size; have := hc2.size; omega
  have hc : Chg [] w w3 := (hc1.trans hc2).trans hc3
  clear hc1 hc2 hc3 hk5 hb5 hb6
  rename_i y1 y2
  obtain ⟨n, en⟩ : ∃ n, n = 2 ^ (k - 1) := ⟨_, rfl⟩
  rw [← en] at hn hn0 hw hkk
  have HW := hide hw
  have HKK := hide hkk
  have HEN := hide en
  clear hw hkk en
  go_wp2_with fail
  refine (Shl_any b6 0 58 [] [] 1 78 _ (by omega) (At.whole hk6)).mono ?_
  rintro e4 w4 ⟨rfl, hk64, hc4⟩
  have hk54 := hc4.blk hk53 (by simpa using n56)
  have hc4' := hc.news hc4 (by simp; omega)
  clear hk6 hk53 hc hc4
  go_wp2_with fail
  refine (Sign_any b5 0 58 [] [] g _ fg (At.whole hk54)).mono ?_
  rintro e5 w5 ⟨rfl, rfl⟩
  rw [HSG.out]
  go_wp2_with fail
  refine (Cmp_any b5 0 58 b6 0 58 [] [] [] [] g (1 * 2 ^ 78) _ fg fq (At.whole hk54) hk64).mono ?_
  rintro e6 w6 ⟨rfl, nq, rfl⟩
  rw [HCM.out]
  have hk56 := hk54.drewN nq
  have hc6 := hc4'.drewN nq
  generalize w5.drewN nq = w6 at *
  clear hk54 hk64 hc4'
  have hw := HW.out
  go_upto_region 9 with fail
  rw [hw]
  clear hw
  have hmk := fun W => make_run (P := Takg.prog) 22 5 (.int .u8 0) 1 n rfl Takg.underlying22 info5 (by omega) (by omega) W
  go_cut [8, 9] (fun u v wc => ∃ bz bf, u = .slice (some ⟨bz, 0, none⟩) n n ∧ v = .slice (some ⟨bf, 0, none⟩) n n ∧ bz ≠ bf ∧ b5 ≠ bz ∧ b5 ≠ bf ∧ w.heap.size ≤ bz ∧ w.heap.size ≤ bf ∧ Blk wc bz 5 (List.replicate n (.int .u8 0)) ∧ Blk wc bf 5 (List.replicate n (.int .u8 0)) ∧ Blk wc b5 58 (W g) ∧ Chg [] w wc)
  case first =>
    go_region
    all_goals (
      go_wp2_with fail
      go_meet)
    all_goals (
      have X1 := ((Blk.newRep w6 n (Value.int .u8 0) 5).alloc (Obj.cells (Array.replicate n (Value.int .u8 0)) 5)).drew
      have X2 := (Blk.newRep (w6.alloc (Obj.cells (Array.replicate n (Value.int .u8 0)) 5)) n (Value.int .u8 0) 5).drew
      rw [World.size_alloc] at X2
      have X3 := ((hk56.alloc (Obj.cells (Array.replicate n (Value.int .u8 0)) 5)).alloc (Obj.cells (Array.replicate n (Value.int .u8 0)) 5)).drew
      have X4 := ((hc6.alloc (Obj.cells (Array.replicate n (Value.int .u8 0)) 5)).alloc (Obj.cells (Array.replicate n (Value.int .u8 0)) 5)).drew
      have X5 := hc6.size
      have X6 := hk56.lt)
    · exact ⟨_, _, rfl, rfl, by omega, by omega, by omega, X5, by omega, X1, X2, X3, X4⟩
    · exact ⟨_, _, rfl, rfl, by omega, by omega, by omega, by omega, X5, X2, X1, X3, X4⟩
  case rest =>
    clear hmk hk56 hc6
    obtain ⟨bz, bf, rfl, rfl, nzf, n5z, n5f, gz, gf, hkz, hkf, hk5, hc⟩ := hcut
    go_upto_block 0 with fail
    go_cut [] (fun wc => Blk wc bf 5 (List.replicate n (.int .u8 d)) ∧ Blk wc bz 5 (List.replicate n (.int .u8 0)) ∧ Blk wc b5 58 (W g) ∧ Chg [] w wc)
    case first =>
      go_wp2_with fail
      go_loopw [10] (fun v wr => ∃ i : Nat, v = .int .i64 i ∧ i ≤ n ∧ Blk wr bf 5 (List.replicate i (.int .u8 d) ++ List.replicate (n - i) (.int .u8 0)) ∧ Blk wr bz 5 (List.replicate n (.int .u8 0)) ∧ Blk wr b5 58 (W g) ∧ Chg [] w wr) (fun v _ => n - (intOf v).toNat)
      case atStart => exact ⟨0, rfl, by omega, by simpa using hkf, hkz, hk5, hc⟩
      case round =>
        clear hkf hkz hk5 hc
        obtain ⟨i, rfl, hi, hkf, hkz, hk5, hc⟩ := hrel
        by_cases hil : i < n
        · have k0 := hkf.cell i (.int .u8 0) (by rw [List.getElem?_append_right (by simp), List.length_replicate, Nat.sub_self, List.getElem?_replicate, if_pos (by omega)])
          have f0 := hkf.frozen i none
          have hst := hkf.set i (.int .u8 d)
          rw [rep_set i n hil] at hst
          have hz2 := hkz.set_ne ⟨bf, i, none⟩ nzf (.int .u8 d)
          have h52 := hk5.set_ne ⟨bf, i, none⟩ n5f (.int .u8 d)
          have hc2 := hc.setNew ⟨bf, i, none⟩ gf (.int .u8 d)
          go_wp2_with fail
          go_roundw
          case rel => exact ⟨i + 1, by go_num, by omega, hst, hz2, h52, hc2⟩
          case measure => simp [intOf]; omega
        · have hie : i = n := by omega
          rw [hie, Nat.sub_self] at hkf
          clear hie
          go_wp2_with fail
          go_meet
          exact ⟨by simpa using hkf, hkz, hk5, hc⟩
    case rest =>
      clear hkf hkz hk5 hc
      obtain ⟨hkf, hkz, hk5, hc⟩ := hcut
      go_upto_if 50 with fail
      go_cut [11] (fun v wc => ∃ bm nm cm, v = .slice (some ⟨bm, 0, none⟩) nm cm ∧ Dig wc bm 0 (List.replicate nm 0) ∧ Hid (nm = if n < 512 then n + 1 else n) ∧ Blk wc bf 5 (List.replicate n (.int .u8 d)) ∧ Blk wc bz 5 (List.replicate n (.int .u8 0)) ∧ Blk wc b5 58 (W g) ∧ Chg [] w wc)
      case first =>
        by_cases hlt : n < 512
        · obtain ⟨i5, hi5, hz5, hs5, hb5⟩ : ∃ i, Takg.prog.info? 5 = some i ∧ i.zero = some (.int .u8 0) ∧ i.size = 1 ∧ i.bytes = 1 := by
            have := info5
            cases hie : Takg.prog.info? 5 with
            | none => rw [hie] at this; cases this
            | some i =>
              rw [hie] at this
              simp at this
              exact ⟨i, rfl, this.1, this.2.1, this.2.2⟩
          have HI := hide hi5
          have HZ5 := hide hz5
          have HS5 := hide hs5
          have HB5 := hide hb5
          clear hi5 hz5 hs5 hb5
          go_upto_region 16 with fail
          have ho : ∀ b : Addr, some (⟨bz, 0, none⟩ : Addr) = some b → ∀ (j : Nat) (u : Value), (List.replicate n (Value.int .u8 0))[j]? = some u → (wc.alloc (Obj.cells #[Value.int .u8 0] 5)).cell? (b.add j) = some u := fun b hb j u hj => by
            cases hb
            rw [Addr.add_mid, Nat.zero_add]
            exact (hkz.alloc _).cell j u hj
          have hnw : ∀ (j : Nat) (u : Value), [Value.int .u8 0][j]? = some u → (wc.alloc (Obj.cells #[Value.int .u8 0] 5)).cell? ((⟨wc.heap.size, 0, none⟩ : Addr).add j) = some u := fun j u hj => by
            rw [Addr.add_mid, Nat.zero_add]
            exact (Blk.new wc [Value.int .u8 0] 5).cell j u hj
          have HO := hide ho
          have HNW := hide hnw
          have X1 := hkf.alloc (Obj.cells #[Value.int .u8 0] 5)
          have X2 := hkz.alloc (Obj.cells #[Value.int .u8 0] 5)
          have X3 := hk5.alloc (Obj.cells #[Value.int .u8 0] 5)
          have X4 := hc.alloc (Obj.cells #[Value.int .u8 0] 5)
          clear ho hnw
          go_wp2_with (refine wpList_append_grows _ (by rfl) (.tmp 51) (.tmp 52) 22 (by rfl) 5 i5 (.int .u8 0) 1 1 Takg.underlying22 HI.out HZ5.out HS5.out HB5.out (by rfl) (by omega) (some ⟨bz, 0, none⟩) n n (List.replicate n (.int .u8 0)) (by rfl) (fun h => by cases h) (by simp) HO.out _ 1 1 [.int .u8 0] (by rfl) (by simp) HNW.out (by intro u hu; simp at hu; subst hu; rfl) (by omega) (by unfold maxLen; omega) (by omega) ?_; intro v' w7 hown hgr)
          rw [← List.replicate_succ'] at hown
          obtain ⟨bm, cm, rfl, hdm⟩ := own_dig (by omega) hown
          have hcg := grown_chg hgr
          go_meet
          exact ⟨bm, n + 1, cm, rfl, hdm, by unfold Hid; rw [if_pos hlt], hcg.blk X1 (by simp), hcg.blk X2 (by simp), hcg.blk X3 (by simp), X4.trans hcg⟩
        · go_wp2_with fail
          go_meet
          exact ⟨bz, n, n, rfl, hkz.dig, by unfold Hid; rw [if_neg hlt], hkf, hkz, hk5, hc⟩
      case rest =>
        clear hkf hkz hk5 hc
        obtain ⟨bm, nm, cm, rfl, hdm, HNM, hkf, hkz, hk5, hc⟩ := hcut
        have hkk := HKK.out
        have hnm := HNM.out
        have hn1 : k = 1 ∨ 2 ≤ n := by
          rcases Nat.lt_or_ge k 2 with h | h
          · left; omega
          · right
            have h3 : 2 ^ 1 ≤ 2 ^ (k - 1) := Nat.pow_le_pow_right (n := 2) (by omega) (by omega)
            rw [← HEN.out] at h3
            omega
        have hnm2 : n ≤ nm ∧ nm ≤ n + 1 ∧ nm ≤ 512 := by rw [hnm]; split <;> omega
        have hnk : 2 ^ (k - 1) = n := HEN.out.symm
        have digF : Digs d (List.replicate n (d : Int)) := fun i hi => by
          have hi2 : i < n := by simpa using hi
          have e : (List.replicate n (d : Int)).getD i 0 = d := by simp [List.getD_eq_getElem?_getD, hi2]
          rw [e]; omega
        have digZ : ∀ m, Digs d (List.replicate m (0 : Int)) := fun m i hi => by
          have hi2 : i < m := by simpa using hi
          have e : (List.replicate m (0 : Int)).getD i 0 = 0 := by simp [List.getD_eq_getElem?_getD, hi2]
          rw [e]; omega
        have R1 : ∀ W, Dig W bf 0 (List.replicate n (d : Int)) → Calls Takg.prog 21 #[.slice (some ⟨bf, 0, none⟩) n n, .slice (some ⟨bf, 0, none⟩) n n, .int .u8 d] W fun e w' =>
            ∃ bx, e = .returned (.slice (some ⟨bx, 0, none⟩) (2 ^ k) (2 ^ k)) ∧ Blk w' bx 113 (Pts (shRun k d (List.replicate n (d : Int)) (List.replicate n (d : Int)))) ∧ Chg [] W w' := fun W hW => by
          have := Run_any bf 0 n bf 0 n k d (List.replicate n (d : Int)) (List.replicate n (d : Int)) W h1 h2 hd (by simp; omega) (by simp; omega) (by simp; omega) (by simp; omega) (by simp; omega) (by rw [hnk]; simp; omega) hW hW digF digF
          simpa only [List.length_replicate] using this
        have R2 : ∀ W, Dig W bz 0 (List.replicate n (0 : Int)) → Dig W bm 0 (List.replicate nm (0 : Int)) → Calls Takg.prog 21 #[.slice (some ⟨bz, 0, none⟩) n n, .slice (some ⟨bm, 0, none⟩) nm cm, .int .u8 d] W fun e w' =>
            ∃ bx, e = .returned (.slice (some ⟨bx, 0, none⟩) (2 ^ k) (2 ^ k)) ∧ Blk w' bx 113 (Pts (shRun k d (List.replicate n (0 : Int)) (List.replicate nm (0 : Int)))) ∧ Chg [] W w' := fun W hW hW2 => by
          have := Run_any bz 0 n bm 0 cm k d (List.replicate n (0 : Int)) (List.replicate nm (0 : Int)) W h1 h2 hd (by simp; omega) (by simp; omega) (by simp; omega) (by simp; omega) (by simp; omega) (by rw [hnk]; simp; omega) hW hW2 (digZ n) (digZ nm)
          simpa only [List.length_replicate] using this
        have hn2 : 2 ^ k ≤ 1024 := by omega
        have G1 := fun b W hB => Greatest_any b 113 (2 ^ k) (shRun k d (List.replicate n (d : Int)) (List.replicate n (d : Int))) W (shRun_length _ _ _ _) hn2 hB (shRun_keep k d _ _ h1 h2 hd digF digF)
        have G2 := fun b W hB => Greatest_any b 113 (2 ^ k) (shRun k d (List.replicate n (0 : Int)) (List.replicate nm (0 : Int))) W (shRun_length _ _ _ _) hn2 hB (shRun_keep k d _ _ h1 h2 hd (digZ n) (digZ nm))
        rw [HSAME.out] at G1 G2
        generalize shRun k d (List.replicate n (d : Int)) (List.replicate n (d : Int)) = X1 at *
        generalize shRun k d (List.replicate n (0 : Int)) (List.replicate nm (0 : Int)) = X2 at *
        generalize 2 ^ k = N at *
        have H1 := hide R1
        have H2 := hide R2
        have H3 := hide G1
        have H4 := hide G2
        clear R1 R2 G1 G2 hkk hnm hn1 hnk digF digZ
        go_upto_region 17 with fail
        refine wp_region_held_drew (S := fun w1 => Dig w1 bf 0 (List.replicate n (d : Int)) ∧ Dig w1 bz 0 (List.replicate n (0 : Int)) ∧ Dig w1 bm 0 (List.replicate nm (0 : Int)) ∧ Blk w1 b5 58 (W g) ∧ Chg [] w w1) (by kernel_rfl) ⟨hkf.drew.dig, hkz.drew.dig, hdm.drew, hk5.drew, hc.drew⟩ (fun hHeld => ?_)
        clear hkf hkz hk5 hc hdm
        refine takeL 0 (v := ?_) rfl (by kernel_rfl) (by kernel_rfl) (by kernel_rfl) (fun _ _ _ h => h) (by rfl) ?_ hHeld ?_
        rotate_left
        · (intro w1 hSw; go_simp; try with_reducible rfl)
        simp only [Act.put, List.setIfInBounds_toArray, List.set_cons_zero, List.set_cons_succ]
        refine takeL 1 (v := ?_) rfl (by kernel_rfl) (by kernel_rfl) (by kernel_rfl) (fun _ _ _ h => h) (by rfl) ?_ hHeld ?_
        rotate_left
        · (intro w1 hSw; go_simp; try with_reducible rfl)
        simp only [Act.put, List.setIfInBounds_toArray, List.set_cons_zero, List.set_cons_succ]
        refine takeL 2 (v := ?_) rfl (by kernel_rfl) (by kernel_rfl) (by kernel_rfl) (fun _ _ _ h => h) (by rfl) ?_ hHeld ?_
        rotate_left
        · (intro w1 hSw; go_simp; try with_reducible rfl)
        simp only [Act.put, List.setIfInBounds_toArray, List.set_cons_zero, List.set_cons_succ]
        refine takeL 5 rfl (by kernel_rfl) (by kernel_rfl) (by kernel_rfl) (fun _ _ _ h => h) (by rfl) (fun w1 hSw => run_load58 (.tmp 5) rfl b5 0 g w1 rfl (At.whole hSw.2.2.2.1).rangeAt) hHeld ?_
        simp only [Act.put, List.setIfInBounds_toArray, List.set_cons_zero, List.set_cons_succ]
        refine wpAnyH_ready (rs := [3]) (by kernel_rfl) (by simp) ?_
        refine consW rfl (by rfl) (fun K hK => ?_) AllReadyH.nil
        go_simp
        refine (H1.out _ hHeld.1).mono ?_
        rintro e7 w7 ⟨bx, rfl, hkx, hc7⟩
        refine hK.out _ _ ⟨hc7.dig hHeld.1 (by simp), hc7.dig hHeld.2.1 (by simp), hc7.dig hHeld.2.2.1 (by simp), hc7.blk hHeld.2.2.2.1 (by simp), hHeld.2.2.2.2.trans hc7⟩ (fun hHeld => ?_)
        clear hK K
        try simp only [Act.put, List.setIfInBounds_toArray, List.set_cons_zero, List.set_cons_succ, List.toList_toArray]
        clear hc7
        refine wpAnyH_ready (rs := [4]) (by kernel_rfl) (by simp) ?_
        refine consW rfl (by rfl) (fun K hK => ?_) AllReadyH.nil
        go_simp
        refine (H3.out _ _ hkx).mono ?_
        rintro e8 w8 ⟨rfl, hc8⟩
        refine hK.out _ _ ⟨hc8.dig hHeld.1 (by simp), hc8.dig hHeld.2.1 (by simp), hc8.dig hHeld.2.2.1 (by simp), hc8.blk hHeld.2.2.2.1 (by simp), hHeld.2.2.2.2.trans hc8⟩ (fun hHeld => ?_)
        clear hK K
        try simp only [Act.put, List.setIfInBounds_toArray, List.set_cons_zero, List.set_cons_succ, List.toList_toArray]
        clear hc8 hkx
        refine takeL 6 rfl (by kernel_rfl) (by kernel_rfl) (by kernel_rfl) (fun _ _ _ h => h) (by rfl) (fun w1 hSw => run_eql58 (.tmp 58) (.tmp 59) rfl g g w1 rfl rfl fg fg) hHeld ?_
        simp only [Act.put, List.setIfInBounds_toArray, List.set_cons_zero, List.set_cons_succ, decide_true]
        refine takeL 7 (v := ?_) rfl (by kernel_rfl) (by kernel_rfl) (by kernel_rfl) (fun _ _ _ h => h) (by rfl) ?_ hHeld ?_
        rotate_left
        · (intro w1 hSw; go_simp; try with_reducible rfl)
        simp only [Act.put, List.setIfInBounds_toArray, List.set_cons_zero, List.set_cons_succ]
        refine takeL 8 (v := ?_) rfl (by kernel_rfl) (by kernel_rfl) (by kernel_rfl) (fun _ _ _ h => h) (by rfl) ?_ hHeld ?_
        rotate_left
        · (intro w1 hSw; go_simp; try with_reducible rfl)
        simp only [Act.put, List.setIfInBounds_toArray, List.set_cons_zero, List.set_cons_succ]
        refine takeL 9 (v := ?_) rfl (by kernel_rfl) (by kernel_rfl) (by kernel_rfl) (fun _ _ _ h => h) (by rfl) ?_ hHeld ?_
        rotate_left
        · (intro w1 hSw; go_simp; try with_reducible rfl)
        simp only [Act.put, List.setIfInBounds_toArray, List.set_cons_zero, List.set_cons_succ]
        refine takeL 10 (v := ?_) rfl (by kernel_rfl) (by kernel_rfl) (by kernel_rfl) (fun _ _ _ h => h) (by rfl) ?_ hHeld ?_
        rotate_left
        · (intro w1 hSw; go_simp; try with_reducible rfl)
        simp only [Act.put, List.setIfInBounds_toArray, List.set_cons_zero, List.set_cons_succ]
        refine takeL 13 rfl (by kernel_rfl) (by kernel_rfl) (by kernel_rfl) (fun _ _ _ h => h) (by rfl) (fun w1 hSw => run_load58 (.tmp 5) rfl b5 0 g w1 rfl (At.whole hSw.2.2.2.1).rangeAt) hHeld ?_
        simp only [Act.put, List.setIfInBounds_toArray, List.set_cons_zero, List.set_cons_succ]
        refine wpAnyH_ready (rs := [11]) (by kernel_rfl) (by simp) ?_
        refine consW rfl (by rfl) (fun K hK => ?_) AllReadyH.nil
        go_simp
        refine (H2.out _ hHeld.2.1 hHeld.2.2.1).mono ?_
        rintro e9 w9 ⟨by2, rfl, hkx, hc7⟩
        refine hK.out _ _ ⟨hc7.dig hHeld.1 (by simp), hc7.dig hHeld.2.1 (by simp), hc7.dig hHeld.2.2.1 (by simp), hc7.blk hHeld.2.2.2.1 (by simp), hHeld.2.2.2.2.trans hc7⟩ (fun hHeld => ?_)
        clear hK K
        try simp only [Act.put, List.setIfInBounds_toArray, List.set_cons_zero, List.set_cons_succ, List.toList_toArray]
        clear hc7
        refine wpAnyH_ready (rs := [12]) (by kernel_rfl) (by simp) ?_
        refine consW rfl (by rfl) (fun K hK => ?_) AllReadyH.nil
        go_simp
        refine (H4.out _ _ hkx).mono ?_
        rintro e8 w8 ⟨rfl, hc8⟩
        refine hK.out _ _ ⟨hc8.dig hHeld.1 (by simp), hc8.dig hHeld.2.1 (by simp), hc8.dig hHeld.2.2.1 (by simp), hc8.blk hHeld.2.2.2.1 (by simp), hHeld.2.2.2.2.trans hc8⟩ (fun hHeld => ?_)
        clear hK K
        try simp only [Act.put, List.setIfInBounds_toArray, List.set_cons_zero, List.set_cons_succ, List.toList_toArray]
        clear hc8 hkx
        refine takeL 14 rfl (by kernel_rfl) (by kernel_rfl) (by kernel_rfl) (fun _ _ _ h => h) (by rfl) (fun w1 hSw => run_eql58 (.tmp 66) (.tmp 67) rfl g g w1 rfl rfl fg fg) hHeld ?_
        simp only [Act.put, List.setIfInBounds_toArray, List.set_cons_zero, List.set_cons_succ, decide_true]
        refine takeL 15 (v := ?_) rfl (by kernel_rfl) (by kernel_rfl) (by kernel_rfl) (fun _ _ _ h => h) (by rfl) ?_ hHeld ?_
        rotate_left
        · (intro w1 hSw; go_simp; try with_reducible rfl)
        simp only [Act.put, List.setIfInBounds_toArray, List.set_cons_zero, List.set_cons_succ]
        refine takeL 16 (v := ?_) rfl (by kernel_rfl) (by kernel_rfl) (by kernel_rfl) (fun _ _ _ h => h) (by rfl) ?_ hHeld ?_
        rotate_left
        · (intro w1 hSw; go_simp; try with_reducible rfl)
        simp only [Act.put, List.setIfInBounds_toArray, List.set_cons_zero, List.set_cons_succ]
        refine wpAnyH_done (by kernel_rfl) ?_ _
        obtain ⟨_, _, _, _, hcE⟩ := hHeld
        go_wp2_with fail
        go_ret
        exact ⟨rfl, hcE⟩
end Sh
end Go.Proofs.Ygctak
