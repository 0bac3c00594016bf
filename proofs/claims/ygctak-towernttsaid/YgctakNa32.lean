/-
  law.towerOn: a script not too long.
-/
import Derived.Test.YgctakNa30
namespace Go.Proofs.Ygctak
open Go.RowKit
set_option linter.unusedVariables false
set_option linter.unusedSimpArgs false
attribute [local go_sem ↓] Go.wp_at_zero Go.wp_at_succ
namespace Na

theorem StE.zero (w : World) : StE w none 0 [] none 0 [] :=
  ⟨by simp, by simp, by simp, fun _ => rfl, (fun x hx => by cases hx), .inl rfl, (fun e he => by simp at he), by simp, by simp, by simp, .inl rfl, .inl rfl, .inl rfl⟩

set_option maxRecDepth 10000 in
set_option maxHeartbeats 4000000 in
theorem tower_good (e n cap be : Nat) (sa : Option Addr) (ops : List (Nat × Nat)) (w : World) (he : e ≤ 3) (hpr : Prod e) (h : Scr w sa n cap ops) (hn : n ≤ 128) (hE : Blk w be 5 [.int .u8 0, .int .u8 e]) :
    Calls Takg.prog 19 #[.slice (some ⟨be, 0, none⟩) 2 2, .slice sa n cap] w fun r w' => r = .returned (.bool true) ∧ Chg [] w w' := by
  have HS := hide h
  have hcn := h.hc
  have hcm := h.hc2
  have HL := hide h.len
  have HPR := hide hpr
  have HE := hide hE
  have hq : decide ((128 : Int) < (n : Int)) = false := by simp; omega
  have HCUT := hide (fun W => cut_no sa n cap W (by omega))
  clear h hpr hE
  go_enter Takg.func19, Takg.ntmps19
  go_wp2_with fail
  refine (HCUT.out _).mono ?_
  rintro r w1 ⟨rfl, rfl⟩
  go_upto_region 4 with (refine wpList_new92 (by rfl) (by rfl) ?_; intro b6 w6 hb6 k6 c6)
  simp only [Act.put, List.setIfInBounds_toArray, List.set_cons_zero, List.set_cons_succ]
  have g6 : w1.heap.size ≤ b6 := by have := hb6.out; omega
  clear hb6
  go_upto_region 5 with fail
  go_loopw [7] (fun x wr => ∃ (i : Nat) (a1 : Option Addr) (c1 : Nat) (es : Es) (a2 : Option Addr) (c2 : Nat) (os : List Int), x = .int .i64 i ∧ i ≤ n ∧ Blk wr b6 92 [.slice a1 es.length c1, .slice a2 os.length c2] ∧ StE wr a1 c1 es a2 c2 os ∧ Hid (runS (ops.take i) = (es.map (·.2), os)) ∧ Chg [] w1 wr) (fun x _ => n - (intOf x).toNat)
  case atStart => exact ⟨0, none, 0, [], none, 0, [], rfl, by omega, k6, StE.zero _, rfl, c6⟩
  case round =>
    clear k6 c6
    obtain ⟨i, a1, c1, es, a2, c2, os, rfl, hi, kb, hSt, HRS, cw⟩ := hrel
    by_cases hlt : i < n
    · obtain ⟨o, ho⟩ : ∃ o, ops[i]? = some o := by
        rw [← HL.out] at hlt
        exact ⟨_, List.getElem?_eq_getElem hlt⟩
      obtain ⟨b, off, aa, na, ca, rfl, hbl, hc0, hc1, hArg, hkd⟩ := (HS.out.chg cw).at_ i o ho
      have hol : os.length < 1000 := by
        have h1 := runS_len (ops.take i)
        rw [HRS.out] at h1
        have h2 : (ops.take i).length ≤ i := by simp; omega
        have h3 : os.length ≤ (ops.take i).length := h1
        omega
      have HST := hide (fun W (hW : Chg [] wr W) => row_any a1 a2 aa c1 c2 o.1 na ca o.2 es os W (hSt.chg0 hW) hol (hArg.chg hW) hkd)
      have HRN : Hid (runS (ops.take (i + 1)) = stp o.1 o.2 (es.map (·.2), os)) := by
        have := runS_succ ho
        rw [HRS.out] at this
        exact this
      obtain ⟨kd, u⟩ := o
      dsimp only at hc0 HST HRN hkd
      obtain ⟨n1, hn1⟩ : ∃ n1, n1 = es.length := ⟨_, rfl⟩
      obtain ⟨m1, hm1⟩ : ∃ m1, m1 = os.length := ⟨_, rfl⟩
      rw [← hn1, ← hm1] at kb
      rw [← hn1, ← hm1] at HST
      have x0 := kb.cell 0 _ rfl
      have x1 := kb.cell 1 _ rfl
      have HKB := hide (And.intro kb cw)
      have i1 : (0 : Int) ≤ (i : Int) := by omega
      have i2 : (i : Int) < (n : Int) := by omega
      clear hSt ho hArg hol kb hn1 hm1 cw
      go_upto_region 7 with fail
      go_region_with (go_at_call 52; refine (HST.out _ (Chg.refl [] _).drew).mono ?_; rintro r w4 ⟨a1', c1', es2, a2', c2', rfl, hS4, hv4, cw4⟩; have k4 := cw4.blk HKB.out.1.drew (by simp); have y0 := k4.cell 0 _ rfl; have y1 := k4.cell 1 _ rfl; have z0 := k4.frozen 0 none; have z1 := k4.frozen 1 none)
      all_goals
        obtain ⟨os2, hos2⟩ : ∃ os2, os2 = (stp kd u (es.map (·.2), os)).2 := ⟨_, rfl⟩
        have HR2 : Hid (stp kd u (es.map (·.2), os) = (es2.map (·.2), os2)) := by
          unfold Hid
          rw [hv4, hos2]
        rw [← hos2] at hS4 ⊢
        have V1 := (k4.set 0 (.slice a1' es2.length c1')).set 1 (.slice a2' os2.length c2')
        have C1 := ((Chg.refl [b6] w4).setCell ⟨b6, 0, none⟩ (by simp) (.slice a1' es2.length c1')).setCell ⟨b6, 1, none⟩ (by simp) (.slice a2' os2.length c2')
        have S1 := hS4.keep C1 k4
        have C2 := (HKB.out.2.trans ((Chg.refl [] wr).drew.trans cw4)).news C1 (by simp; omega)
        have HV := hide (And.intro V1 (And.intro S1 C2))
        clear V1 C1 S1 C2 hS4 cw4 k4 y0 y1 z0 z1 hv4 hos2 x0 x1 hc0 hc1
        generalize (w4.setCell ⟨b6, 0, none⟩ (.slice a1' es2.length c1')).setCell ⟨b6, 1, none⟩ (.slice a2' os2.length c2') = w5 at *
        go_wp2_with fail
        go_roundw
        case rel => exact ⟨i + 1, _, _, es2, _, _, os2, by go_num, by omega, HV.out.1, HV.out.2.1, (by unfold Hid; rw [HRN.out, HR2.out]), HV.out.2.2⟩
        case measure => simp [intOf]; omega
    · have : i = n := by omega
      subst this
      have HRF : Hid (runS ops = (es.map (·.2), os)) := by
        have := HRS.out
        rwa [← HL.out, List.take_length] at this
      clear HRS hlt hi
      go_upto_region 9 with fail
      go_loopw [8] (fun x wq => ∃ j : Nat, x = .int .i64 j ∧ j ≤ 2 ∧ Blk wq b6 92 [.slice a1 es.length c1, .slice a2 os.length c2] ∧ StE wq a1 c1 es a2 c2 os ∧ Chg [] w1 wq) (fun x _ => 2 - (intOf x).toNat)
      case atStart => exact ⟨0, rfl, by omega, kb, hSt, cw⟩
      case round =>
        clear kb hSt cw
        obtain ⟨j, rfl, hj, kb, hSt, cw⟩ := hrel
        by_cases hlt : j < 2
        · obtain ⟨ej, hej, hpj, hce⟩ : ∃ ej : Nat, ej ≤ 3 ∧ Prod ej ∧ wr.cell? ⟨be, j, none⟩ = some (.int .u8 ej) := by
            have kE := cw.blk HE.out (by simp)
            have hj2 : j = 0 ∨ j = 1 := by omega
            rcases hj2 with h | h
            · subst h
              exact ⟨0, by omega, prod0, kE.cell 0 _ rfl⟩
            · subst h
              exact ⟨e, he, HPR.out, kE.cell 1 _ rfl⟩
          have HRUN := hide (Run_any ej i cap sa ops _ hej hpj (HS.out.chg cw) hn)
          rw [HRF.out] at HRUN
          dsimp only at HRUN
          have i1 : (0 : Int) ≤ (j : Int) := by omega
          have HKB := hide (And.intro kb (And.intro hSt cw))
          obtain ⟨n1, hn1⟩ : ∃ n1, n1 = es.length := ⟨_, rfl⟩
          obtain ⟨m1, hm1⟩ : ∃ m1, m1 = os.length := ⟨_, rfl⟩
          rw [← hm1] at HRUN
          have HNM := hide (And.intro hn1 hm1)
          clear kb hSt cw hpj hn1 hm1
          go_wp2_with fail
          refine HRUN.out.mono ?_
          rintro r w7 ⟨x1, x2, es', rfl, hOc, hmap, hOt, cw7⟩
          obtain ⟨n2, hn2⟩ : ∃ n2, n2 = es'.length := ⟨_, rfl⟩
          rw [← hn2]
          have HN2 := hide hn2
          have HOO := hide (And.intro hOc (And.intro hmap (And.intro hOt cw7)))
          clear hOc hmap hOt cw7 hn2 hce
          go_upto_region 12 with (refine wpList_new98 (by rfl) (by rfl) ?_; intro b9 w9 hb9 k9 c9; have y0 := k9.cell 0 _ rfl; have y1 := k9.cell 1 _ rfl; have y2 := k9.cell 2 _ rfl; have z0 := k9.frozen 0 none; have z1 := k9.frozen 1 none; have z2 := k9.frozen 2 none)
          have g9 : w7.heap.size ≤ b9 := by have := hb9.out; omega
          have V1 := ((k9.set 0 (.bool false)).set 1 (.slice x1 n2 n2)).set 2 (.slice x2 m1 m1)
          have C1 := ((c9.setNew ⟨b9, 0, none⟩ g9 (.bool false)).setNew ⟨b9, 1, none⟩ g9 (.slice x1 n2 n2)).setNew ⟨b9, 2, none⟩ g9 (.slice x2 m1 m1)
          clear y0 y1 y2 z0 z1 z2 k9 c9 hb9
          generalize ((w9.setCell ⟨b9, 0, none⟩ (.bool false)).setCell ⟨b9, 1, none⟩ (.slice x1 n2 n2)).setCell ⟨b9, 2, none⟩ (.slice x2 m1 m1) = w8 at *
          have y0 := V1.cell 0 _ rfl
          have y1 := V1.cell 1 _ rfl
          have y2 := V1.cell 2 _ rfl
          have CC := HOO.out.2.2.2.trans C1
          have kb := CC.blk HKB.out.1 (by simp)
          have hSt := HKB.out.2.1.chg0 CC
          have HIS := hide (isOutcome_any x1 x2 a1 a2 c1 c2 es es' os w8 hSt (HOO.out.1.chg0 C1) HOO.out.2.1 (HOO.out.2.2.1.chg0 C1))
          rw [← HN2.out, ← HNM.out.1, ← HNM.out.2] at HIS
          rw [← HNM.out.1, ← HNM.out.2] at kb
          have q0 := kb.cell 0 _ rfl
          have q1 := kb.cell 1 _ rfl
          have HCC := hide (And.intro CC hSt)
          clear V1 C1 CC kb hSt
          go_wp2_with fail
          refine HIS.out.mono ?_
          rintro r w10 ⟨rfl, c10⟩
          have HC10 := hide c10
          clear c10 y0 y1 y2 q0 q1
          go_wp2_with fail
          go_roundw
          case rel => exact ⟨j + 1, by go_num, by omega, HC10.out.blk (HCC.out.1.blk HKB.out.1 (by simp)) (by simp), HCC.out.2.chg0 HC10.out, (HKB.out.2.2.trans HCC.out.1).trans HC10.out⟩
          case measure => simp [intOf]; omega
        · have : j = 2 := by omega
          subst this
          go_wp2_with fail
          go_ret
          exact ⟨rfl, cw⟩
end Na
end Go.Proofs.Ygctak
