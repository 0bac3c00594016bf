/-
  Walk: shew.Finish.
-/
import Derived.Test.YgctakDoorSh2
namespace Go.Proofs.YgctakDoor
open Go.RowKit
set_option linter.unusedVariables false
set_option linter.unusedSimpArgs false
attribute [local go_sem ↓] Go.wp_at_zero Go.wp_at_succ
namespace Shw
open Ac Rn Fl

theorem take_rev (qs : List Nat) (k : Nat) (h : k < qs.length) : ((qs.take (k + 1)).map V).reverse = V (qs.getD k 0) :: ((qs.take k).map V).reverse := by
  rw [List.take_succ_eq_append_getElem h, List.map_append, List.reverse_append, List.getD_eq_getElem?_getD, List.getElem?_eq_getElem h]
  rfl

theorem eq0_V {x : Nat} (hx : Finite x) : (FloatKind.f64.format.order x 0 == some .eq) = decide (V x = 0) := by
  have := eq_V hx zero_fin.1; rwa [zero_fin.2] at this
theorem lt0_V {x : Nat} (hx : Finite x) : (FloatKind.f64.format.order x 0 == some .lt) = decide (V x < 0) := by
  have := lt_V hx zero_fin.1; rwa [zero_fin.2] at this
theorem gt0_V {x : Nat} (hx : Finite x) : (FloatKind.f64.format.order x 0 == some .gt) = decide (0 < V x) := by
  have := gt_V hx zero_fin.1; rwa [zero_fin.2] at this

set_option maxHeartbeats 1000000 in
theorem Finish_any (E b cap : Nat) (qs : List Nat) (cs : List Value) (w : World) (hE : E ≤ 1006) (hn : qs.length ≤ 3) (hcap2 : cap ≤ 2000) (hpre : Pre cs qs) (hb : Blk w b 33 cs) (hps : ∀ p ∈ qs, Dbl E p) :
    Calls Takg.prog 29 #[.slice (some ⟨b, 0, none⟩) qs.length cap] w fun e w' => ∃ r, e = .returned (.float .f64 r) ∧ Finite r ∧ r < 2 ^ 64 ∧ (qs = [] → r = 0) ∧ V r = finV (qs.map V).reverse ∧ w' = w := by
  obtain ⟨R, hR⟩ : ∃ R, R = finV (qs.map V).reverse := ⟨_, rfl⟩
  rw [← hR]
  by_cases h0 : qs = []
  · subst h0
    have HR := hide hR
    clear hR hps hpre
    go_enter Takg.func29, Takg.ntmps29
    go_wp2_with fail
    go_ret
    exact ⟨0, rfl, zero_fin.1, by omega, fun _ => rfl, by rw [HR.out, zero_fin.2]; rfl, rfl⟩
  · obtain ⟨n, hn0⟩ : ∃ n, qs.length = n + 1 := ⟨qs.length - 1, by have := List.length_pos_iff.2 h0; omega⟩
    have hcell : ∀ j, j < n + 1 → w.cell? ⟨b, j, none⟩ = some (.float .f64 (qs.getD j 0)) := fun j hj => hb.cell j _ (hpre j (by omega))
    have hD : ∀ j, j < n + 1 → Dbl E (qs.getD j 0) := fun j hj => by
      apply hps
      rw [List.getD_eq_getElem?_getD, List.getElem?_eq_getElem (by omega)]
      exact List.getElem_mem _
    have hTR : ∀ k, k < n + 1 → ((qs.take (k + 1)).map V).reverse = V (qs.getD k 0) :: ((qs.take k).map V).reverse := fun k hk => take_rev qs k (by omega)
    have hR1 : R = finEnd (finGo ((qs.take n).map V).reverse (V (qs.getD n 0)) 0) := by
      have := hTR n (by omega)
      rw [List.take_of_length_le (by omega)] at this
      rw [hR, this]
      rfl
    have HC := hide hcell
    have HD := hide hD
    have HTR := hide hTR
    have HR := hide hR1
    have HNE := hide h0
    rw [hn0] at hn ⊢
    have c0 := hcell n (by omega)
    obtain ⟨h1, hh1⟩ : ∃ h, h = qs.getD n 0 := ⟨_, rfl⟩
    have hDn := hD n (by omega)
    rw [← hh1] at c0 hDn hR1
    have HR1 := hide hR1
    have HDn := hide hDn
    clear hcell hD hTR hR1 hR h0 hn0 hh1 hDn HR hps hpre hb
    have hnb : (((n : Int) + 1) == 0) = false := by rw [beq_eq_false_iff_ne]; omega
    go_enter Takg.func29, Takg.ntmps29
    go_wp2_with fail
    go_loopw [3, 4, 5] (fun m hi lo wr => ∃ (m' : Nat) (h l : Nat), m = .int .i64 m' ∧ hi = .float .f64 h ∧ lo = .float .f64 l ∧ m' ≤ n ∧ Hid (Dbl (E + 3 * (n - m')) h) ∧ Hid (Dbl (E + 3 * (n - m')) l) ∧ Hid (R = finEnd (finGo ((qs.take m').map V).reverse (V h) (V l))) ∧ w = wr) (fun m _ _ _ => (intOf m).toNat)
    case atStart => exact ⟨n, h1, 0, by go_num, rfl, rfl, Nat.le_refl _, by rw [Nat.sub_self]; exact HDn.out, ⟨zero_fin.1, by omega, by rw [zero_fin.2]; exact Nat.zero_le _⟩, by unfold Hid; rw [zero_fin.2]; exact HR1.out, rfl⟩
    case round =>
      clear c0 HR1 HDn
      obtain ⟨m, h, l, rfl, rfl, rfl, hm, HH, HL, HEQ, rfl⟩ := hrel
      by_cases hm0 : m = 0
      · subst hm0
        have heq : R = V h := HEQ.out
        have HV := hide heq
        clear heq HEQ
        go_wp2_with fail
        go_ret
        exact ⟨h, rfl, HH.out.fin, HH.out.lt, fun h => absurd h HNE.out, HV.out.symm, rfl⟩
      · obtain ⟨k, rfl⟩ : ∃ k, m = k + 1 := ⟨m - 1, by omega⟩
        have hcl := HC.out k (by omega)
        obtain ⟨p, hp⟩ : ∃ p, p = qs.getD k 0 := ⟨_, rfl⟩
        have hpD := HD.out k (by omega)
        have heq := HEQ.out
        rw [HTR.out k (by omega)] at heq
        rw [← hp] at hcl hpD heq
        simp only [finGo] at heq
        have hl0 := eq0_V HL.out.fin
        have HPD := hide hpD
        clear hp hpD HEQ
        by_cases hz : V l = 0
        · rw [decide_eq_true hz] at hl0
          rw [if_pos hz] at heq
          have HT := hide (fun W : World => FastTwoSum_any (E + 3 * (n - (k + 1))) h p W (by omega) HH.out (HPD.out.mono (by omega)))
          have HEQ := hide heq
          clear hz heq
          go_wp2_with fail
          refine (HT.out _).mono ?_
          rintro e w' ⟨s, t, rfl, hs, ht, vs, vt, rfl⟩
          have HS := hide hs
          have HTT := hide ht
          have HVS := hide vs
          have HVT := hide vt
          clear hs ht vs vt HT
          go_wp2_with fail
          go_roundw
          case rel => exact ⟨k, s, t, by go_num, rfl, rfl, by omega, HS.out.mono (by omega), HTT.out.mono (by omega), by unfold Hid; rw [HVS.out, HVT.out]; exact HEQ.out, trivial⟩
          case measure => simp [intOf]
        · rw [decide_eq_false hz] at hl0
          rw [if_neg hz] at heq
          simp only [finEnd] at heq
          have l1 := lt0_V HL.out.fin
          have g1 := gt0_V HL.out.fin
          have l2 := lt0_V HPD.out.fin
          have g2 := gt0_V HPD.out.fin
          have HHi : Hid (Dbl (E + 9) h) := HH.out.mono (by omega)
          have HLo : Hid (Dbl (E + 9) l) := HL.out.mono (by omega)
          -- the tie
          have tie : (V l < 0 ∧ V p < 0) ∨ (0 < V l ∧ 0 < V p) → ∃ tw r d : Nat, (Ieee.double.mul 4611686018427387904 l = some tw ∧ Ieee.double.add h tw = some r ∧ Ieee.double.sub r h = some d) ∧ Finite r ∧ r < 2 ^ 64 ∧ ((FloatKind.f64.format.order d tw == some .eq) = true ∧ V r = R ∨ (FloatKind.f64.format.order d tw == some .eq) = false ∧ V h = R) := by
            intro hs
            rw [if_pos hs] at heq
            obtain ⟨tw, t1, t2, t3⟩ := HLo.out.twice (by omega)
            obtain ⟨r, r1, r2, r3⟩ := (HHi.out.mono (show E + 9 ≤ E + 9 + 1 by omega)).add t2 (by omega)
            obtain ⟨d, d1, d2, d3⟩ := r2.sub (HHi.out.mono (show E + 9 ≤ E + 9 + 1 + 1 by omega)) (by omega)
            refine ⟨tw, r, d, ⟨t1, r1, d1⟩, r2.fin, r2.lt, ?_⟩
            rw [eq_V d2.fin t2.fin, d3, r3, t3]
            by_cases he : RN (RN (V h + 2 * V l) - V h) = 2 * V l
            · rw [if_pos he] at heq
              exact .inl ⟨decide_eq_true he, heq.symm⟩
            · rw [if_neg he] at heq
              exact .inr ⟨decide_eq_false he, heq.symm⟩
          have none : ¬ ((V l < 0 ∧ V p < 0) ∨ (0 < V l ∧ 0 < V p)) → V h = R := fun hs => by rw [if_neg hs] at heq; exact heq.symm
          have HTIE := hide tie
          have HNONE := hide none
          clear heq tie none
          by_cases hs : V l < 0
          · rw [decide_eq_true hs] at l1
            rw [decide_eq_false (by omega)] at g1
            by_cases hp2 : V p < 0
            · rw [decide_eq_true hp2] at l2
              rw [decide_eq_false (by omega)] at g2
              obtain ⟨tw, r, d, ⟨t1, r1, d1⟩, rf, rlt, hres⟩ := HTIE.out (by omega)
              have e1 := fun w => run_float_arith (P := Takg.prog) w .mul 33 .f64 4611686018427387904 l tw t1
              have e2 := fun w => run_float_arith (P := Takg.prog) w .add 33 .f64 h tw r r1
              have e3 := fun w => run_float_arith (P := Takg.prog) w .sub 33 .f64 r h d d1
              clear t1 r1 d1 hz hs hp2
              rcases hres with ⟨hb1, hv⟩ | ⟨hb1, hv⟩
              · have HV := hide hv
                clear hv HTIE HNONE
                go_wp2_with fail
                go_ret
                exact ⟨r, rfl, rf, rlt, fun h => absurd h HNE.out, HV.out, rfl⟩
              · have HV := hide hv
                clear hv HTIE HNONE
                go_wp2_with fail
                go_ret
                exact ⟨h, rfl, HH.out.fin, HH.out.lt, fun h => absurd h HNE.out, HV.out, rfl⟩
            · rw [decide_eq_false hp2] at l2
              have HV := hide (HNONE.out (by omega))
              clear hz hs hp2 HTIE HNONE
              go_wp2_with fail
              go_ret
              exact ⟨h, rfl, HH.out.fin, HH.out.lt, fun h => absurd h HNE.out, HV.out, rfl⟩
          · rw [decide_eq_false hs] at l1
            rw [decide_eq_true (by omega)] at g1
            by_cases hp2 : 0 < V p
            · rw [decide_eq_true hp2] at g2
              rw [decide_eq_false (by omega)] at l2
              obtain ⟨tw, r, d, ⟨t1, r1, d1⟩, rf, rlt, hres⟩ := HTIE.out (by omega)
              have e1 := fun w => run_float_arith (P := Takg.prog) w .mul 33 .f64 4611686018427387904 l tw t1
              have e2 := fun w => run_float_arith (P := Takg.prog) w .add 33 .f64 h tw r r1
              have e3 := fun w => run_float_arith (P := Takg.prog) w .sub 33 .f64 r h d d1
              clear t1 r1 d1 hz hs hp2
              rcases hres with ⟨hb1, hv⟩ | ⟨hb1, hv⟩
              · have HV := hide hv
                clear hv HTIE HNONE
                go_wp2_with fail
                go_ret
                exact ⟨r, rfl, rf, rlt, fun h => absurd h HNE.out, HV.out, rfl⟩
              · have HV := hide hv
                clear hv HTIE HNONE
                go_wp2_with fail
                go_ret
                exact ⟨h, rfl, HH.out.fin, HH.out.lt, fun h => absurd h HNE.out, HV.out, rfl⟩
            · rw [decide_eq_false hp2] at g2
              have HV := hide (HNONE.out (by omega))
              clear hz hs hp2 HTIE HNONE
              go_wp2_with fail
              go_ret
              exact ⟨h, rfl, HH.out.fin, HH.out.lt, fun h => absurd h HNE.out, HV.out, rfl⟩
end Shw
end Go.Proofs.YgctakDoor
