/-
  nat.Cmp of a number with itself: it only reads.
-/
import Derived.Test.YgctakNa3
import Derived.BigQuiet
namespace Go.Proofs.Ygctak
open Go.RowKit
set_option linter.unusedVariables false
set_option linter.unusedSimpArgs false
attribute [local go_sem ↓] Go.wp_at_zero Go.wp_at_succ
namespace Na

set_option maxHeartbeats 1000000 in
theorem Cmp_same (a1 a2 : Option Addr) (x : Nat) (w : World) (l1 : dlen x ≤ 5000) (h1 : Ent w a1 x) (h2 : Ent w a2 x) :
    Calls Takg.prog 96 #[.slice a1 (dlen x) (dlen x), .slice a2 (dlen x) (dlen x)] w fun e w' => e = .returned (.int .i8 0) ∧ ∃ k, w' = w.drewN k := by
  have t1 := trim_any a1 (dlen x) (dlen x) x w (by omega) (by omega) (dlen_lt x) h1.op
  have t2 := trim_any a2 (dlen x) (dlen x) x w (by omega) (by omega) (dlen_lt x) h2.op
  rw [h1.tr] at t1
  rw [h2.tr] at t2
  have T1 := hide t1
  have T2 := hide t2
  clear t1 t2
  have O1 := hide h1.op
  have O2 := hide h2.op
  obtain ⟨L, hL⟩ : ∃ L, L = dlen x := ⟨_, rfl⟩
  rw [← hL] at T1 O1 T2 O2 l1 ⊢
  clear hL h1 h2
  go_enter Takg.func96, Takg.ntmps96
  go_wp2_with fail
  refine T1.out.mono ?_
  rintro e w1 ⟨rfl, rfl⟩
  go_wp2_with fail
  refine T2.out.mono ?_
  rintro e w2 ⟨rfl, rfl⟩
  go_wp2_with fail
  go_loopw [5] (fun v wr => ∃ i : Nat, v = .int .i64 ((i : Int) - 1) ∧ i ≤ L ∧ Hid (∃ k, wr = w2.drewN k) ∧ Op8 wr a1 L x ∧ Op8 wr a2 L x) (fun v _ => (intOf v + 1).toNat)
  case atStart => exact ⟨L, rfl, by omega, ⟨0, rfl⟩, O1.out, O2.out⟩
  case round =>
    obtain ⟨i, rfl, hi, HK, o1, o2⟩ := hrel
    cases i with
    | zero =>
      rw [show ((0 : Nat) : Int) - 1 = -1 from rfl]
      go_wp2_with fail
      go_ret
      exact ⟨rfl, HK.out⟩
    | succ i =>
      rw [show ((i + 1 : Nat) : Int) - 1 = (i : Int) by omega]
      obtain ⟨b1, f1, rfl, r1⟩ : ∃ b off, a1 = some ⟨b, off, none⟩ ∧ Row8 wr b off L x := by
        rcases o1 with h | h
        · omega
        · exact h
      obtain ⟨b2, f2, rfl, r2⟩ : ∃ b off, a2 = some ⟨b, off, none⟩ ∧ Row8 wr b off L x := by
        rcases o2 with h | h
        · omega
        · exact h
      have c1 := r1.cell i (by omega)
      have c2 := r2.cell i (by omega)
      have z1 := dgt_lt x i
      have o1' : Hid (∀ n, Op8 (wr.drewN n) (some ⟨b1, f1, none⟩) L x) := fun n => by
        rcases o1 with h | ⟨b, off, h1, h2⟩
        · exact .inl h
        · exact .inr ⟨b, off, h1, ⟨h2.lt, h2.cell⟩⟩
      have o2' : Hid (∀ n, Op8 (wr.drewN n) (some ⟨b2, f2, none⟩) L x) := fun n => by
        rcases o2 with h | ⟨b, off, h1, h2⟩
        · exact .inl h
        · exact .inr ⟨b, off, h1, ⟨h2.lt, h2.cell⟩⟩
      clear o1 o2 r1 r2
      obtain ⟨d, e1⟩ : ∃ d, d = dgt x i := ⟨_, rfl⟩
      rw [← e1] at c1 c2 z1
      clear e1
      have hcf : ∀ n, (wr.drewN n).cell? ⟨b1, f1 + i, none⟩ = some (.int .u8 d) ∧ (wr.drewN n).cell? ⟨b2, f2 + i, none⟩ = some (.int .u8 d) := fun n => ⟨c1, c2⟩
      have HCF := hide hcf
      clear hcf
      go_upto_region 9 with fail
      go_cut [35] (fun v wc => v = .bool (decide (d < d)) ∧ ∃ n, wc = wr.drewN n)
      case first =>
        go_quiet (fail)
        go_wp2_with fail
        go_meet
        exact ⟨by simp, _, rfl⟩
      case rest =>
        obtain ⟨rfl, nq, rfl⟩ := hcut
        have hc12 := HCF.out nq
        have HK2 : Hid (∃ k, wr.drewN nq = w2.drewN k) := by
          obtain ⟨k, hk⟩ := HK.out
          exact ⟨k + nq, by rw [hk, World.drewN_drewN]⟩
        have p1 := hide (fun n => (o1'.out (nq + n)))
        have p2 := hide (fun n => (o2'.out (nq + n)))
        have HDD : Hid (∀ n, wr.drewN (nq + n) = (wr.drewN nq).drewN n) := fun n => (World.drewN_drewN _ _ _).symm
        have p1' : Hid (∀ n, Op8 ((wr.drewN nq).drewN n) (some ⟨b1, f1, none⟩) L x) := fun n => by rw [← HDD.out]; exact p1.out n
        have p2' : Hid (∀ n, Op8 ((wr.drewN nq).drewN n) (some ⟨b2, f2, none⟩) L x) := fun n => by rw [← HDD.out]; exact p2.out n
        clear c1 c2 HK o1' o2' HCF p1 p2 HDD
        obtain ⟨c1, c2⟩ := hc12
        generalize wr.drewN nq = wq at *
        have hd : decide (d < d) = false := decide_eq_false (by omega)
        rw [hd]
        clear hd
        go_upto_region 11 with fail
        go_cut [44] (fun v wc => v = .bool (decide (d < d)) ∧ ∃ n, wc = wq.drewN n)
        case first =>
          go_quiet (fail)
          go_wp2_with fail
          go_meet
          exact ⟨by simp, _, rfl⟩
        case rest =>
          obtain ⟨rfl, nq2, rfl⟩ := hcut
          have HK3 : Hid (∃ k, wq.drewN nq2 = w2.drewN k) := by
            obtain ⟨k, hk⟩ := HK2.out
            exact ⟨k + nq2, by rw [hk, World.drewN_drewN]⟩
          have p3 := p1'.out nq2
          have p4 := p2'.out nq2
          clear c1 c2 HK2 p1' p2'
          generalize wq.drewN nq2 = wz at *
          have hd : decide (d < d) = false := decide_eq_false (by omega)
          rw [hd]
          clear hd
          go_wp2_with fail
          go_roundw
          case rel => exact ⟨i, by go_num, by omega, HK3, p3, p4⟩
          case measure => simp [intOf]
end Na
end Go.Proofs.Ygctak
