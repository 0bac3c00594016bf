/-
  Walk: RoundAll.
-/
import Derived.Test.YgctakCx4
namespace Go.Proofs.Ygctak
open Go.RowKit
set_option linter.unusedVariables false
set_option linter.unusedSimpArgs false
attribute [local go_sem ↓] Go.wp_at_zero Go.wp_at_succ
namespace Cx
open Ac Fl Sh Ft Ieee

/-- A row of doubles that lies near whole numbers. -/
def Round (Z : List (Nat × Nat)) (g : Nat → Nat) : Prop :=
  ∀ i, i < Z.length → Finite (Z.getD i (0, 0)).1 ∧ Finite (Z.getD i (0, 0)).2 ∧ g i ≤ 2 ^ 34 ∧ 8 * (V (Z.getD i (0, 0)).1 - UU * g i).natAbs ≤ UU ∧ 8 * (V (Z.getD i (0, 0)).2).natAbs ≤ UU

def upg (g : Nat → Nat) (i m : Nat) : Int := if m < i then (g m : Int) else 0

set_option maxHeartbeats 1000000 in
theorem RoundAll_any (b m : Nat) (Z : List (Nat × Nat)) (g : Nat → Nat) (w : World) (hl : Z.length ≤ 1024) (hm1 : 1 ≤ m) (hm : m ≤ Z.length) (hZ : Round Z g) (hg0 : ∀ i, m ≤ i → g i = 0) (hb : Blk w b 103 (C Z)) :
    Calls Takg.prog 80 #[.slice (some ⟨b, 0, none⟩) Z.length Z.length, .int .i64 m] w fun e w' =>
      ∃ b2, e = .returned (.tuple #[.slice (some ⟨b2, 0, none⟩) m m, .bool true]) ∧ Blk w' b2 2 (I64 (fun i => g i) m) ∧ Chg [] w w' := by
  obtain ⟨n, hn⟩ : ∃ n, n = Z.length := ⟨_, rfl⟩
  have HN := hide hn
  have HZ := hide hZ
  have HG := hide hg0
  rw [← hn] at hl hm ⊢
  clear hn hZ hg0
  have hmk := make_run (P := Takg.prog) 28 2 (.int .i64 0) 8 m rfl Takg.underlying28 info2 (by omega) (by omega)
  have q1 : decide ((m : Int) < 0) = false := decide_eq_false (by omega)
  have q2 : decide (n < m) = false := decide_eq_false (by omega)
  have q3 : decide (0 < m) = true := decide_eq_true (by omega)
  go_enter Takg.func80, Takg.ntmps80
  go_wp2_with fail
  clear q1 q2 q3
  clear hmk
  obtain ⟨b2, hb2⟩ : ∃ b2, b2 = w.heap.size := ⟨_, rfl⟩
  have hbn := Blk.newRep w m (Value.int .i64 0) 2
  have hch := (Chg.refl [] w).alloc (.cells (Array.replicate m (Value.int .i64 0)) 2)
  have hb1 := hb.alloc (.cells (Array.replicate m (Value.int .i64 0)) 2)
  have lb := hb.lt
  have er : List.replicate m (Value.int .i64 0) = I64 (upg g 0) m := by
    apply List.ext_getElem
    · simp [I64]
    · intro i h1 h2; simp [I64, upg]
  rw [er] at hbn
  rw [← hb2] at hbn lb ⊢
  have HB := hide hb2
  clear hb2 er hb
  generalize w.alloc (.cells (Array.replicate m (Value.int .i64 0)) 2) = w1 at *
  go_loopw [5, 6] (fun s x wr => ∃ i : Nat, s = .bool true ∧ x = .int .i64 i ∧ i ≤ n ∧ Blk wr b2 2 (I64 (upg g i) m) ∧ Blk wr b 103 (C Z) ∧ Chg [] w wr) (fun _ x _ => n - (intOf x).toNat)
  case atStart => exact ⟨0, rfl, rfl, by omega, hbn, hb1, hch⟩
  case round =>
    clear hbn hb1 hch
    obtain ⟨i, rfl, rfl, hi, hb2, hb, hc⟩ := hrel
    by_cases hlt : i < n
    · obtain ⟨z, hz⟩ : ∃ z, z = Z.getD i (0, 0) := ⟨_, rfl⟩
      have hf := HZ.out i (by rw [← HN.out]; exact hlt)
      have k0 := hb.cell _ _ (C_get Z i (by rw [← HN.out]; exact hlt))
      rw [← hz] at hf k0
      obtain ⟨f1, f2, f3, f4, f5⟩ := hf
      have hq2 : qtr z.2 = true := qtr_true f2 (by omega)
      have HQ2 := hide (fun W => hq2 ▸ quarter_any z.2 W)
      clear hq2
      by_cases him : i < m
      · have HQ1 := hide (fun W => quarter_any z.1 W)
        have HNr := hide (fun W => Nearest_any z.1 (g i) W f1 f3 f4)
        obtain ⟨c, hcg⟩ : ∃ c, c = g i := ⟨_, rfl⟩
        rw [← hcg] at HNr
        have k1 := hb2.cell _ _ (I64_get _ m i him)
        have f0 := hb2.frozen i none
        have hnext := hb2.set i (.int .i64 c)
        rw [I64_set, I64_congr (g := upg g (i + 1)) (fun q hq => by
          unfold upg
          by_cases hqi : q = i
          · subst hqi; rw [if_pos rfl, if_pos (by omega), hcg]
          · rw [if_neg hqi]
            by_cases h3 : q < i
            · rw [if_pos h3, if_pos (by omega)]
            · rw [if_neg h3, if_neg (by omega)])] at hnext
        have hbx := hb.set_ne ⟨b2, i, none⟩ (by simp; omega) (.int .i64 c)
        have hcn := hc.setNew ⟨b2, i, none⟩ (by have := HB.out; simp; omega) (.int .i64 c)
        have k2 := hbx.cell _ _ (C_get Z i (by rw [← HN.out]; exact hlt))
        rw [← hz] at k2
        clear f1 f2 f3 f4 f5 hz hcg
        go_upto_region 10 with (go_at_call 115; refine (HQ1.out _).mono ?_; rintro e w5 ⟨rfl, rfl⟩)
        go_upto_region 12 with (go_at_call 116; refine (HNr.out _).mono ?_; rintro e w5 ⟨rfl, rfl⟩)
        generalize w5.setCell { block := b2, off := i } (Value.int IntKind.i64 ↑c) = w6 at hnext hbx hcn k2 ⊢
        clear hb2 hb hc k0 k1 f0
        go_wp2_with fail
        refine (HQ2.out _).mono ?_
        rintro e w7 ⟨rfl, rfl⟩
        go_wp2_with fail
        go_roundw
        case rel => exact ⟨i + 1, rfl, by go_num, by omega, hnext, hbx, hcn⟩
        case measure => simp [intOf]; omega
      · have hgi := HG.out i (by omega)
        rw [hgi] at f4
        have hq1 : qtr z.1 = true := qtr_true f1 (by simp at f4; omega)
        have HQ1 := hide (fun W => hq1 ▸ quarter_any z.1 W)
        have hnx : Blk wr b2 2 (I64 (upg g (i + 1)) m) := by
          rw [← I64_congr (f := upg g i) (fun q hq => by unfold upg; rw [if_pos (show q < i by omega), if_pos (show q < i + 1 by omega)])]
          exact hb2
        clear f1 f2 f3 f4 f5 hz hq1 hgi
        go_upto_region 10 with (go_at_call 115; refine (HQ1.out _).mono ?_; rintro e w5 ⟨rfl, rfl⟩)
        go_wp2_with fail
        refine (HQ2.out _).mono ?_
        rintro e w7 ⟨rfl, rfl⟩
        go_wp2_with fail
        go_roundw
        case rel => exact ⟨i + 1, rfl, by go_num, by omega, hnx, hb, hc⟩
        case measure => simp [intOf]; omega
    · have hin : i = n := by omega
      have hfin : I64 (upg g i) m = I64 (fun i => g i) m := I64_congr fun q hq => by unfold upg; rw [if_pos (by omega)]
      rw [hfin] at hb2
      subst hin
      go_wp2_with fail
      go_ret2
      exact ⟨b2, rfl, hb2, hc⟩
end Cx
end Go.Proofs.Ygctak
