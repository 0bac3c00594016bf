/-
  Walk: shadowed.
-/
import Derived.Test.YgctakHo9
import Derived.Test.YgctakPt16
namespace Go.Proofs.Ygctak
open Go.RowKit
set_option linter.unusedVariables false
set_option linter.unusedSimpArgs false
attribute [local go_sem ↓] Go.wp_at_zero Go.wp_at_succ
attribute [local go_sem] Fl.neg_run Fl.run_store_complex
namespace Ex
open Ac Fl Sh

/-- One part, held. -/
structure Part (sc : Nat) (v : Nat) (q e : Int) : Prop where
  fin : Finite v
  lt : v < 2 ^ 64
  b1 : (av v * 2 ^ sc).natAbs ≤ 2 ^ 4200
  b2 : (q * 2 ^ 2148).natAbs ≤ 2 ^ 4200
  le : ((av v * 2 ^ sc - q * 2 ^ 2148).natAbs : Int) ≤ e * 2 ^ (2068 + sc)
/-- A point, held. -/
structure Holds (sc : Nat) (p : P) (q : Q) : Prop where
  e0 : 0 ≤ p.2
  e1 : p.2 ≤ 2 ^ 150
  re : Part sc p.1.1 q.1 p.2
  im : Part sc p.1.2 q.2 p.2

set_option exponentiation.threshold 5000 in
theorem bound_fits (e : Int) (s : Nat) (h0 : 0 ≤ e) (h1 : e ≤ 2 ^ 150) (hs : s ≤ 4000) : Fits (e * 2 ^ s) := by
  have hp : (0 : Int) < 2 ^ s := pow_pos s
  have a1 : e * 2 ^ s ≤ 2 ^ 150 * 2 ^ 4000 := Int.mul_le_mul h1 (by
    have := pow_mono s 4000 hs
    rw [← ipow, ← ipow]
    exact Int.ofNat_le.2 this) (by omega) (by decide)
  have a2 : (2 : Int) ^ 150 * 2 ^ 4000 < half := by unfold half; decide
  have a3 : 0 ≤ e * 2 ^ s := Int.mul_nonneg h0 (by omega)
  have a4 := half_pos
  exact ⟨by omega, by omega⟩

set_option maxRecDepth 100000 in
set_option maxHeartbeats 400000 in
theorem shadowed_any (b b2 n sc dv : Nat) (x : List P) (y : List Q) (w : World) (hn : n ≤ 1024) (hsc : sc + dv ≤ 1900) (hx : x.length = n) (hy : y.length = n) (hb : Blk w b 113 (Pts x)) (hb2 : Blk w b2 119 (Cs y))
    (hh : ∀ i, i < n → Holds (sc + dv) (x.getD i p0) (y.getD i q0)) :
    Calls Takg.prog 27 #[.slice (some ⟨b, 0, none⟩) n n, .slice (some ⟨b2, 0, none⟩) n n, .int .i64 sc, .int .i64 dv] w fun e w' =>
      e = .returned (.bool true) ∧ Chg [] w w' := by
  have HX := hide hx
  have HY := hide hy
  have HH := hide hh
  clear hx hy hh
  go_enter Takg.func27, Takg.ntmps27
  go_wp2_with fail
  go_loopw [9] (fun v wr => ∃ i : Nat, v = .int .i64 i ∧ i ≤ n ∧ Blk wr b 113 (Pts x) ∧ Blk wr b2 119 (Cs y) ∧ Chg [] w wr) (fun v _ => n - (intOf v).toNat)
  case atStart => exact ⟨0, rfl, by omega, hb, hb2, Chg.refl _ _⟩
  case round =>
    clear hb hb2
    obtain ⟨i, rfl, hi, hbr, hb2r, hcr⟩ := hrel
    by_cases hil : i < n
    · have hxl : i < x.length := by have := HX.out; omega
      have hyl : i < y.length := by have := HY.out; omega
      obtain ⟨h0, h1, h2, h3⟩ := HH.out i hil
      obtain ⟨⟨⟨z1, z2⟩, er⟩, hp⟩ : ∃ p, p = x.getD i p0 := ⟨_, rfl⟩
      obtain ⟨⟨q1, q2⟩, hq⟩ : ∃ p, p = y.getD i q0 := ⟨_, rfl⟩
      rw [← hp] at h0 h1 h2 h3
      rw [← hq] at h2 h3
      dsimp only at h0 h1 h2 h3
      obtain ⟨S, hS⟩ : ∃ S, S = sc + dv := ⟨_, rfl⟩
      rw [← hS] at h2 h3
      have hS2 : S ≤ 1900 := by omega
      have HF : Hid (Fits er) := by
        have := bound_fits er 0 h0 h1 (by omega)
        unfold Hid
        simpa using this
      have hbf := bound_fits er (2068 + S) h0 h1 (by omega)
      have HFC := hide (fun W : World => finiteC_any z1 z2 W h2.fin h2.lt h3.fin h3.lt)
      obtain ⟨B, hB⟩ : ∃ B, B = er * 2 ^ (2068 + S) := ⟨_, rfl⟩
      have HB := hide hB
      have HS1 : Hid (∀ p W, Blk W p 58 (Ac.W B) → Calls Takg.prog 72 #[.float .f64 z1, .agg (Ac.W q1).toArray, .int .i64 S, .pointer (some ⟨p, 0, none⟩)] W fun e w' => e = .returned (.bool true) ∧ Chg [] W w') := fun p W hW =>
        shadowedPart_any z1 q1 B S p 0 58 [] [] W h2.fin h2.lt hS2 h2.b1 h2.b2 (hB ▸ hbf) (At.whole hW) (hB ▸ h2.le)
      have HS2 : Hid (∀ p W, Blk W p 58 (Ac.W B) → Calls Takg.prog 72 #[.float .f64 z2, .agg (Ac.W q2).toArray, .int .i64 S, .pointer (some ⟨p, 0, none⟩)] W fun e w' => e = .returned (.bool true) ∧ Chg [] W w') := fun p W hW =>
        shadowedPart_any z2 q2 B S p 0 58 [] [] W h3.fin h3.lt hS2 h3.b1 h3.b2 (hB ▸ hbf) (At.whole hW) (hB ▸ h3.le)
      have HZ : Hid (∀ w1, Blk w1 b 113 (Pts x) → w1.cell? ⟨b, i * 69, none⟩ = some (.complex .f64 z1 z2)) := fun w1 hw => by
        have := ptZ hw i hxl; rw [← hp] at this; exact this
      have HE : Hid (∀ w1, Blk w1 b 113 (Pts x) → ∃ p s, At w1 b (i * 69 + 1) 113 p (W er) s) := fun w1 hw => by
        have := ptE hw i hxl; rw [← hp] at this; exact ⟨_, _, this⟩
      have Ly1 : Hid (∀ w1, Blk w1 b2 119 (Cs y) → w1.rangeAt b2 (i * 136) (W q1)) := fun w1 hw => by
        have := cre hw i hyl; rw [← hq] at this; exact this.rangeAt
      have Ly2 : Hid (∀ w1, Blk w1 b2 119 (Cs y) → w1.rangeAt b2 (i * 136 + 68) (W q2)) := fun w1 hw => by
        have := cim hw i hyl; rw [← hq] at this; exact this.rangeAt
      have hsd : (sc : Int) + (dv : Int) = (S : Int) := by omega
      have hsg : decide (sgn er < 0) = false := by
        rw [decide_eq_false_iff_not]
        unfold sgn
        split
        · omega
        · split <;> omega
      have hu16 : IntKind.u16.wrap (2068 + (sc : Int) + (dv : Int)) = ((2068 + S : Nat) : Int) := by rw [IntKind.wrap_u16]; omega
      clear h2 h3 hbf hB hp hq hS
      have k1 := HZ.out _ hbr
      go_wp2_with fail
      refine (HFC.out _).mono ?_
      rintro e w' ⟨rfl, rfl⟩
      obtain ⟨pe, se, ae⟩ := HE.out _ hbr
      go_wp2_with fail
      refine (Sign_any b (i * 69 + 1) 113 pe se er _ HF.out ae).mono ?_
      rintro e w' ⟨rfl, rfl⟩
      go_upto_region 6 with fail
      go_wp2_with (first | (refine wpList_loadAcc (by rfl) (.tmp 35) (by rfl) b (i * 69 + 1) 113 pe se er (by rfl) ae ?_) | (refine wpList_newAcc (by rfl) (by rfl) (by rfl) (.tmp 10) _ (by rfl) er (by rfl) (fun _ => by rfl) (fun _ => by rfl) ?_; intro b1 w2 hb1 hk1 hc1))
      have g1 : w'.heap.size ≤ b1 := by have := hb1.out; omega
      have lb := hbr.lt
      have lb2 := hb2r.lt
      have gw := hcr.size
      have hbr := hc1.blk hbr (by simp)
      have hb2r := hc1.blk hb2r (by simp)
      have hcr := hcr.trans hc1
      clear hb1 hc1 ae k1 hsg
      have hsh := Shl_any b1 0 58 [] [] er (2068 + S) _ (by omega) (At.whole hk1)
      rw [show ((2068 + S : Nat) : Int) = 2068 + (S : Int) by omega] at hsh
      refine hsh.mono ?_
      clear hsh
      rintro e w3 ⟨rfl, hk3, hc3⟩
      rw [← HB.out] at hk3
      have hk3 := hk3.toBlk
      have hbr := hc3.blk hbr (by simp; omega)
      have hb2r := hc3.blk hb2r (by simp; omega)
      have hcr := hcr.news hc3 (by simp; omega)
      clear hc3 hk1 hu16 HF HFC HE HB
      have hwS : IntKind.i64.wrap (S : Int) = (S : Int) := by rw [IntKind.wrap_i64]; omega
      go_upto_region 8 with fail
      refine wp_region_held_drew (S := fun w1 => Blk w1 b 113 (Pts x) ∧ Blk w1 b2 119 (Cs y) ∧ Blk w1 b1 58 (W B) ∧ Chg [] w w1) (by kernel_rfl) ⟨hbr.drew, hb2r.drew, hk3.drew, hcr.drew⟩ (fun hHeld => ?_)
      clear hbr hb2r hk3 hcr
      refine takeL 0 (v := ?_) rfl (by kernel_rfl) (by kernel_rfl) (by kernel_rfl) (fun _ _ _ h => h) (by rfl) ?_ hHeld ?_
      rotate_left
      · (intro w1 hSw; have hcell := HZ.out w1 hSw.1; go_simp; try with_reducible rfl)
      simp only [Act.put, List.setIfInBounds_toArray, List.set_cons_zero, List.set_cons_succ]
      refine takeL 1 (v := ?_) rfl (by kernel_rfl) (by kernel_rfl) (by kernel_rfl) (fun _ _ _ h => h) (by rfl) ?_ hHeld ?_
      rotate_left
      · (intro w1 hSw; have hcell := HZ.out w1 hSw.1; go_simp; try with_reducible rfl)
      simp only [Act.put, List.setIfInBounds_toArray, List.set_cons_zero, List.set_cons_succ]
      refine takeL 2 (v := ?_) rfl (by kernel_rfl) (by kernel_rfl) (by kernel_rfl) (fun _ _ _ h => h) (by rfl) ?_ hHeld ?_
      rotate_left
      · (intro w1 hSw; have hcell := HZ.out w1 hSw.1; go_simp; try with_reducible rfl)
      simp only [Act.put, List.setIfInBounds_toArray, List.set_cons_zero, List.set_cons_succ]
      refine takeL 3 (v := ?_) rfl (by kernel_rfl) (by kernel_rfl) (by kernel_rfl) (fun _ _ _ h => h) (by rfl) ?_ hHeld ?_
      rotate_left
      · (intro w1 hSw; have hcell := HZ.out w1 hSw.1; go_simp; try with_reducible rfl)
      simp only [Act.put, List.setIfInBounds_toArray, List.set_cons_zero, List.set_cons_succ]
      refine takeL 4 (v := ?_) rfl (by kernel_rfl) (by kernel_rfl) (by kernel_rfl) (fun _ _ _ h => h) (by rfl) ?_ hHeld ?_
      rotate_left
      · (intro w1 hSw; have hcell := HZ.out w1 hSw.1; go_simp; try with_reducible rfl)
      simp only [Act.put, List.setIfInBounds_toArray, List.set_cons_zero, List.set_cons_succ]
      refine takeL 5 (v := ?_) rfl (by kernel_rfl) (by kernel_rfl) (by kernel_rfl) (fun _ _ _ h => h) (by rfl) ?_ hHeld ?_
      rotate_left
      · (intro w1 hSw; have hcell := HZ.out w1 hSw.1; go_simp; try with_reducible rfl)
      simp only [Act.put, List.setIfInBounds_toArray, List.set_cons_zero, List.set_cons_succ]
      refine takeL 6 (v := ?_) rfl (by kernel_rfl) (by kernel_rfl) (by kernel_rfl) (fun _ _ _ h => h) (by rfl) ?_ hHeld ?_
      rotate_left
      · (intro w1 hSw; have hcell := HZ.out w1 hSw.1; go_simp; try with_reducible rfl)
      simp only [Act.put, List.setIfInBounds_toArray, List.set_cons_zero, List.set_cons_succ]
      refine takeL 7 (v := ?_) rfl (by kernel_rfl) (by kernel_rfl) (by kernel_rfl) (fun _ _ _ h => h) (by rfl) ?_ hHeld ?_
      rotate_left
      · (intro w1 hSw; have hcell := HZ.out w1 hSw.1; go_simp; try with_reducible rfl)
      simp only [Act.put, List.setIfInBounds_toArray, List.set_cons_zero, List.set_cons_succ]
      refine takeL 8 (v := ?_) rfl (by kernel_rfl) (by kernel_rfl) (by kernel_rfl) (fun _ _ _ h => h) (by rfl) ?_ hHeld ?_
      rotate_left
      · (intro w1 hSw; have hcell := HZ.out w1 hSw.1; go_simp; try with_reducible rfl)
      simp only [Act.put, List.setIfInBounds_toArray, List.set_cons_zero, List.set_cons_succ]
      refine takeL 9 (v := ?_) rfl (by kernel_rfl) (by kernel_rfl) (by kernel_rfl) (fun _ _ _ h => h) (by rfl) ?_ hHeld ?_
      rotate_left
      · (intro w1 hSw; have hcell := HZ.out w1 hSw.1; go_simp; try with_reducible rfl)
      simp only [Act.put, List.setIfInBounds_toArray, List.set_cons_zero, List.set_cons_succ]
      refine takeL 10 rfl (by kernel_rfl) (by kernel_rfl) (by kernel_rfl) (fun _ _ _ h => h) (by rfl) (fun w1 hSw => run_load58 (.tmp 52) rfl b2 (i * 136) q1 w1 rfl (Ly1.out w1 hSw.2.1)) hHeld ?_
      simp only [Act.put, List.setIfInBounds_toArray, List.set_cons_zero, List.set_cons_succ]
      refine takeL 11 (v := ?_) rfl (by kernel_rfl) (by kernel_rfl) (by kernel_rfl) (fun _ _ _ h => h) (by rfl) ?_ hHeld ?_
      rotate_left
      · (intro w1 hSw; have hcell := HZ.out w1 hSw.1; go_simp; try with_reducible rfl)
      simp only [Act.put, List.setIfInBounds_toArray, List.set_cons_zero, List.set_cons_succ]
      refine takeL 12 (v := ?_) rfl (by kernel_rfl) (by kernel_rfl) (by kernel_rfl) (fun _ _ _ h => h) (by rfl) ?_ hHeld ?_
      rotate_left
      · (intro w1 hSw; have hcell := HZ.out w1 hSw.1; go_simp; try with_reducible rfl)
      simp only [Act.put, List.setIfInBounds_toArray, List.set_cons_zero, List.set_cons_succ]
      refine takeL 13 (v := ?_) rfl (by kernel_rfl) (by kernel_rfl) (by kernel_rfl) (fun _ _ _ h => h) (by rfl) ?_ hHeld ?_
      rotate_left
      · (intro w1 hSw; have hcell := HZ.out w1 hSw.1; go_simp; try with_reducible rfl)
      simp only [Act.put, List.setIfInBounds_toArray, List.set_cons_zero, List.set_cons_succ]
      refine wpAnyH_ready (rs := [14]) (by kernel_rfl) (by simp) ?_
      refine consW rfl (by rfl) (fun K hK => ?_) AllReadyH.nil
      go_simp
      refine (HS1.out _ _ hHeld.2.2.1).mono ?_
      rintro e wn ⟨rfl, hcn⟩
      refine hK.out _ _ ⟨hcn.blk hHeld.1 (by simp), hcn.blk hHeld.2.1 (by simp), hcn.blk hHeld.2.2.1 (by simp), hHeld.2.2.2.trans hcn⟩ (fun hHeld => ?_)
      clear hK K hcn
      try simp only [Act.put, List.setIfInBounds_toArray, List.set_cons_zero, List.set_cons_succ, List.toList_toArray]
      refine takeL 15 (v := ?_) rfl (by kernel_rfl) (by kernel_rfl) (by kernel_rfl) (fun _ _ _ h => h) (by rfl) ?_ hHeld ?_
      rotate_left
      · (intro w1 hSw; have hcell := HZ.out w1 hSw.1; go_simp; try with_reducible rfl)
      simp only [Act.put, List.setIfInBounds_toArray, List.set_cons_zero, List.set_cons_succ]
      refine takeL 16 (v := ?_) rfl (by kernel_rfl) (by kernel_rfl) (by kernel_rfl) (fun _ _ _ h => h) (by rfl) ?_ hHeld ?_
      rotate_left
      · (intro w1 hSw; have hcell := HZ.out w1 hSw.1; go_simp; try with_reducible rfl)
      simp only [Act.put, List.setIfInBounds_toArray, List.set_cons_zero, List.set_cons_succ]
      refine takeL 17 (v := ?_) rfl (by kernel_rfl) (by kernel_rfl) (by kernel_rfl) (fun _ _ _ h => h) (by rfl) ?_ hHeld ?_
      rotate_left
      · (intro w1 hSw; have hcell := HZ.out w1 hSw.1; go_simp; try with_reducible rfl)
      simp only [Act.put, List.setIfInBounds_toArray, List.set_cons_zero, List.set_cons_succ]
      refine takeL 18 (v := ?_) rfl (by kernel_rfl) (by kernel_rfl) (by kernel_rfl) (fun _ _ _ h => h) (by rfl) ?_ hHeld ?_
      rotate_left
      · (intro w1 hSw; have hcell := HZ.out w1 hSw.1; go_simp; try with_reducible rfl)
      simp only [Act.put, List.setIfInBounds_toArray, List.set_cons_zero, List.set_cons_succ]
      refine takeL 19 (v := ?_) rfl (by kernel_rfl) (by kernel_rfl) (by kernel_rfl) (fun _ _ _ h => h) (by rfl) ?_ hHeld ?_
      rotate_left
      · (intro w1 hSw; have hcell := HZ.out w1 hSw.1; go_simp; try with_reducible rfl)
      simp only [Act.put, List.setIfInBounds_toArray, List.set_cons_zero, List.set_cons_succ]
      refine takeL 20 (v := ?_) rfl (by kernel_rfl) (by kernel_rfl) (by kernel_rfl) (fun _ _ _ h => h) (by rfl) ?_ hHeld ?_
      rotate_left
      · (intro w1 hSw; have hcell := HZ.out w1 hSw.1; go_simp; try with_reducible rfl)
      simp only [Act.put, List.setIfInBounds_toArray, List.set_cons_zero, List.set_cons_succ]
      refine takeL 21 (v := ?_) rfl (by kernel_rfl) (by kernel_rfl) (by kernel_rfl) (fun _ _ _ h => h) (by rfl) ?_ hHeld ?_
      rotate_left
      · (intro w1 hSw; have hcell := HZ.out w1 hSw.1; go_simp; try with_reducible rfl)
      simp only [Act.put, List.setIfInBounds_toArray, List.set_cons_zero, List.set_cons_succ]
      refine takeL 22 (v := ?_) rfl (by kernel_rfl) (by kernel_rfl) (by kernel_rfl) (fun _ _ _ h => h) (by rfl) ?_ hHeld ?_
      rotate_left
      · (intro w1 hSw; have hcell := HZ.out w1 hSw.1; go_simp; try with_reducible rfl)
      simp only [Act.put, List.setIfInBounds_toArray, List.set_cons_zero, List.set_cons_succ]
      refine takeL 23 (v := ?_) rfl (by kernel_rfl) (by kernel_rfl) (by kernel_rfl) (fun _ _ _ h => h) (by rfl) ?_ hHeld ?_
      rotate_left
      · (intro w1 hSw; have hcell := HZ.out w1 hSw.1; go_simp; try with_reducible rfl)
      simp only [Act.put, List.setIfInBounds_toArray, List.set_cons_zero, List.set_cons_succ]
      refine takeL 24 (v := ?_) rfl (by kernel_rfl) (by kernel_rfl) (by kernel_rfl) (fun _ _ _ h => h) (by rfl) ?_ hHeld ?_
      rotate_left
      · (intro w1 hSw; have hcell := HZ.out w1 hSw.1; go_simp; try with_reducible rfl)
      simp only [Act.put, List.setIfInBounds_toArray, List.set_cons_zero, List.set_cons_succ]
      refine takeL 25 (v := ?_) rfl (by kernel_rfl) (by kernel_rfl) (by kernel_rfl) (fun _ _ _ h => h) (by rfl) ?_ hHeld ?_
      rotate_left
      · (intro w1 hSw; have hcell := HZ.out w1 hSw.1; go_simp; try with_reducible rfl)
      simp only [Act.put, List.setIfInBounds_toArray, List.set_cons_zero, List.set_cons_succ]
      refine takeL 26 (v := ?_) rfl (by kernel_rfl) (by kernel_rfl) (by kernel_rfl) (fun _ _ _ h => h) (by rfl) ?_ hHeld ?_
      rotate_left
      · (intro w1 hSw; have hcell := HZ.out w1 hSw.1; go_simp; try with_reducible rfl)
      simp only [Act.put, List.setIfInBounds_toArray, List.set_cons_zero, List.set_cons_succ]
      refine takeL 27 rfl (by kernel_rfl) (by kernel_rfl) (by kernel_rfl) (fun _ _ _ h => h) (by rfl) (fun w1 hSw => run_load58 (.tmp 69) rfl b2 (i * 136 + 68) q2 w1 rfl (Ly2.out w1 hSw.2.1)) hHeld ?_
      simp only [Act.put, List.setIfInBounds_toArray, List.set_cons_zero, List.set_cons_succ]
      refine takeL 28 (v := ?_) rfl (by kernel_rfl) (by kernel_rfl) (by kernel_rfl) (fun _ _ _ h => h) (by rfl) ?_ hHeld ?_
      rotate_left
      · (intro w1 hSw; have hcell := HZ.out w1 hSw.1; go_simp; try with_reducible rfl)
      simp only [Act.put, List.setIfInBounds_toArray, List.set_cons_zero, List.set_cons_succ]
      refine takeL 29 (v := ?_) rfl (by kernel_rfl) (by kernel_rfl) (by kernel_rfl) (fun _ _ _ h => h) (by rfl) ?_ hHeld ?_
      rotate_left
      · (intro w1 hSw; have hcell := HZ.out w1 hSw.1; go_simp; try with_reducible rfl)
      simp only [Act.put, List.setIfInBounds_toArray, List.set_cons_zero, List.set_cons_succ]
      refine takeL 30 (v := ?_) rfl (by kernel_rfl) (by kernel_rfl) (by kernel_rfl) (fun _ _ _ h => h) (by rfl) ?_ hHeld ?_
      rotate_left
      · (intro w1 hSw; have hcell := HZ.out w1 hSw.1; go_simp; try with_reducible rfl)
      simp only [Act.put, List.setIfInBounds_toArray, List.set_cons_zero, List.set_cons_succ]
      refine wpAnyH_ready (rs := [31]) (by kernel_rfl) (by simp) ?_
      refine consW rfl (by rfl) (fun K hK => ?_) AllReadyH.nil
      go_simp
      refine (HS2.out _ _ hHeld.2.2.1).mono ?_
      rintro e wn ⟨rfl, hcn⟩
      refine hK.out _ _ ⟨hcn.blk hHeld.1 (by simp), hcn.blk hHeld.2.1 (by simp), hcn.blk hHeld.2.2.1 (by simp), hHeld.2.2.2.trans hcn⟩ (fun hHeld => ?_)
      clear hK K hcn
      try simp only [Act.put, List.setIfInBounds_toArray, List.set_cons_zero, List.set_cons_succ, List.toList_toArray]
      refine takeL 32 (v := ?_) rfl (by kernel_rfl) (by kernel_rfl) (by kernel_rfl) (fun _ _ _ h => h) (by rfl) ?_ hHeld ?_
      rotate_left
      · (intro w1 hSw; have hcell := HZ.out w1 hSw.1; go_simp; try with_reducible rfl)
      simp only [Act.put, List.setIfInBounds_toArray, List.set_cons_zero, List.set_cons_succ]
      refine takeL 33 (v := ?_) rfl (by kernel_rfl) (by kernel_rfl) (by kernel_rfl) (fun _ _ _ h => h) (by rfl) ?_ hHeld ?_
      rotate_left
      · (intro w1 hSw; have hcell := HZ.out w1 hSw.1; go_simp; try with_reducible rfl)
      simp only [Act.put, List.setIfInBounds_toArray, List.set_cons_zero, List.set_cons_succ]
      refine wpAnyH_done (by kernel_rfl) ?_ _
      go_wp2_with fail
      go_roundw
      case rel => exact ⟨i + 1, by go_num, by omega, hHeld.1, hHeld.2.1, hHeld.2.2.2⟩
      case measure => simp [intOf]; omega
    · have hie : i = n := by omega
      subst hie
      go_wp2_with fail
      go_ret
      exact ⟨rfl, hcr⟩
end Ex
end Go.Proofs.Ygctak
