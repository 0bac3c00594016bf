/-
  Walk: Convolve, the main case.
-/
import Derived.Test.YgctakCx7
namespace Go.Proofs.Ygctak
open Go.RowKit
set_option linter.unusedVariables false
set_option linter.unusedSimpArgs false
attribute [local go_sem ↓] Go.wp_at_zero Go.wp_at_succ
attribute [local go_sem] Fl.run_store_complex Fl.run_store_float
namespace Cx
open Ac Fl Sh Ft Ieee

theorem least_k (s : Nat) : ∀ k, s ≤ 2 ^ (k + 1) + 1 → ∃ q, 1 ≤ q ∧ q ≤ k + 1 ∧ s ≤ 2 ^ q + 1 ∧ (q = 1 ∨ 2 ^ (q - 1) + 1 < s)
  | 0, h => ⟨1, by omega, by omega, h, .inl rfl⟩
  | k + 1, h => by
    by_cases h1 : s ≤ 2 ^ (k + 1) + 1
    · obtain ⟨q, a, b, c, d⟩ := least_k s k h1
      exact ⟨q, a, by omega, c, d⟩
    · exact ⟨k + 2, by omega, by omega, h, .inr (by rw [show k + 2 - 1 = k + 1 by omega]; omega)⟩

theorem digs_of {d : Nat} {xs : List Int} (hx : Byte xs) (h : abv d xs = false) : Digs d xs := by
  intro i hi
  refine ⟨(hx i hi).1, ?_⟩
  unfold abv at h
  rw [List.any_eq_false] at h
  have := h xs[i] (List.getElem_mem hi)
  rw [List.getD_eq_getElem?_getD, List.getElem?_eq_getElem hi]
  simpa using this

theorem build58two (w : World) : (Instr.build 58 #[(0, .int .u64 0), (1, .int .u64 16384)]).run Takg.prog w = .ok (.agg (W (2 ^ 78)).toArray) w := by kernel_rfl
theorem wpList_acc78 {ops : Array Oper} {rest : List Oper} {o : Oper} {a : Act} {w : World} {Q : Exit → Act → World → Prop} (hg : o.guard = none) (ho : o.op = .build 58 #[(0, .const (.int .u64 0)), (1, .const (.int .u64 16384))])
    (h : wpList Takg.prog ops Q rest (a.put o.dst (.agg (W (2 ^ 78)).toArray)) w) : wpList Takg.prog ops Q (o :: rest) a w := by
  refine wpList_plain hg fun K hK => ?_
  unfold Oper.wp
  have : (execOp a.eval o).run Takg.prog w = .ok (.value (.agg (W (2 ^ 78)).toArray)) w := by
    unfold execOp
    rw [ho]
    have hb := build58two w
    simp only [List.map_toArray, List.map_cons, List.map_nil, Act.eval, Sem.run_bind, hb, Result.andThen]
    rfl
  rw [this, Oper.upon_value]
  exact hK _ _ h

/-- The first i points' numbers; zeros beyond. -/
def zup (X : List P) (n i : Nat) : List (Nat × Nat) := (List.range n).map fun j => if j < i then zf X j else (0, 0)
theorem zup_length (X : List P) (n i : Nat) : (zup X n i).length = n := by simp [zup]
theorem zup_get (X : List P) (n i j : Nat) (h : j < n) : (zup X n i).getD j (0, 0) = if j < i then zf X j else (0, 0) := by
  simp [zup, List.getD_eq_getElem?_getD, h]
theorem zup_set (X : List P) (n i : Nat) (h : i < n) : (zup X n i).set i (zf X i) = zup X n (i + 1) := by
  apply List.ext_getElem
  · simp [zup]
  · intro m h1 h2
    rw [List.getElem_set]
    simp only [zup, List.getElem_map, List.getElem_range]
    by_cases hm : i = m
    · subst hm; simp
    · rw [if_neg hm]
      by_cases h3 : m < i
      · rw [if_pos h3, if_pos (by omega)]
      · rw [if_neg h3, if_neg (by omega)]

theorem run_round {k d : Nat} {xs ys : List Int} (h1 : 1 ≤ k) (h2 : k ≤ 10) (hd : d ≤ 255) (hx : Digs d xs) (hy : Digs d ys) (bx : Byte xs) (by' : Byte ys) (lx1 : 1 ≤ xs.length) (ly1 : 1 ≤ ys.length) (lx : xs.length ≤ 512) (ly : ys.length ≤ 512) (hfit : xs.length + ys.length ≤ 2 ^ k + 1) :
    Round (zup (shRun k d xs ys) (2 ^ k) (2 ^ k)) (fun i => (dl xs ys xs.length 0 i).toNat) := by
  intro i hi
  rw [zup_length] at hi
  rw [zup_get _ _ _ _ hi, if_pos hi]
  obtain ⟨a1, a2, a3, a4⟩ := run_near h1 h2 hd hx hy lx ly i hi
  have hn := dl_nonneg bx by' xs.length i
  have hb := cv_bd hd hx hy lx ly k i
  rw [cv_dl xs ys k i hfit lx1 ly1 hi] at a3 hb
  refine ⟨a1, a2, by show (dl xs ys xs.length 0 i).toNat ≤ 2 ^ 34; omega, ?_, a4⟩
  rw [show ((dl xs ys xs.length 0 i).toNat : Int) = dl xs ys xs.length 0 i by omega]
  exact a3

set_option maxRecDepth 100000 in
set_option maxHeartbeats 2000000 in
theorem Convolve_walk (a1 a2 : Option Addr) (A B c1 c2 d n m : Nat) (X : List P) (R : List Value) (w : World) (hd : d ≤ 255) (lx : 1 ≤ A) (ly : 1 ≤ B) (l1 : A ≤ 512) (l2 : B ≤ 512) (hm : m = A + B - 1) (hn0 : 1 ≤ n) (hn1 : n ≤ 1024)
    (h1 : Calls Takg.prog 56 #[.slice a1 A c1, .int .u8 d] w fun e w' => e = .returned (.bool false) ∧ w' = w)
    (h2 : Calls Takg.prog 56 #[.slice a2 B c2, .int .u8 d] w fun e w' => e = .returned (.bool false) ∧ w' = w)
    (hr : Calls Takg.prog 21 #[.slice a1 A c1, .slice a2 B c2, .int .u8 d] w fun e w' => ∃ bx, e = .returned (.slice (some ⟨bx, 0, none⟩) n n) ∧ Blk w' bx 113 (Pts X) ∧ Chg [] w w')
    (hlen : X.length = n) (hall : AllE 150 X) (hs0 : 0 < grt X) (hs1 : grt X < 2 ^ 78)
    (hra : ∀ b (W : World), Blk W b 103 (C (zup X n n)) → Calls Takg.prog 80 #[.slice (some ⟨b, 0, none⟩) n n, .int .i64 m] W fun e w' =>
      ∃ b2, e = .returned (.tuple #[.slice (some ⟨b2, 0, none⟩) m m, .bool true]) ∧ Blk w' b2 2 R ∧ Chg [] W w') :
    Calls Takg.prog 34 #[.slice a1 A c1, .slice a2 B c2, .int .u8 d] w fun e w' =>
      ∃ b, e = .returned (.tuple #[.slice (some ⟨b, 0, none⟩) m m, .bool true, .bool true]) ∧ Blk w' b 2 R ∧ Chg [] w w' := by
  have H1 := hide h1
  have H2 := hide h2
  have HR := hide hr
  have HRA := hide hra
  have HG := hide (fun b W hB => Greatest_any b 113 n X W hlen hn1 hB hall)
  have HL := hide hlen
  have e0 : (A : Int) + B - 1 = (m : Int) := by omega
  have fg : Fits (grt X) := fits_of (by omega) (Int.le_trans (Int.le_of_lt hs1) (by decide))
  have fq : Fits (2 ^ 78) := fits_of (by decide) (by decide)
  have hcmp : cmp (grt X) (2 ^ 78) = -1 := by unfold cmp; rw [if_pos hs1]
  obtain ⟨g, hg⟩ : ∃ g, g = grt X := ⟨_, rfl⟩
  rw [← hg] at fg hcmp HG
  have HCM := hide hcmp
  have HE := hide e0
  have HM := hide hm
  have hm2 : m ≤ 1023 := by omega
  clear h1 h2 hr hra hlen hall hs0 hs1 hcmp e0 hg hm
  have i1 : ((A : Int) == 0) = false := by rw [beq_eq_false_iff_ne]; omega
  have i2 : ((B : Int) == 0) = false := by rw [beq_eq_false_iff_ne]; omega
  have i3 : decide ((512 : Int) < (A : Int)) = false := decide_eq_false (by omega)
  have i4 : decide ((512 : Int) < (B : Int)) = false := decide_eq_false (by omega)
  have hmk := make_run (P := Takg.prog) 46 103 (.complex .f64 0 0) 16 n rfl Takg.underlying46 info103 (by omega) (by omega)
  go_enter Takg.func34, Takg.ntmps34
  go_wp2_with fail
  refine H1.out.mono ?_
  rintro e w' ⟨rfl, rfl⟩
  go_wp2_with fail
  refine H2.out.mono ?_
  rintro e w'' ⟨rfl, rfl⟩
  go_wp2_with fail
  clear i1 i2 i3 i4
  refine HR.out.mono ?_
  rintro e w1 ⟨bx, rfl, hbx, hc1⟩
  go_wp2_with fail
  clear hmk
  obtain ⟨br, hbr⟩ : ∃ b, b = w1.heap.size := ⟨_, rfl⟩
  have hbn := Blk.newRep w1 n (Value.complex .f64 0 0) 103
  have hch := hc1.alloc (.cells (Array.replicate n (Value.complex .f64 0 0)) 103)
  have hb1 := hbx.alloc (.cells (Array.replicate n (Value.complex .f64 0 0)) 103)
  have lb := hbx.lt
  have er : List.replicate n (Value.complex .f64 0 0) = C (zup X n 0) := by
    apply List.ext_getElem
    · simp [C, zup]
    · intro i h1 h2; simp [C, zup]
  rw [er] at hbn
  rw [← hbr] at hbn lb ⊢
  have hge : w''.heap.size ≤ br := by have := hc1.size; omega
  clear hbr er hbx hc1
  generalize w1.alloc (.cells (Array.replicate n (Value.complex .f64 0 0)) 103) = w2 at *
  go_loopw [11] (fun x wr => ∃ i : Nat, x = .int .i64 i ∧ i ≤ n ∧ Blk wr br 103 (C (zup X n i)) ∧ Blk wr bx 113 (Pts X) ∧ Chg [] w'' wr) (fun x _ => n - (intOf x).toNat)
  case atStart => exact ⟨0, rfl, by omega, hbn, hb1, hch⟩
  case round =>
    clear hbn hb1 hch
    obtain ⟨i, rfl, hi, hb2, hb, hc⟩ := hrel
    by_cases hlt : i < n
    · have k0 := ptZ hb i (by rw [HL.out]; exact hlt)
      have hz : (X.getD i p0).1 = zf X i := rfl
      rw [hz] at k0
      have k1 := hb2.cell _ _ (C_get _ i (by rw [zup_length]; exact hlt))
      have f0 := hb2.frozen i none
      have hnext := hb2.set i (.complex .f64 (zf X i).1 (zf X i).2)
      rw [C_set, zup_set X n i hlt] at hnext
      have hbn := hb.set_ne ⟨br, i, none⟩ (by simp; omega) (.complex .f64 (zf X i).1 (zf X i).2)
      have hcn := hc.setNew ⟨br, i, none⟩ hge (.complex .f64 (zf X i).1 (zf X i).2)
      generalize zf X i = z at k0 hnext hbn hcn
      clear hz
      go_wp2_with fail
      go_roundw
      case rel => exact ⟨i + 1, by go_num, by omega, hnext, hbn, hcn⟩
      case measure => simp [intOf]; omega
    · have hie : i = n := by omega
      subst hie
      have HB := hide (HRA.out br wr hb2)
      have e0 := HE.out
      go_wp2_with fail
      refine HB.out.mono ?_
      rintro e w3 ⟨b3, rfl, hk3, hc3⟩
      clear e0
      have hbx3 := hc3.blk hb (by simp)
      have hc' := hc.trans hc3
      clear hb hc hc3 hb2
      go_wp2_with fail
      refine (HG.out bx w3 hbx3).mono ?_
      rintro e w4 ⟨rfl, hc4⟩
      have hk4 := hc4.blk hk3 (by simp)
      have hc4' := hc'.trans hc4
      clear hk3 hbx3 hc' hc4
      go_upto_region 14 with (first | (refine wpList_newAcc (by rfl) (by rfl) (by rfl) (.tmp 12) _ (by rfl) g (by rfl) (fun _ => by rfl) (fun _ => by rfl) ?_; intro b5 w5 hb5 hk5 hc5) | (refine wpList_acc78 (by rfl) (by rfl) ?_) | (refine wpList_newAcc (by rfl) (by rfl) (by rfl) (.tmp 13) _ (by rfl) (2 ^ 78) (by rfl) (fun _ => by rfl) (fun _ => by rfl) ?_; intro b6 w6 hb6 hk6 hc6))
      have hk56 := hc6.blk hk5 (by simp)
      have hk46 := hc6.blk (hc5.blk hk4 (by simp)) (by simp)
      have hcE := (hc4'.trans hc5).trans hc6
      have HC := hide (Cmp_any b5 0 58 b6 0 58 [] [] [] [] g (2 ^ 78) w6 fg fq (At.whole hk56) (At.whole hk6))
      clear hk5 hk4 hc5 hc6 hc4' hk6 hk56
      go_wp2_with fail
      refine HC.out.mono ?_
      rintro e w7 ⟨rfl, nq, rfl⟩
      rw [HCM.out]
      go_wp2_with fail
      refine bodyPost_ret (results3 rfl _ _ _) rfl ?_
      exact ⟨b3, rfl, hk46.drewN nq, hcE.drewN nq⟩

theorem Convolve_any (b1 o1 c1 b2 o2 c2 d : Nat) (xs ys : List Int) (w : World) (hd : d ≤ 255) (lx : 1 ≤ xs.length) (ly : 1 ≤ ys.length) (l1 : xs.length ≤ 512) (l2 : ys.length ≤ 512) (g1 : Dig w b1 o1 xs) (g2 : Dig w b2 o2 ys) (hx : Byte xs) (hy : Byte ys)
    (n1 : abv d xs = false) (n2 : abv d ys = false) :
    Calls Takg.prog 34 #[.slice (some ⟨b1, o1, none⟩) xs.length c1, .slice (some ⟨b2, o2, none⟩) ys.length c2, .int .u8 d] w fun e w' =>
      ∃ b, e = .returned (.tuple #[.slice (some ⟨b, 0, none⟩) (xs.length + ys.length - 1) (xs.length + ys.length - 1), .bool true, .bool true]) ∧ Blk w' b 2 (I64 (dl xs ys xs.length 0) (xs.length + ys.length - 1)) ∧ Chg [] w w' := by
  obtain ⟨k, k1, k2, hfit, hmin⟩ := least_k (xs.length + ys.length) 9 (by omega)
  have dx := digs_of hx n1
  have dy := digs_of hy n2
  have H1 := hide (n1 ▸ above_gen (some ⟨b1, o1, none⟩) c1 d xs w hd (by omega) (.inr ⟨b1, o1, rfl, g1⟩) hx)
  have H2 := hide (n2 ▸ above_gen (some ⟨b2, o2, none⟩) c2 d ys w hd (by omega) (.inr ⟨b2, o2, rfl, g2⟩) hy)
  have HR := hide (Run_any b1 o1 c1 b2 o2 c2 k d xs ys w k1 k2 hd lx ly l1 l2 hfit hmin g1 g2 dx dy)
  have hround := run_round k1 k2 hd dx dy hx hy lx ly l1 l2 hfit
  have hall := shRun_keep k d xs ys k1 k2 hd dx dy
  have hlen := shRun_length k d xs ys
  have hs0 := grt_pos k d xs ys
  have hs1 := grt_small k d xs ys k1 k2 hd
  have hN1 : 2 ^ k ≤ 1024 := Nat.pow_le_pow_right (n := 2) (by omega) k2
  have hN0 : 1 ≤ 2 ^ k := Nat.pos_of_ne_zero (by simp)
  have hout : ∀ i, xs.length + ys.length - 1 ≤ i → (dl xs ys xs.length 0 i).toNat = 0 := fun i hi => by
    rw [dl_out xs ys i (by omega) ly]; rfl
  have hrow : I64 (fun i => ((dl xs ys xs.length 0 i).toNat : Int)) (xs.length + ys.length - 1) = I64 (dl xs ys xs.length 0) (xs.length + ys.length - 1) :=
    I64_congr fun i _ => by have := dl_nonneg hx hy xs.length i; omega
  have hra : ∀ b (W : World), Blk W b 103 (C (zup (shRun k d xs ys) (2 ^ k) (2 ^ k))) → Calls Takg.prog 80 #[.slice (some ⟨b, 0, none⟩) (2 ^ k) (2 ^ k), .int .i64 (xs.length + ys.length - 1 : Nat)] W fun e w' =>
      ∃ b2, e = .returned (.tuple #[.slice (some ⟨b2, 0, none⟩) (xs.length + ys.length - 1) (xs.length + ys.length - 1), .bool true]) ∧ Blk w' b2 2 (I64 (dl xs ys xs.length 0) (xs.length + ys.length - 1)) ∧ Chg [] W w' := fun b W hb => by
    have := RoundAll_any b (xs.length + ys.length - 1) (zup (shRun k d xs ys) (2 ^ k) (2 ^ k)) (fun i => (dl xs ys xs.length 0 i).toNat) W (by rw [zup_length]; exact hN1) (by omega) (by rw [zup_length]; omega) hround hout hb
    rw [zup_length, hrow] at this
    exact this
  exact Convolve_walk _ _ _ _ c1 c2 d (2 ^ k) (xs.length + ys.length - 1) _ _ w hd lx ly l1 l2 rfl hN0 hN1 H1.out H2.out HR.out hlen hall hs0 hs1 hra
end Cx
end Go.Proofs.Ygctak
