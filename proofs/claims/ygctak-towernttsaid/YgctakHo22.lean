/-
  Walk: fft.Raw.
-/
import Derived.Test.YgctakHo21
namespace Go.Proofs.Ygctak
open Go.RowKit
set_option linter.unusedVariables false
set_option linter.unusedSimpArgs false
attribute [local go_sem ↓] Go.wp_at_zero Go.wp_at_succ
attribute [local go_sem] Fl.run_store_complex Fl.run_store_float
namespace Fr
open Ac Fl Sh Ex
open Ft (zst rev zf)

set_option maxRecDepth 100000 in
set_option maxHeartbeats 1000000 in
theorem Raw_any (b1 o1 c1 b2 o2 c2 k : Nat) (xa xb : List Int) (w : World) (hk0 : 1 ≤ k) (hk : k ≤ 10) (la : 1 ≤ xa.length) (lb : 1 ≤ xb.length) (la2 : xa.length ≤ 512) (lb2 : xb.length ≤ 512)
    (hfit : xa.length + xb.length ≤ 2 ^ k + 1) (hmin : k = 1 ∨ 2 ^ (k - 1) + 1 < xa.length + xb.length) (ga : Dig w b1 o1 xa) (gb : Dig w b2 o2 xb) (ha : Digs 255 xa) (hb : Digs 255 xb) :
    Calls Takg.prog 77 #[.slice (some ⟨b1, o1, none⟩) xa.length c1, .slice (some ⟨b2, o2, none⟩) xb.length c2] w fun e w' =>
      ∃ bx, e = .returned (.slice (some ⟨bx, 0, none⟩) (2 ^ k) (2 ^ k)) ∧ Blk w' bx 103 (C (Zl (2 ^ k) (rawZ k xa xb))) ∧ Chg [] w w' := by
  have hn2 : 2 ^ k ≤ 1024 := Nat.le_trans (Nat.pow_le_pow_right (n := 2) (by omega) hk) (by decide)
  have hn1 : 1 ≤ 2 ^ k := Nat.one_le_two_pow
  have hT := tab_keep k hk0 (by omega)
  have HTB := hide (fun W => Table_any k W hk0 (by omega))
  have HPA := hide (fun W (hW : Dig W b1 o1 xa) => points_any b1 o1 c1 (2 ^ k) xa W hn2 (by omega) hW)
  have HPB := hide (fun W (hW : Dig W b2 o2 xb) => points_any b2 o2 c2 (2 ^ k) xb W hn2 (by omega) hW)
  have fA : ∀ t, t ≤ k → ∀ i, i < 2 ^ k → Fc 118 (zit (pnt xa) (tab k) k t i) := fun t ht i hi => by rw [zit_fwA k xa t ht i hi]; exact zf_fin (fwA_keep k xa t hk0 hk ht ha) i
  have fB : ∀ t, t ≤ k → ∀ i, i < 2 ^ k → Fc 118 (zit (pnt xb) (tab k) k t i) := fun t ht i hi => by rw [zit_fwA k xb t ht i hi]; exact zf_fin (fwA_keep k xb t hk0 hk ht hb) i
  have HFA := hide (fun b bt W hne h1 h2 => Forward_any b bt k 118 (k - 1) (pnt xa) (tab k) W hk0 hk hT.1 h1 h2 (fun t ht => fA t (by omega)) hT.2 (by omega) hne)
  have HFB := hide (fun b bt W hne h1 h2 => Forward_any b bt k 118 (k - 1) (pnt xb) (tab k) W hk0 hk hT.1 h1 h2 (fun t ht => fB t (by omega)) hT.2 (by omega) hne)
  have hl : (tms (fwd k 255 xa) (fwd k 255 xb) (most (k + 1) 255)).length = 2 ^ k := by rw [tms_length, fwd_length]
  have fC : ∀ t, t ≤ k → ∀ i, i < 2 ^ k → Fc 347 (zit (rawP k xa xb) ((tab k).map conj) k t i) := fun t ht i hi => by
    rw [zit_bwA k _ _ hl (fun m hm => rawP_tms k xa xb _ m hm) t ht i hi]
    exact zf_fin (bwA_keep k _ t hk0 hk ht (mid_keep k 255 xa xb hk0 hk (by omega) ha hb)) i
  have HIN := hide (fun b bt W hne h1 h2 => Inverse_any b bt k 347 (k - 1) (rawP k xa xb) (tab k) W hk0 hk hT.1 h1 h2 fC hT.2 (by omega) hne)
  have HML : Hid (∀ i, i < 2 ^ k → cMulBits (zit (pnt xa) (tab k) k k i).1 (zit (pnt xa) (tab k) k k i).2 (zit (pnt xb) (tab k) k k i).1 (zit (pnt xb) (tab k) k k i).2 = some (rawP k xa xb i)) := fun i hi =>
    (cmul_fin (fA k (Nat.le_refl _) i hi) (fB k (Nat.le_refl _) i hi) (by omega)).1
  have HP := hide (fun q (hq : q ≤ 62) => wrap64_pow q hq)
  have hlow : ∀ q, 1 ≤ q → q < k → 2 ^ q + 1 < xa.length + xb.length := fun q q1 q2 => by
    rcases hmin with h | h
    · omega
    · have : 2 ^ q ≤ 2 ^ (k - 1) := Nat.pow_le_pow_right (n := 2) (by omega) (by omega)
      omega
  have HZ : Hid (∀ i, zdv k (zit (rawP k xa xb) ((tab k).map conj) k k i) = rawZ k xa xb i) := fun i => rfl
  have HZ2 : Hid ((Zl (2 ^ k) fun i => zdv k (zit (rawP k xa xb) ((tab k).map conj) k k i)) = Zl (2 ^ k) (rawZ k xa xb)) := rfl
  have HLOW := hide hlow
  have HFIT := hide hfit
  have hwk := wrap64_pow k (by omega)
  clear hlow hmin hfit ha hb fA fB fC hl hT HZ
  obtain ⟨zA, hzA⟩ : ∃ z, z = zit (pnt xa) (tab k) k k := ⟨_, rfl⟩
  obtain ⟨zB, hzB⟩ : ∃ z, z = zit (pnt xb) (tab k) k k := ⟨_, rfl⟩
  obtain ⟨zP, hzP⟩ : ∃ z, z = rawP k xa xb := ⟨_, rfl⟩
  obtain ⟨zZ, hzZ⟩ : ∃ z, z = rawZ k xa xb := ⟨_, rfl⟩
  obtain ⟨zI, hzI⟩ : ∃ z, z = fun i => zdv k (zit (rawP k xa xb) ((tab k).map conj) k k i) := ⟨_, rfl⟩
  rw [← hzA] at HFA HML
  rw [← hzB] at HFB HML
  rw [← hzI] at HIN HZ2
  rw [← hzP] at HIN HML
  rw [← hzZ] at HZ2 ⊢
  clear hzA hzB hzP hzZ hzI
  obtain ⟨n, en⟩ : ∃ n, n = 2 ^ k := ⟨_, rfl⟩
  obtain ⟨N, eN⟩ : ∃ N, N = 2 ^ (k - 1) := ⟨_, rfl⟩
  rw [← eN] at HTB HFA HFB HIN
  rw [← en] at HPA HPB HFA HFB HIN HML HZ2 hwk hn1 hn2 HFIT ⊢
  have HEN := hide en
  clear en eN
  generalize xa.length = A at *
  generalize xb.length = B at *
  have i1 : ((A : Int) == 0) = false := by rw [beq_eq_false_iff_ne]; omega
  have i2 : ((B : Int) == 0) = false := by rw [beq_eq_false_iff_ne]; omega
  have i3 : decide ((512 : Int) < (A : Int)) = false := decide_eq_false (by omega)
  have i4 : decide ((512 : Int) < (B : Int)) = false := decide_eq_false (by omega)
  go_enter Takg.func77, Takg.ntmps77
  go_wp2_with fail
  clear i1 i2 i3 i4
  go_loop [5] (fun v => ∃ q : Nat, v = .int .u8 q ∧ 1 ≤ q ∧ q ≤ k) (fun v => 20 - (intOf v).toNat)
  case atStart => exact ⟨1, rfl, by omega, by omega⟩
  case round =>
    obtain ⟨q, rfl, q1, q2⟩ := hrel
    have hw := HP.out q (by omega)
    have hsum : IntKind.i64.wrap ((A : Int) + (B : Int)) = (A : Int) + (B : Int) := by rw [IntKind.wrap_i64]; omega
    by_cases hlt : q < k
    · have hl := HLOW.out q q1 hlt
      clear hwk
      generalize hqq : 2 ^ q = Q at *
      have hdec : decide (wrap64 (2 ^ q) < (A : Int) + (B : Int) - 1) = true := decide_eq_true (by rw [hw]; omega)
      clear hqq
      go_wp2_with fail
      go_round
      case rel => exact ⟨q + 1, by go_num, by omega, by omega⟩
      case measure => simp [intOf]; omega
    · have hqk : q = k := by omega
      subst hqk
      have hl := HFIT.out
      have hdec : decide ((n : Int) < (A : Int) + (B : Int) - 1) = false := decide_eq_false (by omega)
      clear hw hlt q1 HLOW HFIT hl HP
      go_wp2_with fail
      refine (HTB.out _).mono ?_
      rintro e w1 ⟨bt, rfl, hbt, kt1, hc1⟩
      have ga1 := hc1.dig ga (by simp)
      have gb1 := hc1.dig gb (by simp)
      clear hdec hsum ga gb
      have gt : w.heap.size ≤ bt := by have := hbt.out; omega
      clear hbt
      go_wp2_with fail
      rw [hwk]
      refine (HPA.out _ ga1).mono ?_
      rintro e w2 ⟨bx, rfl, hbx, kx2, hc2⟩
      have kt2 := hc2.blk kt1 (by simp)
      have gb2 := hc2.dig gb1 (by simp)
      have nxt : bx ≠ bt := by have := hbx.out; have := kt1.lt; omega
      have gx : w.heap.size ≤ bx := by have := hbx.out; have := hc1.size; omega
      have cw2 := hc1.trans hc2
      clear hbx kt1 ga1 gb1 hc1 hc2
      go_wp2_with fail
      rw [hwk]
      refine (HPB.out _ gb2).mono ?_
      rintro e w3 ⟨bY, rfl, hby, ky3, hc3⟩
      have kt3 := hc3.blk kt2 (by simp)
      have kx3 := hc3.blk kx2 (by simp)
      have nyt : bY ≠ bt := by have := hby.out; have := kt2.lt; omega
      have nxy : bx ≠ bY := by have := hby.out; have := kx2.lt; omega
      have gy : w.heap.size ≤ bY := by have := hby.out; have := cw2.size; omega
      have cw3 := cw2.trans hc3
      clear hby kt2 kx2 gb2 cw2 hc3
      go_wp2_with fail
      refine (HFA.out bx bt _ nxt kx3 kt3).mono ?_
      rintro e w4 ⟨rfl, kx4, hc4⟩
      have kt4 := hc4.blk kt3 (by simpa using Ne.symm nxt)
      have ky4 := hc4.blk ky3 (by simpa using Ne.symm nxy)
      have cw4 := cw3.news hc4 (by simp; omega)
      clear kx3 kt3 ky3 cw3 hc4
      go_wp2_with fail
      refine (HFB.out bY bt _ nyt ky4 kt4).mono ?_
      rintro e w5 ⟨rfl, ky5, hc5⟩
      have kt5 := hc5.blk kt4 (by simpa using Ne.symm nyt)
      have kx5 := hc5.blk kx4 (by simpa using nxy)
      have cw5 := cw4.news hc5 (by simp; omega)
      clear kx4 kt4 ky4 cw4 hc5
      have H0 : Hid (Zl n (fun m => if m < 0 then zP m else zA m) = Zl n zA) := Zl_congr fun m _ => by rw [if_neg (by omega)]
      rw [← H0.out] at kx5
      clear H0
      go_wp2_with fail
      go_loopw [9] (fun v wr => ∃ i : Nat, v = .int .i64 i ∧ i ≤ n ∧ Blk wr bx 103 (C (Zl n fun m => if m < i then zP m else zA m)) ∧ Blk wr bY 103 (C (Zl n zB)) ∧ Blk wr bt 103 (C (tab q)) ∧ Chg [] w wr) (fun v _ => n - (intOf v).toNat)
      case atStart => exact ⟨0, rfl, by omega, kx5, ky5, kt5, cw5⟩
      case round =>
        clear kx5 ky5 kt5 cw5
        obtain ⟨i, rfl, hi, kx, ky, kt, cw⟩ := hrel
        by_cases hil : i < n
        · have hm := HML.out i hil
          have k1 := Zl_cell kx i hil
          rw [if_neg (by omega)] at k1
          have k2 := Zl_cell ky i hil
          have V1 := Zl_setB kx i (zP i)
          have e1 : Zl n (fun m => if m = i then zP i else if m < i then zP m else zA m) = Zl n (fun m => if m < i + 1 then zP m else zA m) := Zl_congr fun m _ => by
            by_cases e : m = i
            · subst e
              rw [if_pos rfl, if_pos (by omega)]
            · rw [if_neg e]
              by_cases e2 : m < i
              · rw [if_pos e2, if_pos (by omega)]
              · rw [if_neg e2, if_neg (by omega)]
          rw [e1] at V1
          obtain ⟨⟨x1, x2⟩, hx1⟩ : ∃ z, z = zA i := ⟨_, rfl⟩
          obtain ⟨⟨y1, y2⟩, hy1⟩ : ∃ z, z = zB i := ⟨_, rfl⟩
          obtain ⟨⟨p1, p2⟩, hp1⟩ : ∃ z, z = zP i := ⟨_, rfl⟩
          rw [← hx1] at k1 hm
          rw [← hy1] at k2 hm
          rw [← hp1] at hm V1
          dsimp only at k1 k2 hm V1
          have V2 := ky.set_ne ⟨bx, i, none⟩ (by simpa using Ne.symm nxy) (.complex .f64 p1 p2)
          have V3 := kt.set_ne ⟨bx, i, none⟩ (by simpa using Ne.symm nxt) (.complex .f64 p1 p2)
          have V4 := cw.setNew ⟨bx, i, none⟩ gx (.complex .f64 p1 p2)
          have f0 := kx.frozen i none
          have HM := hide hm
          clear e1 hx1 hy1 hp1 hm kx ky kt cw
          go_upto_region 13 with fail
          go_region_with (go_at_call 59; refine (Mul_any _ _ _ _ p1 p2 _ HM.out).mono ?_; rintro e w' ⟨rfl, rfl⟩)
          all_goals (
            go_wp2_with fail
            go_roundw
            case rel => exact ⟨i + 1, by go_num, by omega, V1.drew, V2.drew, V3.drew, V4.drew⟩
            case measure => simp [intOf]; omega)
        · have hie : i = n := by omega
          subst hie
          have e1 : Zl i (fun m => if m < i then zP m else zA m) = Zl i zP := Zl_congr fun m hm => by rw [if_pos hm]
          rw [e1] at kx
          clear e1
          go_wp2_with fail
          refine (HIN.out bx bt _ nxt kx kt).mono ?_
          rintro e w7 ⟨rfl, kx7, hc7⟩
          rw [HZ2.out] at kx7
          have cw7 := cw.news hc7 (by simp; omega)
          go_wp2_with fail
          go_ret
          exact ⟨bx, rfl, kx7, cw7⟩
end Fr
end Go.Proofs.Ygctak
