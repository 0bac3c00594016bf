/-
  Walk: shadowInverse.
-/
import Derived.Test.YgctakHo22
import Derived.Test.YgctakHo16
namespace Go.Proofs.Ygctak
open Go.RowKit
set_option linter.unusedVariables false
set_option linter.unusedSimpArgs false
attribute [local go_sem ↓] Go.wp_at_zero Go.wp_at_succ
namespace Ex
open Ac Fl Sh Fr Fb

theorem bitsC_any (a c : Nat) (w : World) : Calls Takg.prog 79 #[.complex .f64 a c, .int .u64 a, .int .u64 c] w fun e w' => e = .returned (.bool true) ∧ w' = w := by
  go_enter Takg.func79, Takg.ntmps79
  go_wp2_with fail
  refine (b64_any a _).mono ?_
  rintro e w' ⟨rfl, rfl⟩
  go_wp2_with fail
  refine (b64_any c _).mono ?_
  rintro e w' ⟨rfl, rfl⟩
  go_wp2_with fail
  go_ret
  exact ⟨rfl, rfl⟩

theorem run_load119 {a : Act} {o : Oper} (x : Operand) (h : o.op = .load 119 x) (b p : Nat) (z : Q) (w : World) (hx : a.eval x = .pointer (some ⟨b, p, none⟩)) (hr : w.rangeAt b p (Cc z)) : (execOp a.eval o).run Takg.prog w = .ok (.value (.agg (Cc z).toArray)) w := by
  unfold execOp
  simp only [h, hx, Instr.loadAt, Instr.sureAddr, Sem.run_bind, Sem.run_pure, Result.andThen_ok, run_loadVar_mid w b p 119 (Cc z) _ hr Takg.underlying119 (by rfl) (by rw [Cc_length]; exact info119)]
theorem run_neq58 {a : Act} {o : Oper} (x y : Operand) (ho : o.op = .binOp .neq 58 x y 58) (p : Int) (w : World) (hx : a.eval x = .agg (W p).toArray) (hy : a.eval y = .agg (W p).toArray) (fp : Fits p) :
    (execOp a.eval o).run Takg.prog w = .ok (.value (.bool false)) w := by
  unfold execOp
  rw [ho]
  simp only [hx, hy]
  rw [Sem.run_bind, Sem.run_bind, guard58]
  simp only [Result.andThen_ok]
  rw [run_neq_struct, acc_eq p p fp fp, decide_eq_true rfl]
  rfl

/-- The exact points turned round, i of them laid. -/
def tuU (x : List Q) (k i : Nat) : List Q := (List.range (2 ^ k)).map fun j => if Ft.rev k j < i then x.getD (Ft.rev k j) q0 else q0
def turn (x : List Q) (k : Nat) : List Q := (List.range (2 ^ k)).map fun j => x.getD (Ft.rev k j) q0
theorem tuU_length (x : List Q) (k i : Nat) : (tuU x k i).length = 2 ^ k := by simp [tuU]
theorem turn_length (x : List Q) (k : Nat) : (turn x k).length = 2 ^ k := by simp [turn]
theorem tuU_get (x : List Q) (k i j : Nat) (h : j < 2 ^ k) : (tuU x k i).getD j q0 = if Ft.rev k j < i then x.getD (Ft.rev k j) q0 else q0 := by
  simp only [tuU, List.getD_eq_getElem?_getD, List.getElem?_map, List.getElem?_range h, Option.map_some, Option.getD_some]
theorem turn_get (x : List Q) (k j : Nat) (h : j < 2 ^ k) : (turn x k).getD j q0 = x.getD (Ft.rev k j) q0 := by
  simp only [turn, List.getD_eq_getElem?_getD, List.getElem?_map, List.getElem?_range h, Option.map_some, Option.getD_some]
theorem tuU_zero (x : List Q) (k : Nat) : tuU x k 0 = List.replicate (2 ^ k) q0 := qext (by rw [tuU_length, List.length_replicate]) fun j hj => by
  rw [tuU_length] at hj
  rw [tuU_get _ _ _ _ hj, if_neg (by omega), List.getD_eq_getElem?_getD, List.getElem?_replicate]
  simp [hj]
theorem tuU_end (x : List Q) (k : Nat) : tuU x k (2 ^ k) = turn x k := qext (by rw [tuU_length, turn_length]) fun j hj => by
  rw [tuU_length] at hj
  rw [tuU_get _ _ _ _ hj, turn_get _ _ _ hj, if_pos (Ft.rev_lt k j)]
theorem tuU_next (x : List Q) (k i : Nat) (hi : i < 2 ^ k) : (tuU x k i).set (Ft.rev k i) (x.getD i q0) = tuU x k (i + 1) := qext (by rw [List.length_set, tuU_length, tuU_length]) fun j hj => by
  rw [List.length_set, tuU_length] at hj
  rw [qget_set _ _ _ _ (by rw [tuU_length]; exact hj), tuU_get _ _ _ _ hj, tuU_get _ _ _ _ hj]
  by_cases e : Ft.rev k i = j
  · subst e
    rw [if_pos rfl, Ft.rev_rev k i hi, if_pos (by omega)]
  · rw [if_neg e]
    have : Ft.rev k j ≠ i := fun h => e (by rw [← h, Ft.rev_rev k j hj])
    by_cases e2 : Ft.rev k j < i
    · rw [if_pos e2, if_pos (by omega)]
    · rw [if_neg e2, if_neg (by omega)]

set_option maxRecDepth 100000 in
set_option maxHeartbeats 2000000 in
theorem shadowInverse_any (b1 o1 c1 b2 o2 c2 bx be bt k : Nat) (xa xb : List Int) (e0 : List Q) (w : World) (hk0 : 1 ≤ k) (hk : k ≤ 10) (la : 1 ≤ xa.length) (lb : 1 ≤ xb.length) (la2 : xa.length ≤ 512) (lb2 : xb.length ≤ 512)
    (hfit : xa.length + xb.length ≤ 2 ^ k + 1) (hmin : k = 1 ∨ 2 ^ (k - 1) + 1 < xa.length + xb.length) (ga : Dig w b1 o1 xa) (gb : Dig w b2 o2 xb) (ha : Digs 255 xa) (hb : Digs 255 xb)
    (kx : Blk w bx 113 (Pts (tms (fwd k 255 xa) (fwd k 255 xb) (most (k + 1) 255)))) (ke : Blk w be 119 (Cs e0)) (kt : Blk w bt 103 (C (tab k))) (he : e0.length = 2 ^ k) (nxe : bx ≠ be) (nxt : bx ≠ bt) (nxa : bx ≠ b1) (nxb : bx ≠ b2)
    (hH : ∀ t, 1 ≤ t → t ≤ k → ∀ i, i < 2 ^ k → Holds (124 * k + 62 * t + 0) ((bwA k (rvs k (tms (fwd k 255 xa) (fwd k 255 xb) (most (k + 1) 255))) t).getD i p0) ((exB (turn e0 k) t).getD i q0))
    (hE : ∀ i, i < 2 ^ k → Holds (124 * k + 62 * k + k) ((shRun k 255 xa xb).getD i p0) ((exB (turn e0 k) k).getD i q0)) :
    Calls Takg.prog 28 #[.slice (some ⟨b1, o1, none⟩) xa.length c1, .slice (some ⟨b2, o2, none⟩) xb.length c2, .slice (some ⟨bx, 0, none⟩) (2 ^ k) (2 ^ k), .slice (some ⟨be, 0, none⟩) (2 ^ k) (2 ^ k), .slice (some ⟨bt, 0, none⟩) (2 ^ (k - 1)) (2 ^ (k - 1)), .int .i64 k, .int .i64 ((124 * k : Nat) : Int)] w fun e w' =>
      e = .returned (.bool true) ∧ Chg [bx] w w' := by
  have hn2 : 2 ^ k ≤ 1024 := Nat.le_trans (Nat.pow_le_pow_right (n := 2) (by omega) hk) (by decide)
  have hT := tab_keep k hk0 (by omega)
  have hTc : ((tab k).map conj).length = 2 ^ (k - 1) := by rw [List.length_map]; exact hT.1
  have hmid := mid_keep k 255 xa xb hk0 hk (by omega) ha hb
  have hml : (tms (fwd k 255 xa) (fwd k 255 xb) (most (k + 1) 255)).length = 2 ^ k := by rw [tms_length, fwd_length]
  have HCT := hide (fun W (hW : Blk W bt 103 (C (tab k))) => conjTable_any bt (2 ^ (k - 1)) (tab k) W (by have := Nat.pow_le_pow_right (n := 2) (by omega) (show k - 1 ≤ 10 by omega); omega) hT.1 hW)
  obtain ⟨x0, hx0⟩ : ∃ x, x = tms (fwd k 255 xa) (fwd k 255 xb) (most (k + 1) 255) := ⟨_, rfl⟩
  have HDV : Hid (dvs k (bwA k (rvs k x0) k) = shRun k 255 xa xb) := by unfold Hid; rw [hx0]; rfl
  rw [← hx0] at kx hH hmid hml
  clear hx0
  have HRV := hide (fun W (hW : Blk W bx 113 (Pts x0)) => Sh.Reverse_any bx 113 k x0 W hk hml hW)
  have hrl : (rvs k x0).length = 2 ^ k := by rw [rvs_length, hml]
  have HSG : Hid (∀ s bc W, s < k → bx ≠ bc → Blk W bx 113 (Pts (bwA k (rvs k x0) s)) → Blk W bc 103 (C ((tab k).map conj)) →
      Calls Takg.prog 63 #[.slice (some ⟨bx, 0, none⟩) (2 ^ k) (2 ^ k), .slice (some ⟨bc, 0, none⟩) (2 ^ (k - 1)) (2 ^ (k - 1)), .int .u8 ((s : Int) + 1), .int .u64 (mostBack (s + 1) k 255 : Nat)] W fun e w' =>
        e = .returned (.tuple #[]) ∧ Blk w' bx 113 (Pts (bwA k (rvs k x0) (s + 1))) ∧ Chg [bx] W w') := fun s bc W hs hne h1 h2 => by
    have := Sh.Stage_any bx bc 113 k (s + 1) (mostBack (s + 1) k 255) 347 (k - 1) (bwA k (rvs k x0) s) ((tab k).map conj) W hk (by omega) (by omega) (by have := mostBack_le (s + 1) k 255 (by omega) (by omega); omega) (by rw [bwA_length, hrl]) hTc h1 h2 ((bwA_keep k _ s hk0 hk (by omega) hmid).mono (by omega) (by omega)) hT.2.conj (by omega) hne
    rw [show s + 1 - 1 = s by omega, ← bwA_succ] at this
    exact this
  have HEG : Hid (∀ s b bc W, s < k → b ≠ bc → Blk W b 119 (Cs (exB (turn e0 k) s)) → Blk W bc 103 (C ((tab k).map conj)) →
      Calls Takg.prog 64 #[.slice (some ⟨b, 0, none⟩) (2 ^ k) (2 ^ k), .slice (some ⟨bc, 0, none⟩) (2 ^ (k - 1)) (2 ^ (k - 1)), .int .u8 ((s : Int) + 1)] W fun e w' =>
        e = .returned (.bool true) ∧ Blk w' b 119 (Cs (exB (turn e0 k) (s + 1))) ∧ Chg [b] W w') := fun s b bc W hs hne h1 h2 =>
    exactStage_any b bc k (s + 1) (exB (turn e0 k) s) ((tab k).map conj) (rc (s + 1)) W hk (by omega) (by omega) (by rw [exB_length, turn_length]) hTc h1 h2 hne (rp_bwd k (s + 1) hk0 hk (by omega) (by omega))
  have HSH : Hid (∀ s S b2 W, s < k → S = 124 * k + 62 * s → Blk W bx 113 (Pts (bwA k (rvs k x0) (s + 1))) → Blk W b2 119 (Cs (exB (turn e0 k) (s + 1))) →
      Calls Takg.prog 27 #[.slice (some ⟨bx, 0, none⟩) (2 ^ k) (2 ^ k), .slice (some ⟨b2, 0, none⟩) (2 ^ k) (2 ^ k), .int .i64 ((S : Int) + 62), .int .i64 0] W fun e w' => e = .returned (.bool true) ∧ Chg [] W w') := fun s S b2 W hs hS h1 h2 => by
    have := shadowed_any bx b2 (2 ^ k) (124 * k + 62 * (s + 1)) 0 (bwA k (rvs k x0) (s + 1)) (exB (turn e0 k) (s + 1)) W hn2 (by omega) (by rw [bwA_length, hrl]) (by rw [exB_length, turn_length]) h1 h2 (hH (s + 1) (by omega) (by omega))
    rw [show ((124 * k + 62 * (s + 1) : Nat) : Int) = (S : Int) + 62 by omega] at this
    exact this
  have HSE : Hid (∀ S b2 W, S = 124 * k + 62 * k → Blk W bx 113 (Pts (shRun k 255 xa xb)) → Blk W b2 119 (Cs (exB (turn e0 k) k)) →
      Calls Takg.prog 27 #[.slice (some ⟨bx, 0, none⟩) (2 ^ k) (2 ^ k), .slice (some ⟨b2, 0, none⟩) (2 ^ k) (2 ^ k), .int .i64 (S : Int), .int .i64 (k : Int)] W fun e w' => e = .returned (.bool true) ∧ Chg [] W w') := fun S b2 W hS h1 h2 => by
    subst hS
    exact shadowed_any bx b2 (2 ^ k) (124 * k + 62 * k) k (shRun k 255 xa xb) (exB (turn e0 k) k) W hn2 (by omega) (shRun_length _ _ _ _) (by rw [exB_length, turn_length]) h1 h2 hE
  have HM : Hid (∀ s W, s < k → Calls Takg.prog 75 #[.int .u8 ((s : Int) + 1), .int .u8 (k : Int), .int .u8 255] W fun e w' => e = .returned (.int .u64 (mostBack (s + 1) k 255 : Nat)) ∧ w' = W) := fun s W hs => MostBack_any (s + 1) k 255 W (by omega) (by omega) (by omega) (by omega)
  have HDI := hide (fun W (hW : Blk W bx 113 (Pts (bwA k (rvs k x0) k))) => Divide_any bx 113 k 347 (bwA k (rvs k x0) k) W hk0 hk (by rw [bwA_length, hrl]) hW ((bwA_keep k _ k hk0 hk (Nat.le_refl _) hmid).mono (by omega) (by omega)))
  have HRU := hide (fun W (g1 : Dig W b1 o1 xa) (g2 : Dig W b2 o2 xb) => Run_any b1 o1 c1 b2 o2 c2 k 255 xa xb W hk0 hk (by omega) la lb la2 lb2 hfit hmin g1 g2 ha hb)
  have HRA := hide (fun W (g1 : Dig W b1 o1 xa) (g2 : Dig W b2 o2 xb) => Raw_any b1 o1 c1 b2 o2 c2 k xa xb W hk0 hk la lb la2 lb2 hfit hmin g1 g2 ha hb)
  have HRZ : Hid (∀ i, i < 2 ^ k → rawZ k xa xb i = ((shRun k 255 xa xb).getD i p0).1) := fun i hi => rawZ_shRun k xa xb i hi
  have HER : Hid (∀ i, i < 2 ^ k → Fits ((shRun k 255 xa xb).getD i p0).2) := fun i hi => by
    have := hE i hi
    have := bound_fits _ 0 this.e0 this.e1 (by omega)
    simpa using this
  have HSL := hide (shRun_length k 255 xa xb)
  have HMI : Hid (∀ i : Nat, i < 2 ^ k → ∀ W, Calls Takg.prog 74 #[.int .i64 i, .int .i64 k] W fun e w' => e = .returned (.int .i64 (Ft.rev k i : Nat)) ∧ w' = W) := fun i hi W => mirror_any i k W (by omega) hk
  have HTN : Hid (∀ i, i < 2 ^ k → (tuU e0 k i).set (Ft.rev k i) (e0.getD i q0) = tuU e0 k (i + 1)) := fun i hi => tuU_next e0 k i hi
  have HRL : Hid (∀ i, Ft.rev k i < 2 ^ k) := fun i => Ft.rev_lt k i
  have HT0 := hide (tuU_zero e0 k)
  have HT1 := hide (tuU_end e0 k)
  have HTE : Hid (exB (turn e0 k) 0 = turn e0 k) := rfl
  have HBE : Hid (bwA k (rvs k x0) 0 = rvs k x0) := rfl
  have HE0 := hide he
  have hmk := fun W => make48 (2 ^ k) hn2 W
  clear hH hE hT hTc hmid hml hrl hfit hmin ha hb he
  obtain ⟨L, hL⟩ : ∃ L, L = shRun k 255 xa xb := ⟨_, rfl⟩
  rw [← hL] at HDV HSE HRU HRZ HER HSL
  obtain ⟨rz, hrz⟩ : ∃ z, z = rawZ k xa xb := ⟨_, rfl⟩
  rw [← hrz] at HRA HRZ
  clear hL hrz
  obtain ⟨n, en⟩ : ∃ n, n = 2 ^ k := ⟨_, rfl⟩
  obtain ⟨N, eN⟩ : ∃ N, N = 2 ^ (k - 1) := ⟨_, rfl⟩
  rw [← eN] at HCT HSG HEG ⊢
  rw [← en] at HRV HSG HEG HSH HSE HDI HRU HRA HRZ HER HSL HMI HTN HRL HT0 HT1 HE0 hmk hn2 ⊢
  have HEN := hide en
  clear en eN
  have hka : ((124 * k : Nat) : Int) + 0 = ((124 * k : Nat) : Int) := by omega
  clear hka
  obtain ⟨S0, hS0⟩ : ∃ S, S = 124 * k := ⟨_, rfl⟩
  rw [← hS0]
  have hS1 : S0 ≤ 1240 := by omega
  have HS0 := hide hS0
  clear hS0
  have hu8 : IntKind.u8.wrap (k : Int) = (k : Int) := by rw [IntKind.wrap_u8]; omega
  generalize xa.length = A at *
  generalize xb.length = B at *
  have lbx := kx.lt
  have lbe := ke.lt
  have lbt := kt.lt
  go_enter Takg.func28, Takg.ntmps28
  go_wp2_with fail
  refine (HCT.out _ kt).mono ?_
  rintro e w1 ⟨bc, rfl, hbc, kc1, hc1⟩
  have kx1 := hc1.blk kx (by simp)
  have ke1 := hc1.blk ke (by simp)
  have ga1 := hc1.dig ga (by simp)
  have gb1 := hc1.dig gb (by simp)
  have gc : w.heap.size ≤ bc := by have := hbc.out; omega
  have nxc : bx ≠ bc := by omega
  have s1 := hc1.size
  have cw1 : Chg [bx] w w1 := hc1.mono (by simp)
  clear hbc kx ke kt ga gb hc1 HCT
  go_wp2_with fail
  refine (HRV.out _ kx1).mono ?_
  rintro e w2 ⟨rfl, kx2, hc2⟩
  rw [← HBE.out] at kx2
  have ke2 := hc2.blk ke1 (by simpa using Ne.symm nxe)
  have kc2 := hc2.blk kc1 (by simpa using Ne.symm nxc)
  have ga2 := hc2.dig ga1 (by simpa using Ne.symm nxa)
  have gb2 := hc2.dig gb1 (by simpa using Ne.symm nxb)
  have cw2 := cw1.trans hc2
  have s2 := hc2.size
  clear kx1 ke1 kc1 ga1 gb1 cw1 hc2 HRV HBE
  go_upto_region 4 with fail
  clear hmk
  have hbn := Blk.new w2 (Cs (List.replicate n q0)) 119
  have hch := (Chg.refl [] w2).alloc (.cells (Cs (List.replicate n q0)).toArray 119)
  obtain ⟨bd, hbd⟩ : ∃ b, b = w2.heap.size := ⟨_, rfl⟩
  rw [← hbd] at hbn ⊢
  have lc := kc2.lt
  have nxd : bx ≠ bd := by omega
  have ned : be ≠ bd := by omega
  have ncd : bc ≠ bd := by omega
  have gd : w.heap.size ≤ bd := by omega
  have kx3 := hch.blk kx2 (by simp)
  have ke3 := hch.blk ke2 (by simp)
  have kc3 := hch.blk kc2 (by simp)
  have ga3 := hch.dig ga2 (by simp)
  have gb3 := hch.dig gb2 (by simp)
  have cw3 := cw2.trans (hch.mono (by simp))
  have nad : b1 ≠ bd := by have := ga2.lt; omega
  have nbd : b2 ≠ bd := by have := gb2.lt; omega
  clear hbd kx2 ke2 kc2 ga2 gb2 cw2 hch s1 s2 lc
  generalize w2.alloc (.cells (Cs (List.replicate n q0)).toArray 119) = w3 at *
  rw [← HT0.out] at hbn
  clear HT0
  go_wp2_with fail
  go_loopw [17] (fun v wr => ∃ i : Nat, v = .int .i64 i ∧ i ≤ n ∧ Blk wr bx 113 (Pts (bwA k (rvs k x0) 0)) ∧ Blk wr be 119 (Cs e0) ∧ Blk wr bc 103 (C ((tab k).map conj)) ∧ Blk wr bd 119 (Cs (tuU e0 k i)) ∧ Dig wr b1 o1 xa ∧ Dig wr b2 o2 xb ∧ Chg [bx] w wr) (fun v _ => n - (intOf v).toNat)
  case atStart => exact ⟨0, rfl, by omega, kx3, ke3, kc3, hbn, ga3, gb3, cw3⟩
  case round =>
    clear kx3 ke3 kc3 hbn ga3 gb3 cw3
    obtain ⟨i, rfl, hi, kx, ke, kc, kd, ga, gb, cw⟩ := hrel
    by_cases hil : i < n
    · have hnext := HTN.out i hil
      have HMI := hide (HMI.out i hil)
      have hj := HRL.out i
      obtain ⟨j, ej⟩ : ∃ j, j = Ft.rev k i := ⟨_, rfl⟩
      rw [← ej] at hnext hj HMI
      obtain ⟨v, ev⟩ : ∃ v, v = e0.getD i q0 := ⟨_, rfl⟩
      have LE : Hid (∀ w1, Blk w1 be 119 (Cs e0) → w1.rangeAt be (i * 136) (Cc v)) := fun w1 hw => by
        have := ce hw i (by rw [HE0.out]; exact hil); rw [← ev] at this; exact this.rangeAt
      rw [← ev] at hnext
      obtain ⟨X, hX⟩ : ∃ X, X = tuU e0 k i := ⟨_, rfl⟩
      have HXL : Hid (X.length = n) := by unfold Hid; rw [hX, tuU_length]; exact HEN.out.symm
      rw [← hX] at kd hnext
      have HNX := hide hnext
      clear hnext ej ev hX
      go_upto_region 7 with fail
      refine wp_region_held_drew (S := fun w1 => Blk w1 be 119 (Cs e0) ∧ Blk w1 bx 113 (Pts (bwA k (rvs k x0) 0)) ∧ Blk w1 bc 103 (C ((tab k).map conj)) ∧ (∃ X' : List Q, X'.length = n ∧ Blk w1 bd 119 (Cs X')) ∧ Chg [bx] w w1) (by kernel_rfl) ⟨ke.drew, kx.drew, kc.drew, ⟨X, HXL.out, kd.drew⟩, cw.drew⟩ (fun hHeld => ?_)
      refine takeL 0 (v := ?_) rfl (by kernel_rfl) (by kernel_rfl) (by kernel_rfl) (fun _ _ _ h => h) (by rfl) ?_ hHeld ?_
      rotate_left
      · (intro w1 hSw; go_simp; try with_reducible rfl)
      simp only [Act.put, List.setIfInBounds_toArray, List.set_cons_zero, List.set_cons_succ]
      refine takeL 1 (v := ?_) rfl (by kernel_rfl) (by kernel_rfl) (by kernel_rfl) (fun _ _ _ h => h) (by rfl) ?_ hHeld ?_
      rotate_left
      · (intro w1 hSw; go_simp; try with_reducible rfl)
      simp only [Act.put, List.setIfInBounds_toArray, List.set_cons_zero, List.set_cons_succ]
      refine takeL 2 (v := ?_) rfl (by kernel_rfl) (by kernel_rfl) (by kernel_rfl) (fun _ _ _ h => h) (by rfl) ?_ hHeld ?_
      rotate_left
      · (intro w1 hSw; go_simp; try with_reducible rfl)
      simp only [Act.put, List.setIfInBounds_toArray, List.set_cons_zero, List.set_cons_succ]
      refine takeL 4 (v := ?_) rfl (by kernel_rfl) (by kernel_rfl) (by kernel_rfl) (fun _ _ _ h => h) (by rfl) ?_ hHeld ?_
      rotate_left
      · (intro w1 hSw; go_simp; try with_reducible rfl)
      simp only [Act.put, List.setIfInBounds_toArray, List.set_cons_zero, List.set_cons_succ]
      refine takeL 5 (v := ?_) rfl (by kernel_rfl) (by kernel_rfl) (by kernel_rfl) (fun _ _ _ h => h) (by rfl) ?_ hHeld ?_
      rotate_left
      · (intro w1 hSw; go_simp; try with_reducible rfl)
      simp only [Act.put, List.setIfInBounds_toArray, List.set_cons_zero, List.set_cons_succ]
      refine takeL 6 (v := ?_) rfl (by kernel_rfl) (by kernel_rfl) (by kernel_rfl) (fun _ _ _ h => h) (by rfl) ?_ hHeld ?_
      rotate_left
      · (intro w1 hSw; go_simp; try with_reducible rfl)
      simp only [Act.put, List.setIfInBounds_toArray, List.set_cons_zero, List.set_cons_succ]
      refine takeL 7 rfl (by kernel_rfl) (by kernel_rfl) (by kernel_rfl) (fun _ _ _ h => h) (by rfl) (fun w1 hSw => run_load119 (.tmp 43) rfl be (i * 136) v w1 rfl (LE.out w1 hSw.1)) hHeld ?_
      simp only [Act.put, List.setIfInBounds_toArray, List.set_cons_zero, List.set_cons_succ]
      refine wpAnyH_ready (rs := [3]) (by kernel_rfl) (by simp) ?_
      refine consL rfl rfl (fun K hK => ?_) AllReadyH.nil
      go_simp
      refine (HMI.out _).mono ?_
      rintro e wn ⟨rfl, rfl⟩
      refine hK.out _ _ hHeld (fun hHeld => ?_)
      clear hK K
      try simp only [Act.put, List.setIfInBounds_toArray, List.set_cons_zero, List.set_cons_succ, List.toList_toArray]
      refine takeL 8 (v := ?_) rfl (by kernel_rfl) (by kernel_rfl) (by kernel_rfl) (fun _ _ _ h => h) (by rfl) ?_ hHeld ?_
      rotate_left
      · (intro w1 hSw; go_simp; try with_reducible rfl)
      simp only [Act.put, List.setIfInBounds_toArray, List.set_cons_zero, List.set_cons_succ]
      clear hHeld
      have q1 := ce kd.drew j (by rw [HXL.out]; omega)
      have q2 := unce j (by rw [HXL.out]; omega) (At.setCells (Cc v) _ _ _ _ q1 (by rw [Cc_length, Cc_length]))
      rw [HNX.out] at q2
      have V1 := Blk.setCells_ne bd (Cc v) (j * 136) _ ke.drew ned
      have V2 := Blk.setCells_ne bd (Cc v) (j * 136) _ kx.drew nxd
      have V3 := Blk.setCells_ne bd (Cc v) (j * 136) _ kc.drew ncd
      have V5 : Dig _ b1 o1 xa := (Chg.setCells bd (by simp) (Cc v) (j * 136) _ (Chg.refl [bd] wr.drew)).dig ga.drew (by simpa using nad)
      have V6 : Dig _ b2 o2 xb := (Chg.setCells bd (by simp) (Cc v) (j * 136) _ (Chg.refl [bd] wr.drew)).dig gb.drew (by simpa using nbd)
      have V4 := Chg.setCellsNew bd gd (Cc v) (j * 136) _ cw.drew
      refine wpAnyH_ready (rs := [9]) (by kernel_rfl) (by simp) ?_
      refine consL rfl rfl (fun K hK => ?_) AllReadyH.nil
      refine wp_store_mid 119 _ _ rfl bd (j * 136) (Cc v).toArray rfl rfl (q1.there _ (by rw [List.size_toArray, Cc_length, Cc_length])) (by rw [List.size_toArray, Cc_length]; exact info119) (Cc_one _) ?_
      refine hK.out _ _ ⟨V1, V2, V3, ⟨_, (by rw [tuU_length]; exact HEN.out.symm), q2⟩, V4⟩ (fun hHeld => ?_)
      clear hK K hHeld q1
      try simp only [Act.put, List.setIfInBounds_toArray, List.set_cons_zero, List.set_cons_succ, List.toList_toArray]
      generalize wr.drew.setCells bd (j * 136) (Cc v) = w9 at *
      refine wpAnyH_done (by kernel_rfl) ?_ _
      go_wp2_with fail
      go_roundw
      case rel => exact ⟨i + 1, by go_num, by omega, V2, V1, V3, q2, V5, V6, V4⟩
      case measure => simp [intOf]; omega
    · have hie : n = i := by omega
      subst hie
      rw [HT1.out, ← HTE.out] at kd
      clear HTN HRL HT1 HTE HMI HE0
      go_wp2_with fail
      go_loopw [6, 18] (fun v6 v wr => ∃ s S : Nat, v6 = .int .i64 S ∧ v = .int .u8 ((s : Int) + 1) ∧ s ≤ k ∧ S ≤ 1860 ∧ Hid (S = 124 * k + 62 * s) ∧ Blk wr bx 113 (Pts (bwA k (rvs k x0) s)) ∧ Blk wr bd 119 (Cs (exB (turn e0 k) s)) ∧ Blk wr bc 103 (C ((tab k).map conj)) ∧ Dig wr b1 o1 xa ∧ Dig wr b2 o2 xb ∧ Chg [bx] w wr) (fun _ v _ => k + 1 - (intOf v).toNat)
      case atStart => exact ⟨0, S0, rfl, rfl, by omega, by omega, by unfold Hid; rw [HS0.out]; omega, kx, kd, kc, ga, gb, cw⟩
      case round =>
        clear kx kd kc ga gb cw ke
        obtain ⟨s, S, rfl, rfl, hs, hS, HS, kx, kd, kc, ga, gb, cw⟩ := hrel
        by_cases hsk : s < k
        · have hS2 : S + 62 ≤ 1860 := by have := HS.out; omega
          go_wp2_with fail
          refine (HM.out s _ hsk).mono ?_
          rintro e w' ⟨rfl, rfl⟩
          go_wp2_with fail
          refine (HSG.out s bc _ hsk nxc kx kc).mono ?_
          rintro e w4 ⟨rfl, kx4, hc4⟩
          have kd4 := hc4.blk kd (by simpa using Ne.symm nxd)
          have kc4 := hc4.blk kc (by simpa using Ne.symm nxc)
          have ga4 := hc4.dig ga (by simpa using Ne.symm nxa)
          have gb4 := hc4.dig gb (by simpa using Ne.symm nxb)
          have cw4 := cw.trans hc4
          clear kx kd kc ga gb cw hc4
          go_wp2_with fail
          refine (HEG.out s bd bc _ hsk (Ne.symm ncd) kd4 kc4).mono ?_
          rintro e w5 ⟨rfl, kd5, hc5⟩
          have kx5 := hc5.blk kx4 (by simpa using nxd)
          have kc5 := hc5.blk kc4 (by simpa using ncd)
          have ga5 := hc5.dig ga4 (by simpa using nad)
          have gb5 := hc5.dig gb4 (by simpa using nbd)
          have cw5 := cw4.news hc5 (by simp; omega)
          clear kx4 kd4 kc4 ga4 gb4 cw4 hc5
          go_wp2_with fail
          refine (HSH.out s S bd _ hsk HS.out kx5 kd5).mono ?_
          rintro e w6 ⟨rfl, hc6⟩
          have kx6 := hc6.blk kx5 (by simp)
          have kd6 := hc6.blk kd5 (by simp)
          have kc6 := hc6.blk kc5 (by simp)
          have ga6 := hc6.dig ga5 (by simp)
          have gb6 := hc6.dig gb5 (by simp)
          have cw6 := cw5.trans (hc6.mono (by simp))
          clear kx5 kd5 kc5 ga5 gb5 cw5 hc6
          go_wp2_with fail
          go_roundw
          case rel => exact ⟨s + 1, S + 62, by go_num, by go_num, by omega, by omega, by unfold Hid; have := HS.out; omega, kx6, kd6, kc6, ga6, gb6, cw6⟩
          case measure => simp [intOf]; omega
        · have hse : s = k := by omega
          have HSK : Hid (S = 124 * k + 62 * k) := by rw [← hse]; unfold Hid; rw [HS.out, hse]
          rw [hse] at kx kd
          clear HS hse
          go_wp2_with fail
          refine (HDI.out _ kx).mono ?_
          rintro e w4 ⟨rfl, kx4, hc4⟩
          rw [HDV.out] at kx4
          have kd4 := hc4.blk kd (by simpa using Ne.symm nxd)
          have ga4 := hc4.dig ga (by simpa using Ne.symm nxa)
          have gb4 := hc4.dig gb (by simpa using Ne.symm nxb)
          have cw4 := cw.trans hc4
          clear kx kd kc ga gb cw hc4
          go_wp2_with fail
          refine (HRU.out _ ga4 gb4).mono ?_
          rintro e w5 ⟨bg, rfl, kg5, hc5⟩
          have kx5 := hc5.blk kx4 (by simp)
          have kd5 := hc5.blk kd4 (by simp)
          have ga5 := hc5.dig ga4 (by simp)
          have gb5 := hc5.dig gb4 (by simp)
          have cw5 := cw4.trans (hc5.mono (by simp))
          clear kx4 kd4 ga4 gb4 cw4 hc5
          go_wp2_with fail
          refine (HRA.out _ ga5 gb5).mono ?_
          rintro e w6 ⟨br, rfl, kr6, hc6⟩
          have kx6 := hc6.blk kx5 (by simp)
          have kd6 := hc6.blk kd5 (by simp)
          have kg6 := hc6.blk kg5 (by simp)
          have cw6 := cw5.trans (hc6.mono (by simp))
          clear kx5 kd5 kg5 ga5 gb5 cw5 hc6
          go_wp2_with fail
          refine (HSE.out S bd _ HSK.out kx6 kd6).mono ?_
          rintro e w7 ⟨rfl, hc7⟩
          have kx7 := hc7.blk kx6 (by simp)
          have kg7 := hc7.blk kg6 (by simp)
          have kr7 := hc7.blk kr6 (by simp)
          have cw7 := cw6.trans (hc7.mono (by simp))
          clear kx6 kd6 kg6 kr6 cw6 hc7
          go_wp2_with fail
          go_loopw [21] (fun v wr => ∃ i : Nat, v = .int .i64 i ∧ i ≤ n ∧ Blk wr bx 113 (Pts L) ∧ Blk wr bg 113 (Pts L) ∧ Blk wr br 103 (C (Zl n rz)) ∧ Chg [bx] w wr) (fun v _ => n - (intOf v).toNat)
          case atStart => exact ⟨0, rfl, by omega, kx7, kg7, kr7, cw7⟩
          case round =>
            clear kx7 kg7 kr7 cw7
            obtain ⟨i, rfl, hi, kx, kg, kr, cw⟩ := hrel
            by_cases hil : i < n
            · have hll : i < L.length := by rw [HSL.out]; exact hil
              obtain ⟨⟨⟨z1, z2⟩, er⟩, hp⟩ : ∃ p, p = L.getD i p0 := ⟨_, rfl⟩
              have hr1 := HRZ.out i hil
              have hf1 := HER.out i hil
              rw [← hp] at hr1 hf1
              dsimp only at hr1 hf1
              have HF := hide hf1
              have LR : Hid (∀ w1, Blk w1 br 103 (C (Zl n rz)) → w1.cell? ⟨br, i, none⟩ = some (.complex .f64 z1 z2)) := fun w1 hw => by
                have := Zl_cell hw i hil; rw [hr1] at this; exact this
              have LX : Hid (∀ w1, Blk w1 bx 113 (Pts L) → w1.cell? ⟨bx, i * 69, none⟩ = some (.complex .f64 z1 z2)) := fun w1 hw => by
                have := ptZ hw i hll; rw [← hp] at this; exact this
              have LG : Hid (∀ w1, Blk w1 bg 113 (Pts L) → w1.cell? ⟨bg, i * 69, none⟩ = some (.complex .f64 z1 z2)) := fun w1 hw => by
                have := ptZ hw i hll; rw [← hp] at this; exact this
              have LXE : Hid (∀ w1, Blk w1 bx 113 (Pts L) → w1.rangeAt bx (i * 69 + 1) (W er)) := fun w1 hw => by
                have := ptE hw i hll; rw [← hp] at this; exact this.rangeAt
              have LGE : Hid (∀ w1, Blk w1 bg 113 (Pts L) → w1.rangeAt bg (i * 69 + 1) (W er)) := fun w1 hw => by
                have := ptE hw i hll; rw [← hp] at this; exact this.rangeAt
              clear hp hr1 hf1
              go_upto_region 22 with fail
              go_cut [22, 23] (fun v22 v23 wc => v22 = .int .u64 z1 ∧ v23 = .int .u64 z2 ∧ Blk wc bx 113 (Pts L) ∧ Blk wc bg 113 (Pts L) ∧ Blk wc br 103 (C (Zl n rz)) ∧ Chg [bx] w wc)
              case first =>
                refine wp_region_held_drew (S := fun w1 => Blk w1 bx 113 (Pts L) ∧ Blk w1 bg 113 (Pts L) ∧ Blk w1 br 103 (C (Zl n rz)) ∧ Chg [bx] w w1) (by kernel_rfl) ⟨kx.drew, kg.drew, kr.drew, cw.drew⟩ (fun hHeld => ?_)
                refine takeL 0 (v := ?_) rfl (by kernel_rfl) (by kernel_rfl) (by kernel_rfl) (fun _ _ _ h => h) (by rfl) ?_ hHeld ?_
                rotate_left
                · (intro w1 hSw; have hcell := LR.out w1 hSw.2.2.1; go_simp; try with_reducible rfl)
                simp only [Act.put, List.setIfInBounds_toArray, List.set_cons_zero, List.set_cons_succ]
                refine takeL 1 (v := ?_) rfl (by kernel_rfl) (by kernel_rfl) (by kernel_rfl) (fun _ _ _ h => h) (by rfl) ?_ hHeld ?_
                rotate_left
                · (intro w1 hSw; have hcell := LR.out w1 hSw.2.2.1; go_simp; try with_reducible rfl)
                simp only [Act.put, List.setIfInBounds_toArray, List.set_cons_zero, List.set_cons_succ]
                refine takeL 2 (v := ?_) rfl (by kernel_rfl) (by kernel_rfl) (by kernel_rfl) (fun _ _ _ h => h) (by rfl) ?_ hHeld ?_
                rotate_left
                · (intro w1 hSw; have hcell := LR.out w1 hSw.2.2.1; go_simp; try with_reducible rfl)
                simp only [Act.put, List.setIfInBounds_toArray, List.set_cons_zero, List.set_cons_succ]
                refine takeL 3 (v := ?_) rfl (by kernel_rfl) (by kernel_rfl) (by kernel_rfl) (fun _ _ _ h => h) (by rfl) ?_ hHeld ?_
                rotate_left
                · (intro w1 hSw; have hcell := LR.out w1 hSw.2.2.1; go_simp; try with_reducible rfl)
                simp only [Act.put, List.setIfInBounds_toArray, List.set_cons_zero, List.set_cons_succ]
                refine takeL 4 (v := ?_) rfl (by kernel_rfl) (by kernel_rfl) (by kernel_rfl) (fun _ _ _ h => h) (by rfl) ?_ hHeld ?_
                rotate_left
                · (intro w1 hSw; have hcell := LR.out w1 hSw.2.2.1; go_simp; try with_reducible rfl)
                simp only [Act.put, List.setIfInBounds_toArray, List.set_cons_zero, List.set_cons_succ]
                refine takeL 6 (v := ?_) rfl (by kernel_rfl) (by kernel_rfl) (by kernel_rfl) (fun _ _ _ h => h) (by rfl) ?_ hHeld ?_
                rotate_left
                · (intro w1 hSw; have hcell := LR.out w1 hSw.2.2.1; go_simp; try with_reducible rfl)
                simp only [Act.put, List.setIfInBounds_toArray, List.set_cons_zero, List.set_cons_succ]
                refine takeL 7 (v := ?_) rfl (by kernel_rfl) (by kernel_rfl) (by kernel_rfl) (fun _ _ _ h => h) (by rfl) ?_ hHeld ?_
                rotate_left
                · (intro w1 hSw; have hcell := LR.out w1 hSw.2.2.1; go_simp; try with_reducible rfl)
                simp only [Act.put, List.setIfInBounds_toArray, List.set_cons_zero, List.set_cons_succ]
                refine takeL 8 (v := ?_) rfl (by kernel_rfl) (by kernel_rfl) (by kernel_rfl) (fun _ _ _ h => h) (by rfl) ?_ hHeld ?_
                rotate_left
                · (intro w1 hSw; have hcell := LR.out w1 hSw.2.2.1; go_simp; try with_reducible rfl)
                simp only [Act.put, List.setIfInBounds_toArray, List.set_cons_zero, List.set_cons_succ]
                refine takeL 9 (v := ?_) rfl (by kernel_rfl) (by kernel_rfl) (by kernel_rfl) (fun _ _ _ h => h) (by rfl) ?_ hHeld ?_
                rotate_left
                · (intro w1 hSw; have hcell := LR.out w1 hSw.2.2.1; go_simp; try with_reducible rfl)
                simp only [Act.put, List.setIfInBounds_toArray, List.set_cons_zero, List.set_cons_succ]
                refine takeL 10 (v := ?_) rfl (by kernel_rfl) (by kernel_rfl) (by kernel_rfl) (fun _ _ _ h => h) (by rfl) ?_ hHeld ?_
                rotate_left
                · (intro w1 hSw; have hcell := LR.out w1 hSw.2.2.1; go_simp; try with_reducible rfl)
                simp only [Act.put, List.setIfInBounds_toArray, List.set_cons_zero, List.set_cons_succ]
                refine wpAnyH_ready (rs := [5]) (by kernel_rfl) (by simp) ?_
                refine consL rfl rfl (fun K hK => ?_) AllReadyH.nil
                go_simp
                refine (b64_any _ _).mono ?_
                rintro e wn ⟨rfl, rfl⟩
                refine hK.out _ _ hHeld (fun hHeld => ?_)
                clear hK K
                try simp only [Act.put, List.setIfInBounds_toArray, List.set_cons_zero, List.set_cons_succ, List.toList_toArray]
                refine wpAnyH_ready (rs := [11]) (by kernel_rfl) (by simp) ?_
                refine consL rfl rfl (fun K hK => ?_) AllReadyH.nil
                go_simp
                refine (b64_any _ _).mono ?_
                rintro e wn ⟨rfl, rfl⟩
                refine hK.out _ _ hHeld (fun hHeld => ?_)
                clear hK K
                try simp only [Act.put, List.setIfInBounds_toArray, List.set_cons_zero, List.set_cons_succ, List.toList_toArray]
                refine takeL 12 (v := ?_) rfl (by kernel_rfl) (by kernel_rfl) (by kernel_rfl) (fun _ _ _ h => h) (by rfl) ?_ hHeld ?_
                rotate_left
                · (intro w1 hSw; go_simp; try with_reducible rfl)
                simp only [Act.put, List.setIfInBounds_toArray, List.set_cons_zero, List.set_cons_succ]
                refine takeL 13 (v := ?_) rfl (by kernel_rfl) (by kernel_rfl) (by kernel_rfl) (fun _ _ _ h => h) (by rfl) ?_ hHeld ?_
                rotate_left
                · (intro w1 hSw; go_simp; try with_reducible rfl)
                simp only [Act.put, List.setIfInBounds_toArray, List.set_cons_zero, List.set_cons_succ]
                refine wpAnyH_done (by kernel_rfl) ?_ _
                go_wp2_with fail
                go_meet
                exact ⟨rfl, rfl, hHeld⟩
              case rest =>
                clear kx kg kr cw
                obtain ⟨rfl, rfl, kx, kg, kr, cw⟩ := hcut
                go_upto_region 23 with fail
                refine wp_region_held_drew (S := fun w1 => Blk w1 bx 113 (Pts L) ∧ Blk w1 bg 113 (Pts L) ∧ Blk w1 br 103 (C (Zl n rz)) ∧ Chg [bx] w w1) (by kernel_rfl) ⟨kx.drew, kg.drew, kr.drew, cw.drew⟩ (fun hHeld => ?_)
                clear kx kg kr cw
                refine takeL 0 (v := ?_) rfl (by kernel_rfl) (by kernel_rfl) (by kernel_rfl) (fun _ _ _ h => h) (by rfl) ?_ hHeld ?_
                rotate_left
                · (intro w1 hSw; have hcell := LX.out w1 hSw.1; go_simp; try with_reducible rfl)
                simp only [Act.put, List.setIfInBounds_toArray, List.set_cons_zero, List.set_cons_succ]
                refine takeL 1 (v := ?_) rfl (by kernel_rfl) (by kernel_rfl) (by kernel_rfl) (fun _ _ _ h => h) (by rfl) ?_ hHeld ?_
                rotate_left
                · (intro w1 hSw; have hcell := LX.out w1 hSw.1; go_simp; try with_reducible rfl)
                simp only [Act.put, List.setIfInBounds_toArray, List.set_cons_zero, List.set_cons_succ]
                refine takeL 2 (v := ?_) rfl (by kernel_rfl) (by kernel_rfl) (by kernel_rfl) (fun _ _ _ h => h) (by rfl) ?_ hHeld ?_
                rotate_left
                · (intro w1 hSw; have hcell := LX.out w1 hSw.1; go_simp; try with_reducible rfl)
                simp only [Act.put, List.setIfInBounds_toArray, List.set_cons_zero, List.set_cons_succ]
                refine takeL 3 (v := ?_) rfl (by kernel_rfl) (by kernel_rfl) (by kernel_rfl) (fun _ _ _ h => h) (by rfl) ?_ hHeld ?_
                rotate_left
                · (intro w1 hSw; have hcell := LX.out w1 hSw.1; go_simp; try with_reducible rfl)
                simp only [Act.put, List.setIfInBounds_toArray, List.set_cons_zero, List.set_cons_succ]
                refine takeL 4 (v := ?_) rfl (by kernel_rfl) (by kernel_rfl) (by kernel_rfl) (fun _ _ _ h => h) (by rfl) ?_ hHeld ?_
                rotate_left
                · (intro w1 hSw; have hcell := LX.out w1 hSw.1; go_simp; try with_reducible rfl)
                simp only [Act.put, List.setIfInBounds_toArray, List.set_cons_zero, List.set_cons_succ]
                refine takeL 5 (v := ?_) rfl (by kernel_rfl) (by kernel_rfl) (by kernel_rfl) (fun _ _ _ h => h) (by rfl) ?_ hHeld ?_
                rotate_left
                · (intro w1 hSw; have hcell := LX.out w1 hSw.1; go_simp; try with_reducible rfl)
                simp only [Act.put, List.setIfInBounds_toArray, List.set_cons_zero, List.set_cons_succ]
                refine takeL 6 (v := ?_) rfl (by kernel_rfl) (by kernel_rfl) (by kernel_rfl) (fun _ _ _ h => h) (by rfl) ?_ hHeld ?_
                rotate_left
                · (intro w1 hSw; have hcell := LX.out w1 hSw.1; go_simp; try with_reducible rfl)
                simp only [Act.put, List.setIfInBounds_toArray, List.set_cons_zero, List.set_cons_succ]
                refine wpAnyH_ready (rs := [7]) (by kernel_rfl) (by simp) ?_
                refine consW rfl (by rfl) (fun K hK => ?_) AllReadyH.nil
                go_simp
                refine (bitsC_any z1 z2 _).mono ?_
                rintro e wn ⟨rfl, rfl⟩
                refine hK.out _ _ hHeld (fun hHeld => ?_)
                clear hK K
                try simp only [Act.put, List.setIfInBounds_toArray, List.set_cons_zero, List.set_cons_succ, List.toList_toArray]
                refine takeL 8 (v := ?_) rfl (by kernel_rfl) (by kernel_rfl) (by kernel_rfl) (fun _ _ _ h => h) (by rfl) ?_ hHeld ?_
                rotate_left
                · (intro w1 hSw; have hcell := LG.out w1 hSw.2.1; go_simp; try with_reducible rfl)
                simp only [Act.put, List.setIfInBounds_toArray, List.set_cons_zero, List.set_cons_succ]
                refine takeL 9 (v := ?_) rfl (by kernel_rfl) (by kernel_rfl) (by kernel_rfl) (fun _ _ _ h => h) (by rfl) ?_ hHeld ?_
                rotate_left
                · (intro w1 hSw; have hcell := LG.out w1 hSw.2.1; go_simp; try with_reducible rfl)
                simp only [Act.put, List.setIfInBounds_toArray, List.set_cons_zero, List.set_cons_succ]
                refine takeL 10 (v := ?_) rfl (by kernel_rfl) (by kernel_rfl) (by kernel_rfl) (fun _ _ _ h => h) (by rfl) ?_ hHeld ?_
                rotate_left
                · (intro w1 hSw; have hcell := LG.out w1 hSw.2.1; go_simp; try with_reducible rfl)
                simp only [Act.put, List.setIfInBounds_toArray, List.set_cons_zero, List.set_cons_succ]
                refine takeL 11 (v := ?_) rfl (by kernel_rfl) (by kernel_rfl) (by kernel_rfl) (fun _ _ _ h => h) (by rfl) ?_ hHeld ?_
                rotate_left
                · (intro w1 hSw; have hcell := LG.out w1 hSw.2.1; go_simp; try with_reducible rfl)
                simp only [Act.put, List.setIfInBounds_toArray, List.set_cons_zero, List.set_cons_succ]
                refine takeL 12 (v := ?_) rfl (by kernel_rfl) (by kernel_rfl) (by kernel_rfl) (fun _ _ _ h => h) (by rfl) ?_ hHeld ?_
                rotate_left
                · (intro w1 hSw; have hcell := LG.out w1 hSw.2.1; go_simp; try with_reducible rfl)
                simp only [Act.put, List.setIfInBounds_toArray, List.set_cons_zero, List.set_cons_succ]
                refine takeL 13 (v := ?_) rfl (by kernel_rfl) (by kernel_rfl) (by kernel_rfl) (fun _ _ _ h => h) (by rfl) ?_ hHeld ?_
                rotate_left
                · (intro w1 hSw; have hcell := LG.out w1 hSw.2.1; go_simp; try with_reducible rfl)
                simp only [Act.put, List.setIfInBounds_toArray, List.set_cons_zero, List.set_cons_succ]
                refine takeL 14 (v := ?_) rfl (by kernel_rfl) (by kernel_rfl) (by kernel_rfl) (fun _ _ _ h => h) (by rfl) ?_ hHeld ?_
                rotate_left
                · (intro w1 hSw; have hcell := LG.out w1 hSw.2.1; go_simp; try with_reducible rfl)
                simp only [Act.put, List.setIfInBounds_toArray, List.set_cons_zero, List.set_cons_succ]
                refine takeL 15 (v := ?_) rfl (by kernel_rfl) (by kernel_rfl) (by kernel_rfl) (fun _ _ _ h => h) (by rfl) ?_ hHeld ?_
                rotate_left
                · (intro w1 hSw; have hcell := LG.out w1 hSw.2.1; go_simp; try with_reducible rfl)
                simp only [Act.put, List.setIfInBounds_toArray, List.set_cons_zero, List.set_cons_succ]
                refine takeL 16 (v := ?_) rfl (by kernel_rfl) (by kernel_rfl) (by kernel_rfl) (fun _ _ _ h => h) (by rfl) ?_ hHeld ?_
                rotate_left
                · (intro w1 hSw; have hcell := LG.out w1 hSw.2.1; go_simp; try with_reducible rfl)
                simp only [Act.put, List.setIfInBounds_toArray, List.set_cons_zero, List.set_cons_succ]
                refine wpAnyH_ready (rs := [17]) (by kernel_rfl) (by simp) ?_
                refine consW rfl (by rfl) (fun K hK => ?_) AllReadyH.nil
                go_simp
                refine (bitsC_any z1 z2 _).mono ?_
                rintro e wn ⟨rfl, rfl⟩
                refine hK.out _ _ hHeld (fun hHeld => ?_)
                clear hK K
                try simp only [Act.put, List.setIfInBounds_toArray, List.set_cons_zero, List.set_cons_succ, List.toList_toArray]
                refine takeL 18 (v := ?_) rfl (by kernel_rfl) (by kernel_rfl) (by kernel_rfl) (fun _ _ _ h => h) (by rfl) ?_ hHeld ?_
                rotate_left
                · (intro w1 hSw; go_simp; try with_reducible rfl)
                simp only [Act.put, List.setIfInBounds_toArray, List.set_cons_zero, List.set_cons_succ]
                refine takeL 19 (v := ?_) rfl (by kernel_rfl) (by kernel_rfl) (by kernel_rfl) (fun _ _ _ h => h) (by rfl) ?_ hHeld ?_
                rotate_left
                · (intro w1 hSw; go_simp; try with_reducible rfl)
                simp only [Act.put, List.setIfInBounds_toArray, List.set_cons_zero, List.set_cons_succ]
                refine takeL 20 (v := ?_) rfl (by kernel_rfl) (by kernel_rfl) (by kernel_rfl) (fun _ _ _ h => h) (by rfl) ?_ hHeld ?_
                rotate_left
                · (intro w1 hSw; go_simp; try with_reducible rfl)
                simp only [Act.put, List.setIfInBounds_toArray, List.set_cons_zero, List.set_cons_succ]
                refine takeL 21 (v := ?_) rfl (by kernel_rfl) (by kernel_rfl) (by kernel_rfl) (fun _ _ _ h => h) (by rfl) ?_ hHeld ?_
                rotate_left
                · (intro w1 hSw; go_simp; try with_reducible rfl)
                simp only [Act.put, List.setIfInBounds_toArray, List.set_cons_zero, List.set_cons_succ]
                refine takeL 22 (v := ?_) rfl (by kernel_rfl) (by kernel_rfl) (by kernel_rfl) (fun _ _ _ h => h) (by rfl) ?_ hHeld ?_
                rotate_left
                · (intro w1 hSw; go_simp; try with_reducible rfl)
                simp only [Act.put, List.setIfInBounds_toArray, List.set_cons_zero, List.set_cons_succ]
                refine takeL 23 (v := ?_) rfl (by kernel_rfl) (by kernel_rfl) (by kernel_rfl) (fun _ _ _ h => h) (by rfl) ?_ hHeld ?_
                rotate_left
                · (intro w1 hSw; go_simp; try with_reducible rfl)
                simp only [Act.put, List.setIfInBounds_toArray, List.set_cons_zero, List.set_cons_succ]
                refine takeL 24 (v := ?_) rfl (by kernel_rfl) (by kernel_rfl) (by kernel_rfl) (fun _ _ _ h => h) (by rfl) ?_ hHeld ?_
                rotate_left
                · (intro w1 hSw; go_simp; try with_reducible rfl)
                simp only [Act.put, List.setIfInBounds_toArray, List.set_cons_zero, List.set_cons_succ]
                refine takeL 25 rfl (by kernel_rfl) (by kernel_rfl) (by kernel_rfl) (fun _ _ _ h => h) (by rfl) (fun w1 hSw => run_load58 (.tmp 144) rfl bg (i * 69 + 1) er w1 rfl (LGE.out w1 hSw.2.1)) hHeld ?_
                simp only [Act.put, List.setIfInBounds_toArray, List.set_cons_zero, List.set_cons_succ]
                refine takeL 26 (v := ?_) rfl (by kernel_rfl) (by kernel_rfl) (by kernel_rfl) (fun _ _ _ h => h) (by rfl) ?_ hHeld ?_
                rotate_left
                · (intro w1 hSw; go_simp; try with_reducible rfl)
                simp only [Act.put, List.setIfInBounds_toArray, List.set_cons_zero, List.set_cons_succ]
                refine takeL 27 (v := ?_) rfl (by kernel_rfl) (by kernel_rfl) (by kernel_rfl) (fun _ _ _ h => h) (by rfl) ?_ hHeld ?_
                rotate_left
                · (intro w1 hSw; go_simp; try with_reducible rfl)
                simp only [Act.put, List.setIfInBounds_toArray, List.set_cons_zero, List.set_cons_succ]
                refine takeL 28 (v := ?_) rfl (by kernel_rfl) (by kernel_rfl) (by kernel_rfl) (fun _ _ _ h => h) (by rfl) ?_ hHeld ?_
                rotate_left
                · (intro w1 hSw; go_simp; try with_reducible rfl)
                simp only [Act.put, List.setIfInBounds_toArray, List.set_cons_zero, List.set_cons_succ]
                refine takeL 29 (v := ?_) rfl (by kernel_rfl) (by kernel_rfl) (by kernel_rfl) (fun _ _ _ h => h) (by rfl) ?_ hHeld ?_
                rotate_left
                · (intro w1 hSw; go_simp; try with_reducible rfl)
                simp only [Act.put, List.setIfInBounds_toArray, List.set_cons_zero, List.set_cons_succ]
                refine takeL 30 rfl (by kernel_rfl) (by kernel_rfl) (by kernel_rfl) (fun _ _ _ h => h) (by rfl) (fun w1 hSw => run_load58 (.tmp 149) rfl bx (i * 69 + 1) er w1 rfl (LXE.out w1 hSw.1)) hHeld ?_
                simp only [Act.put, List.setIfInBounds_toArray, List.set_cons_zero, List.set_cons_succ]
                refine takeL 31 rfl (by kernel_rfl) (by kernel_rfl) (by kernel_rfl) (fun _ _ _ h => h) (by rfl) (fun w1 hSw => run_neq58 (.tmp 145) (.tmp 150) rfl er w1 rfl rfl HF.out) hHeld ?_
                simp only [Act.put, List.setIfInBounds_toArray, List.set_cons_zero, List.set_cons_succ]
                refine takeL 32 (v := ?_) rfl (by kernel_rfl) (by kernel_rfl) (by kernel_rfl) (fun _ _ _ h => h) (by rfl) ?_ hHeld ?_
                rotate_left
                · (intro w1 hSw; go_simp; try with_reducible rfl)
                simp only [Act.put, List.setIfInBounds_toArray, List.set_cons_zero, List.set_cons_succ]
                refine wpAnyH_done (by kernel_rfl) ?_ _
                go_wp2_with fail
                go_roundw
                case rel => exact ⟨i + 1, by go_num, by omega, hHeld.1, hHeld.2.1, hHeld.2.2.1, hHeld.2.2.2⟩
                case measure => simp [intOf]; omega
            · have hie : i = n := by omega
              subst hie
              go_wp2_with fail
              go_ret
              exact ⟨rfl, cw⟩
end Ex
end Go.Proofs.Ygctak
