/-
  Walks: times64, rootPart, byRoot.
-/
import Derived.Test.YgctakHo5
import Derived.Test.YgctakCx7
namespace Go.Proofs.Ygctak
open Go.RowKit
set_option linter.unusedVariables false
set_option linter.unusedSimpArgs false
attribute [local go_sem ↓] Go.wp_at_zero Go.wp_at_succ
namespace Ac
open Fb Fl

set_option maxRecDepth 100000 in
set_option maxHeartbeats 1000000 in
theorem times64_any (b o t : Nat) (p s : List Value) (x : Int) (m : Nat) (w : World) (hm : m < 2 ^ 64) (ha : At w b o t p (W x) s) :
    Calls Takg.prog 134 #[.pointer (some ⟨b, o, none⟩), .int .u64 m] w fun e w' => e = .returned (.tuple #[]) ∧ At w' b o t p (W (x * m)) s ∧ Chg [b] w w' := by
  obtain ⟨hi, hhi⟩ : ∃ h : Nat, h = m / 2 ^ 32 := ⟨_, rfl⟩
  obtain ⟨lo, hlo⟩ : ∃ h : Nat, h = m % 2 ^ 32 := ⟨_, rfl⟩
  have e1 : (m : Int) / 4294967296 = (hi : Int) := by omega
  have e2 : IntKind.u32.wrap (hi : Int) = (hi : Int) := by rw [IntKind.wrap_u32]; omega
  have e3 : IntKind.u32.wrap (m : Int) = (lo : Int) := by rw [IntKind.wrap_u32]; omega
  have lb := ha.blk.lt
  have hend : Hid (x * lo + x * hi * 2 ^ 32 = x * m) := by
    unfold Hid
    rw [show (m : Int) = lo + hi * 2 ^ 32 by omega, Int.mul_add, Int.mul_assoc]
  have bh : hi < 2 ^ 32 := by omega
  have bl : lo < 2 ^ 32 := by omega
  clear hhi hlo
  go_enter Takg.func134, Takg.ntmps134
  go_wp2_with (first | (refine wpList_loadAcc (by rfl) (.tmp 6) (by rfl) b o t p s x (by rfl) ha ?_) | (refine wpList_newAcc (by rfl) (by rfl) (by rfl) (.tmp 4) _ (by rfl) x (by rfl) (fun _ => by rfl) (fun _ => by rfl) ?_; intro b1 w1 hb1 hk1 hc1))
  have g1 : w.heap.size ≤ b1 := by have := hb1.out; omega
  have n1 : b ≠ b1 := by have := hb1.out; omega
  have ha1 := ha.chg hc1 (by simp)
  clear ha hb1
  refine (MulSmall_any b1 0 58 [] [] x hi _ (by omega) (by omega) (At.whole hk1)).mono ?_
  rintro e w2 ⟨rfl, k2, hc2⟩
  have ha2 := ha1.chg hc2 (by simpa using n1)
  have hc := hc1.news hc2 (by simp; omega)
  clear hc1 hc2 ha1 hk1
  go_wp2_with fail
  refine (Shl_any b1 0 58 [] [] (x * hi) 32 _ (by omega) k2).mono ?_
  rintro e w3 ⟨rfl, k3, hc3⟩
  have ha3 := ha2.chg hc3 (by simpa using n1)
  have hc' := hc.news hc3 (by simp; omega)
  clear hc hc3 ha2 k2
  go_wp2_with fail
  refine (MulSmall_any b o t p s x lo _ (by omega) (by omega) ha3).mono ?_
  rintro e w4 ⟨rfl, ha4, hc4⟩
  have k4 := k3.chg hc4 (by simpa using Ne.symm n1)
  have hc5 := (hc'.mono (T := [b]) (by simp)).trans hc4
  clear hc' hc4 ha3 k3
  go_wp2_with fail
  refine (Add_any b o t b1 0 58 p s [] [] (x * lo) (x * hi * 2 ^ 32) _ n1 ha4 k4).mono ?_
  rintro e w5 ⟨rfl, ha5, hc6⟩
  rw [hend.out] at ha5
  have hc7 := hc5.trans hc6
  go_wp2_with fail
  go_end0
  exact ⟨rfl, ha5, hc7⟩

/-- A root's part, times 2^62. -/
def Rp (x : Nat) (r : Int) : Prop := Finite x ∧ x < 2 ^ 64 ∧ V x = r * 2 ^ 1012 ∧ (r = 0 ∨ 2 ^ 52 ≤ r.natAbs) ∧ r.natAbs ≤ 2 ^ 62

set_option exponentiation.threshold 3000 in
theorem root_sp {x : Nat} {r : Int} {neg : Bool} {man : Nat} {exp : Int} {c : Nat} (hr : Rp x r) (h : Sp x neg man exp c) :
    (c = 0 ∧ r = 0) ∨ (c = 1 ∧ ∃ sh : Nat, exp = (sh : Int) - 62 ∧ sh ≤ 10 ∧ man * 2 ^ sh = r.natAbs ∧ sg neg (r.natAbs : Int) = r) := by
  obtain ⟨hf, _, hv, h0, h1⟩ := hr
  have habs : (V x).natAbs = r.natAbs * 2 ^ 1012 := by
    rw [hv, Int.natAbs_mul, Int.natAbs_pow]
    rfl
  rcases h with ⟨rfl, _, _, _, hz⟩ | ⟨rfl, m0, m1, e0, e1, _, hV, hn⟩ | ⟨_, _, _, hn⟩
  · left
    refine ⟨rfl, ?_⟩
    rw [hz] at habs
    have := Nat.two_pow_pos 1012
    rcases Nat.eq_zero_or_pos r.natAbs with h | h
    · omega
    · have := Nat.mul_pos h this
      simp at habs
      omega
  · right
    refine ⟨rfl, ?_⟩
    obtain ⟨e', he'⟩ : ∃ e' : Nat, (exp + 1074).toNat = e' := ⟨_, rfl⟩
    rw [he'] at hV
    have hm : man * 2 ^ e' = r.natAbs * 2 ^ 1012 := by rw [← habs, hV, sg_abs]
    have hr0 : r ≠ 0 := by
      intro h
      subst h
      have := Nat.mul_pos m0 (Nat.two_pow_pos e')
      simp at hm
      omega
    have h52 : 2 ^ 52 ≤ r.natAbs := by
      rcases h0 with h | h
      · exact absurd h hr0
      · exact h
    have hlow : 2 ^ 52 * 2 ^ 1012 ≤ man * 2 ^ e' := by rw [hm]; exact Nat.mul_le_mul_right _ h52
    have hge : 1012 ≤ e' := by
      rcases Nat.lt_or_ge e' 1012 with h | h
      · exfalso
        have a1 : man * 2 ^ e' < 2 ^ 53 * 2 ^ e' := Nat.mul_lt_mul_of_pos_right m1 (Nat.two_pow_pos e')
        have a2 : 2 ^ 53 * 2 ^ e' ≤ 2 ^ 53 * 2 ^ 1011 := Nat.mul_le_mul_left _ (pow_mono _ _ (by omega))
        have a3 : 2 ^ 53 * 2 ^ 1011 = 2 ^ 52 * 2 ^ 1012 := by rw [← Nat.pow_add]
        omega
      · exact h
    obtain ⟨sh, hsh⟩ : ∃ sh, e' = sh + 1012 := ⟨e' - 1012, by omega⟩
    have hman : man * 2 ^ sh = r.natAbs := by
      rw [hsh, Nat.pow_add, ← Nat.mul_assoc] at hm
      exact Nat.eq_of_mul_eq_mul_right (Nat.two_pow_pos 1012) hm
    have h52m : 2 ^ 52 ≤ man := by
      rcases hn with h | h
      · exact h
      · omega
    have hs10 : sh ≤ 10 := by
      rcases Nat.lt_or_ge 10 sh with h | h
      · exfalso
        have a1 : 2 ^ 52 * 2 ^ 11 ≤ man * 2 ^ sh := Nat.mul_le_mul h52m (pow_mono _ _ (by omega))
        omega
      · exact h
    refine ⟨sh, by omega, hs10, hman, ?_⟩
    rw [hV, hm, Int.natCast_mul, sg_scale, Fl.ipow] at hv
    exact Int.eq_of_mul_eq_mul_right (Int.ne_of_gt (by rw [← Fl.ipow]; exact Int.natCast_pos.2 (Nat.two_pow_pos _))) hv
  · exact absurd hf hn

theorem rootPart_any (x : Nat) (r : Int) (w : World) (hr : Rp x r) :
    Calls Takg.prog 133 #[.float .f64 x] w fun e w' => ∃ neg : Bool, e = .returned (.tuple #[.bool neg, .int .u64 (r.natAbs : Nat), .bool true]) ∧ Hid (sg neg (r.natAbs : Int) = r) ∧ Chg [] w w' := by
  have HS := hide (Split64_any x w hr.2.1)
  have HR := hide hr
  obtain ⟨m, hm⟩ : ∃ m, m = r.natAbs := ⟨_, rfl⟩
  have hm62 : m ≤ 2 ^ 62 := by rw [hm]; exact hr.2.2.2.2
  rw [← hm]
  have HM := hide hm
  clear hr hm
  go_enter Takg.func133, Takg.ntmps133
  go_wp2_with fail
  refine HS.out.mono ?_
  rintro e w' ⟨neg, man, exp, c, rfl, hsp, rfl⟩
  rcases root_sp HR.out hsp with ⟨rfl, h0⟩ | ⟨rfl, sh, rfl, hs, hman, hsg⟩
  · have hm0 : m = 0 := by rw [HM.out, h0]; rfl
    have HZ := hide h0
    clear hsp h0
    subst hm0
    go_wp2_with fail
    refine bodyPost_ret (Cx.results3 rfl _ _ _) rfl ?_
    exact ⟨neg, rfl, by unfold Hid; rw [HZ.out]; cases neg <;> rfl, Chg.refl [] _⟩
  · rw [← HM.out] at hman hsg
    have HSG := hide hsg
    have i1 : IntKind.i64.wrap ((sh : Int) - 62) = (sh : Int) - 62 := by rw [IntKind.wrap_i64]; omega
    have i2 : (sh : Int) - 62 + 62 = (sh : Int) := by omega
    have i3 : ((man : Int) * 2 ^ sh) = (m : Int) := by rw [← hman, Int.natCast_mul, Fl.ipow]
    have HMAN := hide hman
    clear hsp hsg hman
    go_wp2_with fail
    go_region
    all_goals
      go_wp2_with fail
      refine bodyPost_ret (Cx.results3 rfl _ _ _) rfl ?_
      exact ⟨neg, rfl, HSG, (Chg.refl [] _).drew⟩

theorem results_rowB {fn : Func} {p t : Tmp} {ty : TypeId} (h : fn.results = #[.cell p ty, .tmp t]) (tmps : Array Value) (P : Program) (w : World) (b o : Nat) (hp : tmps.getD p undef = .pointer (some ⟨b, o, none⟩)) (cs : List Value) (d : TypeDesc)
    (hc : w.rangeAt b o cs) (hu : P.underlying ty = some d) (hd : d.isRow = true) (hi : (P.info? ty).map (·.size) = some cs.length) : (results fn tmps).run P w = .ok (.tuple #[.agg cs.toArray, tmps.getD t undef]) w := by
  have hl := run_loadVar_mid w b o ty cs d hc hu hd hi
  simp only [results, h]
  simp [Sem.run_bind, Result.andThen, hp, asAddr, hl]
  simp [Array.getD_eq_getD_getElem?] at hp
  simp [hp, hl, asAddr]

set_option maxRecDepth 100000 in
set_option maxHeartbeats 1000000 in
theorem byRoot_any (a : Int) (x : Nat) (r : Int) (w : World) (hr : Rp x r) :
    Calls Takg.prog 101 #[.agg (W a).toArray, .float .f64 x] w fun e w' => e = .returned (.tuple #[.agg (W (a * r)).toArray, .bool true]) ∧ Chg [] w w' := by
  have HRP := hide (fun W : World => rootPart_any x r W hr)
  have hm62 : r.natAbs < 2 ^ 64 := by have := hr.2.2.2.2; omega
  obtain ⟨m, hm⟩ : ∃ m, m = r.natAbs := ⟨_, rfl⟩
  rw [← hm] at HRP hm62
  obtain ⟨z, hz⟩ : ∃ z, z = a * r := ⟨_, rfl⟩
  rw [← hz]
  have HZ := hide hz
  clear hz hm hr
  go_enter Takg.func101, Takg.ntmps101
  go_wp2_with (first | (refine wpList_boxAcc (by rfl) (.tmp 0) (by rfl) a (by rfl) ?_; intro b1 w1 hb1 hk1 hc1) | (refine wpList_zeroAcc (by rfl) (by rfl) ?_; intro b2 w2 hb2 hk2 hc2))
  have hk12 := hc2.blk hk1 (by simp)
  have hne : b1 ≠ b2 := by have := hk1.lt; have := hb2.out; omega
  have s1 := hc1.size
  have g1 : w.heap.size ≤ b1 := by have := hb1.out; omega
  have g2 : w.heap.size ≤ b2 := by have := hb2.out; omega
  have hc12 : Chg [] w w2 := hc1.trans hc2
  clear hk1 hc1 hc2 hb1 hb2 s1
  refine (HRP.out _).mono ?_
  rintro e w3 ⟨neg, rfl, hsg, hc3⟩
  have k1 := hc3.blk hk12 (by simp)
  have k2 := hc3.blk hk2 (by simp)
  have hc := hc12.trans hc3
  clear hk12 hk2 hc12 hc3 HRP
  go_wp2_with fail
  refine (times64_any b1 0 58 [] [] a m _ hm62 (At.whole k1)).mono ?_
  rintro e w4 ⟨rfl, k14, hc4⟩
  have k24 := hc4.blk k2 (by simpa using Ne.symm hne)
  have hc' := hc.news hc4 (by simp; omega)
  clear k1 k2 hc hc4
  cases neg
  · have HZ2 : Hid (a * m = z) := by
      unfold Hid
      rw [HZ.out, ← hsg.out]
      rfl
    rw [HZ2.out] at k14
    clear hsg HZ HZ2
    go_wp2_with (first | (refine wpList_loadAcc (by rfl) (.tmp 2) (by rfl) b1 0 58 [] [] z (by rfl) k14 ?_) | (refine wpList_storeAcc (by rfl) (.tmp 4) (.tmp 19) (by rfl) (by rfl) b2 0 58 [] [] (W 0) z (W_length _) (At.whole k24) (by rfl) (by rfl) ?_; intro w7 hk7 hc7))
    exact bodyPost_ret (results_rowB (by rfl) _ _ _ b2 0 (by rfl) (W z) _ hk7.rangeAt Takg.underlying58 (by rfl) (by rw [W_length]; exact info58)) rfl ⟨rfl, hc'.news hc7 (by simp; omega)⟩
  · have HZ2 : Hid (-(a * m) = z) := by
      unfold Hid
      rw [HZ.out, ← hsg.out, ← Int.mul_neg]
      rfl
    clear hsg HZ
    go_wp2_with fail
    refine (Neg_any b1 0 58 [] [] (a * m) _ k14).mono ?_
    rintro e w5 ⟨rfl, k15, hc5⟩
    rw [HZ2.out] at k15
    have k25 := hc5.blk k24 (by simpa using Ne.symm hne)
    have hc6 := hc'.news hc5 (by simp; omega)
    clear k14 k24 hc' hc5 HZ2
    go_wp2_with (first | (refine wpList_loadAcc (by rfl) (.tmp 2) (by rfl) b1 0 58 [] [] z (by rfl) k15 ?_) | (refine wpList_storeAcc (by rfl) (.tmp 4) (.tmp 19) (by rfl) (by rfl) b2 0 58 [] [] (W 0) z (W_length _) (At.whole k25) (by rfl) (by rfl) ?_; intro w7 hk7 hc7))
    exact bodyPost_ret (results_rowB (by rfl) _ _ _ b2 0 (by rfl) (W z) _ hk7.rangeAt Takg.underlying58 (by rfl) (by rw [W_length]; exact info58)) rfl ⟨rfl, hc6.news hc7 (by simp; omega)⟩
end Ac
end Go.Proofs.Ygctak
