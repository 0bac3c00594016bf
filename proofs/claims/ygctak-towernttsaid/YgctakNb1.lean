/-
  fft.Convolve is the convolution; mfft.MulFFT is the product.
-/
import Derived.Test.YgctakNa14
import Derived.Test.YgctakCx8
import Derived.Test.YgctakHo22
namespace Go.Proofs.Ygctak
open Go.RowKit
set_option linter.unusedVariables false
set_option linter.unusedSimpArgs false
attribute [local go_sem ↓] Go.wp_at_zero Go.wp_at_succ
namespace Nb
open Na
open Ft (sm dg zf sm_congr sm_mul sm_swap sm_zero)
open Cx (dl)
open Sh (Digs)

/-- The digits of x. -/
def dgs (x : Nat) : List Int := (List.range (dlen x)).map fun j => (dgt x j : Int)
theorem dgs_length (x : Nat) : (dgs x).length = dlen x := by simp [dgs]
theorem dgs_get (x j : Nat) : (dgs x).getD j 0 = (dgt x j : Nat) := by
  unfold dgs
  rcases Nat.lt_or_ge j (dlen x) with h | h
  · rw [List.getD_eq_getElem?_getD, List.getElem?_map, List.getElem?_range h]; rfl
  · rw [List.getD_eq_getElem?_getD, List.getElem?_eq_none (by simpa using h), dgt_above h]; rfl
theorem dgs_byte (x : Nat) : Byte (dgs x) := fun i _ => by
  rw [dgs_get]
  have := dgt_lt x i
  omega
theorem dgs_digs (x : Nat) : Digs 255 (dgs x) := fun i _ => by
  rw [dgs_get]
  have := dgt_lt x i
  omega
theorem dgs_dig {w : World} {b x : Nat} (h : Row8 w b 0 (dlen x) x) : Dig w b 0 (dgs x) := ⟨h.lt, fun i hi => by
  rw [dgs_length] at hi
  rw [dgs_get]
  exact h.cell i hi⟩

/-- A sum of digits. -/
theorem sm_pick (f : Nat → Int) (s : Nat) : ∀ n, sm (fun i => if s = i then f i else 0) n = if s < n then f s else 0
  | 0 => by simp [sm]
  | n + 1 => by
    show sm (fun i => if s = i then f i else 0) n + (if s = n then f n else 0) = _
    rw [sm_pick f s n]
    by_cases h : s = n
    · subst h
      rw [if_neg (by omega), if_pos rfl, if_pos (by omega)]; omega
    · rw [if_neg h]
      by_cases h2 : s < n
      · rw [if_pos h2, if_pos (by omega)]; omega
      · rw [if_neg h2, if_neg (by omega)]; omega
theorem cval_sm (f : Nat → Nat) : ∀ n, ((cval f n : Nat) : Int) = sm (fun i => (f i : Int) * 256 ^ i) n
  | 0 => rfl
  | n + 1 => by
    show ((cval f n + f n * 256 ^ n : Nat) : Int) = sm (fun i => (f i : Int) * 256 ^ i) n + (f n : Int) * 256 ^ n
    rw [← cval_sm f n, Int.natCast_add, Int.natCast_mul, Int.natCast_pow]
    rfl
theorem cval_self (x : Nat) : ∀ n, cval (dgt x) n = x % 256 ^ n
  | 0 => by rw [cval]; simp; omega
  | n + 1 => by
    rw [cval, cval_self x n, Nat.pow_succ, Nat.mod_mul]
    unfold dgt
    rw [Nat.mul_comm (256 ^ n)]
theorem cval_dlen (x : Nat) : cval (dgt x) (dlen x) = x := by rw [cval_self, Nat.mod_eq_of_lt (dlen_lt x)]

theorem conv_val (x y n : Nat) (hn : dlen x + dlen y ≤ n + 1) (f : Nat → Nat) (hf : ∀ i, i < n → (f i : Int) = dl (dgs x) (dgs y) (dgs x).length 0 i) : cval f n = x * y := by
  have h1 : ((cval f n : Nat) : Int) = ((x * y : Nat) : Int) := by
    rw [cval_sm]
    have e1 : sm (fun i => (f i : Int) * 256 ^ i) n = sm (fun i => sm (fun p => sm (fun q => if p + q = i then ((dgt x p : Int) * 256 ^ p) * ((dgt y q : Int) * 256 ^ q) else 0) (dlen y)) (dlen x)) n := sm_congr fun i hi => by
      rw [hf i hi]
      unfold dl
      simp only [sm, dgs_length, Int.add_zero]
      rw [Int.mul_comm, ← sm_mul]
      refine sm_congr fun p _ => ?_
      rw [← sm_mul]
      refine sm_congr fun q _ => ?_
      by_cases h : p + q = i
      · rw [if_pos h, if_pos h]
        unfold dg
        rw [dgs_get, dgs_get, ← h, Int.pow_add]
        grind
      · rw [if_neg h, if_neg h]; omega
    rw [e1, sm_swap]
    have e2 : sm (fun p => sm (fun i => sm (fun q => if p + q = i then ((dgt x p : Int) * 256 ^ p) * ((dgt y q : Int) * 256 ^ q) else 0) (dlen y)) n) (dlen x) = sm (fun p => ((dgt x p : Int) * 256 ^ p) * sm (fun q => (dgt y q : Int) * 256 ^ q) (dlen y)) (dlen x) := sm_congr fun p hp => by
      rw [sm_swap, ← sm_mul]
      refine sm_congr fun q hq => ?_
      rw [sm_pick (fun _ => ((dgt x p : Int) * 256 ^ p) * ((dgt y q : Int) * 256 ^ q)) (p + q) n, if_pos (by omega)]
    rw [e2]
    have e3 : sm (fun p => ((dgt x p : Int) * 256 ^ p) * sm (fun q => (dgt y q : Int) * 256 ^ q) (dlen y)) (dlen x) = sm (fun q => (dgt y q : Int) * 256 ^ q) (dlen y) * sm (fun p => (dgt x p : Int) * 256 ^ p) (dlen x) := by
      rw [← sm_mul]
      exact sm_congr fun p _ => Int.mul_comm _ _
    rw [e3, ← cval_sm (dgt x), ← cval_sm (dgt y), cval_dlen, cval_dlen, Int.natCast_mul]
    exact Int.mul_comm _ _
  omega

theorem pow10 {k : Nat} (h : k ≤ 10) : 2 ^ k ≤ 1024 := Nat.pow_le_pow_right (n := 2) (by omega) h

set_option maxRecDepth 10000 in
set_option maxHeartbeats 1000000 in
theorem fconv_any (b1 b2 c1 c2 : Nat) (xs ys : List Int) (w : World) (lx : 1 ≤ xs.length) (ly : 1 ≤ ys.length) (l1 : xs.length ≤ 512) (l2 : ys.length ≤ 512) (g1 : Dig w b1 0 xs) (g2 : Dig w b2 0 ys) (hx : Byte xs) (hy : Byte ys) (dx : Digs 255 xs) (dy : Digs 255 ys) :
    Calls Takg.prog 47 #[.slice (some ⟨b1, 0, none⟩) xs.length c1, .slice (some ⟨b2, 0, none⟩) ys.length c2] w fun e w' =>
      ∃ b, e = .returned (.tuple #[.slice (some ⟨b, 0, none⟩) (xs.length + ys.length - 1) (xs.length + ys.length - 1), .bool true]) ∧ Blk w' b 2 (Cx.I64 (dl xs ys xs.length 0) (xs.length + ys.length - 1)) ∧ Chg [] w w' := by
  obtain ⟨k, k1, k2, hfit, hmin⟩ := Cx.least_k (xs.length + ys.length) 9 (by omega)
  have HR := hide (Fr.Raw_any b1 0 c1 b2 0 c2 k xs ys w k1 k2 lx ly l1 l2 hfit hmin g1 g2 dx dy)
  have hround := Cx.run_round k1 k2 (Nat.le_refl 255) dx dy hx hy lx ly l1 l2 hfit
  have hN1 := pow10 k2
  have hN0 : 1 ≤ 2 ^ k := Nat.two_pow_pos k
  have hout : ∀ i, xs.length + ys.length - 1 ≤ i → (dl xs ys xs.length 0 i).toNat = 0 := fun i hi => by
    rw [Cx.dl_out xs ys i (by omega) ly]; rfl
  have hrow : Cx.I64 (fun i => ((dl xs ys xs.length 0 i).toNat : Int)) (xs.length + ys.length - 1) = Cx.I64 (dl xs ys xs.length 0) (xs.length + ys.length - 1) :=
    Cx.I64_congr fun i _ => by have := Cx.dl_nonneg hx hy xs.length i; omega
  have hzl : Fr.Zl (2 ^ k) (Fr.rawZ k xs ys) = Cx.zup (Sh.shRun k 255 xs ys) (2 ^ k) (2 ^ k) := by
    unfold Fr.Zl Cx.zup
    refine List.map_congr_left fun i hi => ?_
    rw [if_pos (List.mem_range.1 hi), Fr.rawZ_shRun k xs ys i (List.mem_range.1 hi)]
  have HRA : Hid (∀ b (W : World), Blk W b 103 (Fl.C (Fr.Zl (2 ^ k) (Fr.rawZ k xs ys))) → Calls Takg.prog 80 #[.slice (some ⟨b, 0, none⟩) (2 ^ k) (2 ^ k), .int .i64 (xs.length + ys.length - 1 : Nat)] W fun e w' =>
      ∃ b2, e = .returned (.tuple #[.slice (some ⟨b2, 0, none⟩) (xs.length + ys.length - 1) (xs.length + ys.length - 1), .bool true]) ∧ Blk w' b2 2 (Cx.I64 (dl xs ys xs.length 0) (xs.length + ys.length - 1)) ∧ Chg [] W w') := fun b W hb => by
    rw [hzl] at hb
    have := Cx.RoundAll_any b (xs.length + ys.length - 1) (Cx.zup (Sh.shRun k 255 xs ys) (2 ^ k) (2 ^ k)) (fun i => (dl xs ys xs.length 0 i).toNat) W (by rw [Cx.zup_length]; exact hN1) (by omega) (by rw [Cx.zup_length]; omega) hround hout hb
    rw [Cx.zup_length, hrow] at this
    exact this
  clear hround hout hrow hzl g1 g2 hx hy dx dy hfit hmin
  generalize xs.length = A at *
  generalize ys.length = B at *
  generalize 2 ^ k = N at *
  have hAB : ((A : Int) + (B : Int)) - 1 = ((A + B - 1 : Nat) : Int) := by omega
  have qa : ((A : Int) == 0) = false := by simp; omega
  have qb : ((B : Int) == 0) = false := by simp; omega
  go_enter Takg.func47, Takg.ntmps47
  go_wp2_with fail
  refine HR.out.mono ?_
  rintro e w1 ⟨bx, rfl, kx, cx⟩
  have HRB := hide (HRA.out bx w1 kx)
  have HCX := hide cx
  clear kx cx
  go_wp2_with fail
  refine HRB.out.mono ?_
  rintro e w2 ⟨b, rfl, kb, cb⟩
  have HB := hide (And.intro kb (HCX.out.trans cb))
  clear kb cb
  go_wp2_with fail
  refine bodyPost_ret (results2 rfl _ _ _) rfl ?_
  exact ⟨b, rfl, HB.out.1, HB.out.2⟩

set_option maxHeartbeats 1000000 in
theorem fconv_nil (a1 a2 : Option Addr) (A B c1 c2 : Nat) (w : World) (l1 : A ≤ 512) (l2 : B ≤ 512) (h : A = 0 ∨ B = 0) :
    Calls Takg.prog 47 #[.slice a1 A c1, .slice a2 B c2] w fun e w' => e = .returned (.tuple #[.slice none 0 0, .bool true]) ∧ w' = w := by
  by_cases h0 : A = 0
  · subst h0
    clear h
    go_enter Takg.func47, Takg.ntmps47
    go_wp2_with fail
    refine bodyPost_ret (results2 rfl _ _ _) rfl ?_
    exact ⟨rfl, rfl⟩
  · have hb : B = 0 := by omega
    subst hb
    have qa : ((A : Int) == 0) = false := by simp; omega
    clear h
    go_enter Takg.func47, Takg.ntmps47
    go_wp2_with fail
    refine bodyPost_ret (results2 rfl _ _ _) rfl ?_
    exact ⟨rfl, rfl⟩

theorem row64_of {w : World} {b n : Nat} {f : Nat → Int} {g : Nat → Nat} (h : Blk w b 2 (Cx.I64 f n)) (hg : ∀ i, i < n → (g i : Int) = f i) : Row64 w b n g := ⟨h.lt, fun j hj => by
  rw [hg j hj]
  exact h.cell j _ (by unfold Cx.I64; rw [List.getElem?_map, List.getElem?_range hj]; rfl)⟩

/-- What Convolve must leave for Carry to make the product. -/
def Cnv (fn : Nat) : Prop := ∀ (a1 a2 : Option Addr) (x y : Nat) (w : World), dlen x ≤ 512 → dlen y ≤ 512 → Ent w a1 x → Ent w a2 y →
  Calls Takg.prog fn #[.slice a1 (dlen x) (dlen x), .slice a2 (dlen y) (dlen y)] w fun e w' => ∃ a n f, e = .returned (.tuple #[.slice a n n, .bool true]) ∧ n ≤ 5000 ∧ (∀ j, f j ≤ 2 ^ 40) ∧ (∀ j, n ≤ j → f j = 0) ∧ Op64 w' a n f ∧ cval f n = x * y ∧ Chg [] w w'

theorem conv47 : Cnv 47 := fun a1 a2 x y w l1 l2 h1 h2 => by
  by_cases h0 : x = 0 ∨ y = 0
  · refine (fconv_nil a1 a2 _ _ _ _ w l1 l2 (by rcases h0 with h | h <;> subst h <;> simp [dlen_zero])).mono ?_
    rintro e w' ⟨rfl, rfl⟩
    refine ⟨none, 0, fun _ => 0, rfl, by omega, fun _ => Nat.zero_le _, fun _ _ => rfl, .inl rfl, ?_, Chg.refl _ _⟩
    rcases h0 with h | h <;> subst h <;> simp [cval]
  · obtain ⟨b1, rfl, r1⟩ := h1.som (by omega)
    obtain ⟨b2, rfl, r2⟩ := h2.som (by omega)
    have p1 := dlen_pos (v := x) (by omega)
    have p2 := dlen_pos (v := y) (by omega)
    have := fconv_any b1 b2 (dlen x) (dlen y) (dgs x) (dgs y) w (by rw [dgs_length]; omega) (by rw [dgs_length]; omega) (by rw [dgs_length]; omega) (by rw [dgs_length]; omega) (dgs_dig r1) (dgs_dig r2) (dgs_byte x) (dgs_byte y) (dgs_digs x) (dgs_digs y)
    rw [dgs_length, dgs_length] at this
    refine this.mono ?_
    rintro e w' ⟨b, rfl, kb, cb⟩
    obtain ⟨k, k1, k2, hfit, hmin⟩ := Cx.least_k ((dgs x).length + (dgs y).length) 9 (by rw [dgs_length, dgs_length]; omega)
    have hnn : ∀ i, 0 ≤ dl (dgs x) (dgs y) (dlen x) 0 i := fun i => Cx.dl_nonneg (dgs_byte x) (dgs_byte y) _ i
    have hout : ∀ i, dlen x + dlen y - 1 ≤ i → dl (dgs x) (dgs y) (dlen x) 0 i = 0 := fun i hi => by
      have := Cx.dl_out (dgs x) (dgs y) i (by rw [dgs_length, dgs_length]; omega) (by rw [dgs_length]; omega)
      rwa [dgs_length] at this
    have hbd : ∀ i, dl (dgs x) (dgs y) (dlen x) 0 i ≤ 2 ^ 40 := fun i => by
      rcases Nat.lt_or_ge i (2 ^ k) with hi | hi
      · have hb := Ft.cv_bd (Nat.le_refl 255) (dgs_digs x) (dgs_digs y) (by rw [dgs_length]; omega) (by rw [dgs_length]; omega) k i
        rw [Cx.cv_dl (dgs x) (dgs y) k i hfit (by rw [dgs_length]; omega) (by rw [dgs_length]; omega) hi, dgs_length] at hb
        have := hnn i
        omega
      · rw [hout i (by rw [dgs_length, dgs_length] at hfit; omega)]; decide
    refine ⟨some ⟨b, 0, none⟩, dlen x + dlen y - 1, fun i => (dl (dgs x) (dgs y) (dlen x) 0 i).toNat, rfl, by omega, fun j => ?_, fun j hj => ?_, .inr ⟨b, rfl, row64_of kb (fun i _ => ?_)⟩, ?_, cb⟩
    · show (dl (dgs x) (dgs y) (dlen x) 0 j).toNat ≤ 2 ^ 40
      have := hbd j; omega
    · show (dl (dgs x) (dgs y) (dlen x) 0 j).toNat = 0
      rw [hout j hj]; rfl
    · have := hnn i; omega
    · refine conv_val x y _ (by omega) _ (fun i _ => ?_)
      rw [dgs_length]
      have := hnn i; omega

set_option maxHeartbeats 1000000 in
theorem mul49 (a1 a2 : Option Addr) (x y : Nat) (w : World) (l1 : dlen x ≤ 512) (l2 : dlen y ≤ 512) (h1 : Ent w a1 x) (h2 : Ent w a2 y) :
    Calls Takg.prog 49 #[.slice a1 (dlen x) (dlen x), .slice a2 (dlen y) (dlen y)] w fun e w' => ∃ a', e = .returned (.tuple #[.slice a' (dlen (x * y)) (dlen (x * y)), .bool true]) ∧ New w w' a' (x * y) ∧ Chg [] w w' := by
  have HC := hide (conv47 a1 a2 x y w l1 l2 h1 h2)
  clear h1 h2 l1 l2
  generalize dlen x = A at *
  generalize dlen y = B at *
  go_enter Takg.func49, Takg.ntmps49
  go_wp2_with fail
  refine HC.out.mono ?_
  rintro e w1 ⟨a, n, f, rfl, hn, hf, hz, hop, hv, cw⟩
  have HK := hide (Carry_any a n f w1 hn hf hz hop)
  rw [hv] at HK
  have HCW := hide cw
  clear hn hf hz hop hv cw
  obtain ⟨D, hD⟩ : ∃ D, D = dlen (x * y) := ⟨_, rfl⟩
  rw [← hD] at HK
  have HDD := hide hD
  clear hD
  go_wp2_with fail
  refine HK.out.mono ?_
  rintro e w2 ⟨a', rfl, hnew, c2⟩
  have HN := hide (And.intro hnew c2)
  clear hnew c2
  go_wp2_with fail
  refine bodyPost_ret (results2 rfl _ _ _) rfl ?_
  rw [← HDD.out]
  exact ⟨a', rfl, ⟨HN.out.1.ent, fun b hb => Nat.le_trans HCW.out.size (HN.out.1.new b hb)⟩, HCW.out.trans HN.out.2⟩

set_option maxHeartbeats 1000000 in
theorem prod2 : Prod 2 := fun a1 a2 x y w l1 l2 h1 h2 => by
  have HM := hide (mul49 a1 a2 x y w l1 l2 h1 h2)
  clear h1 h2
  go_enter Takg.func148, Takg.ntmps148
  go_wp2_with fail
  refine HM.out.mono ?_
  rintro e w1 ⟨a', rfl, hn, hc⟩
  go_wp2_with fail
  refine bodyPost_ret (results2 rfl _ _ _) rfl ?_
  exact ⟨a', rfl, hn, hc⟩
end Nb
end Go.Proofs.Ygctak
