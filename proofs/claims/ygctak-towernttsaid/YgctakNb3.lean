/-
  ntt.Convolve is the convolution; mntt.MulNTT is the product.
-/
import Derived.Test.YgctakNb1
import Derived.Test.YgctakNc3
namespace Go.Proofs.Ygctak
open Go.RowKit
set_option linter.unusedVariables false
set_option linter.unusedSimpArgs false
attribute [local go_sem ↓] Go.wp_at_zero Go.wp_at_succ
namespace Nb
open Na
open Ft (sm dg zf sm_congr sm_mul sm_swap sm_zero cv)
open Cx (dl)
open Sh (Digs)

theorem sm_one (p i : Nat) (f : Nat → Int) (M : Int) (hM : 0 ≤ M) (hf : ∀ q, 0 ≤ f q ∧ f q ≤ M) : ∀ n, 0 ≤ sm (fun q => if p + q = i then f q else 0) n ∧ sm (fun q => if p + q = i then f q else 0) n ≤ (if p + n ≤ i then 0 else M)
  | 0 => by
    simp only [sm]
    split <;> omega
  | n + 1 => by
    have ih := sm_one p i f M hM hf n
    have h := hf n
    show 0 ≤ sm (fun q => if p + q = i then f q else 0) n + (if p + n = i then f n else 0) ∧ sm (fun q => if p + q = i then f q else 0) n + (if p + n = i then f n else 0) ≤ _
    by_cases h1 : p + n = i
    · rw [if_pos h1]
      rw [if_pos (by omega)] at ih
      rw [if_neg (by omega)]
      omega
    · rw [if_neg h1]
      by_cases h2 : p + n ≤ i
      · rw [if_pos h2] at ih
        rw [if_pos (by omega)]
        omega
      · rw [if_neg h2] at ih
        rw [if_neg (by omega)]
        omega
theorem sm_up (f : Nat → Int) (M : Int) (h : ∀ m, f m ≤ M) : ∀ n : Nat, sm f n ≤ (n : Int) * M
  | 0 => by simp [sm]
  | n + 1 => by
    show sm f n + f n ≤ _
    have h1 := sm_up f M h n
    have h2 := h n
    have : ((n + 1 : Nat) : Int) * M = (n : Int) * M + M := by rw [Int.natCast_add]; grind
    omega
theorem dl_bound (x y i : Nat) (hx : dlen x ≤ 512) : dl (dgs x) (dgs y) (dgs x).length 0 i < 998244353 := by
  unfold dl
  simp only [sm, Int.add_zero]
  have hd : ∀ z j, 0 ≤ dg (dgs z) j ∧ dg (dgs z) j ≤ 255 := fun z j => by
    unfold dg
    rw [dgs_get]
    have := dgt_lt z j
    omega
  have h := sm_up (fun p => sm (fun q => if p + q = i then dg (dgs x) p * dg (dgs y) q else 0) (dgs y).length) 65025 (fun p => by
    have := (sm_one p i (fun q => dg (dgs x) p * dg (dgs y) q) 65025 (by decide) (fun q => ?_) (dgs y).length).2
    · refine Int.le_trans this ?_
      split <;> decide
    · obtain ⟨a0, a1⟩ := hd x p
      obtain ⟨b0, b1⟩ := hd y q
      exact ⟨Int.mul_nonneg a0 b0, Int.le_trans (Int.mul_le_mul a1 b1 b0 (by decide)) (by decide)⟩) (dgs x).length
  rw [dgs_length x] at h ⊢
  have h2 : ((dlen x : Nat) : Int) * 65025 ≤ 512 * 65025 := Int.mul_le_mul_of_nonneg_right (by omega) (by decide)
  omega

set_option maxHeartbeats 1000000 in
theorem nconv_nil (a1 a2 : Option Addr) (A B c1 c2 : Nat) (w : World) (l1 : A ≤ 512) (l2 : B ≤ 512) (h : A = 0 ∨ B = 0) :
    Calls Takg.prog 16 #[.slice a1 A c1, .slice a2 B c2] w fun e w' => e = .returned (.tuple #[.slice none 0 0, .bool true]) ∧ w' = w := by
  by_cases h0 : A = 0
  · subst h0
    clear h
    go_enter Takg.func16, Takg.ntmps16
    go_wp2_with fail
    refine bodyPost_ret (results2 rfl _ _ _) rfl ?_
    exact ⟨rfl, rfl⟩
  · have hb : B = 0 := by omega
    subst hb
    have qa : ((A : Int) == 0) = false := by simp; omega
    clear h
    go_enter Takg.func16, Takg.ntmps16
    go_wp2_with fail
    refine bodyPost_ret (results2 rfl _ _ _) rfl ?_
    exact ⟨rfl, rfl⟩

theorem conv16 : Cnv 16 := fun a1 a2 x y w l1 l2 h1 h2 => by
  by_cases h0 : x = 0 ∨ y = 0
  · refine (nconv_nil a1 a2 _ _ _ _ w l1 l2 (by rcases h0 with h | h <;> subst h <;> simp [dlen_zero])).mono ?_
    rintro e w' ⟨rfl, rfl⟩
    refine ⟨none, 0, fun _ => 0, rfl, by omega, fun _ => Nat.zero_le _, fun _ _ => rfl, .inl rfl, ?_, Chg.refl _ _⟩
    rcases h0 with h | h <;> subst h <;> simp [cval]
  · obtain ⟨b1, rfl, r1⟩ := h1.som (by omega)
    obtain ⟨b2, rfl, r2⟩ := h2.som (by omega)
    have p1 := dlen_pos (v := x) (by omega)
    have p2 := dlen_pos (v := y) (by omega)
    have hA := dgs_length x
    have hB := dgs_length y
    have := Ntt.Convolve_any b1 0 (dlen x) b2 0 (dlen y) (dgs x) (dgs y) w (dgs_dig r1) (dgs_dig r2) (dgs_byte x) (dgs_byte y) (by omega) (by omega) (by omega) (by omega)
    obtain ⟨k1, k2, hfit⟩ := Ntt.lev_spec ((dgs x).length + (dgs y).length - 1) (by omega) 9 1 rfl
    obtain ⟨k, hk⟩ : ∃ k, k = Ntt.levOf ((dgs x).length + (dgs y).length - 1) := ⟨_, rfl⟩
    have hk' : Ntt.lev 9 1 ((dgs x).length + (dgs y).length - 1) = k := hk.symm
    rw [hk'] at k1 k2 hfit
    rw [← hk] at this
    have hlen := (Ntt.convFull_keep (dgs x) (dgs y) k (by omega) (by omega) (dgs_byte x) (dgs_byte y)).1
    have hval : ∀ i, i < 2 ^ k → (Ntt.convFull (dgs x) (dgs y) k).getD i 0 = dl (dgs x) (dgs y) (dgs x).length 0 i := fun i hi => by
      obtain ⟨c0, c1, c2⟩ := Nc.conv_get k1 k2 (dgs x) (dgs y) (dgs_byte x) (dgs_byte y) (by omega) (by omega) i hi
      rw [Cx.cv_dl (dgs x) (dgs y) k i (by omega) (by omega) (by omega) hi] at c2
      exact c2.eq c0 c1 (Cx.dl_nonneg (dgs_byte x) (dgs_byte y) _ i) (dl_bound x y i l1)
    have hnn : ∀ i, 0 ≤ dl (dgs x) (dgs y) (dgs x).length 0 i := fun i => Cx.dl_nonneg (dgs_byte x) (dgs_byte y) _ i
    have hout : ∀ i, dlen x + dlen y - 1 ≤ i → dl (dgs x) (dgs y) (dgs x).length 0 i = 0 := fun i hi => Cx.dl_out (dgs x) (dgs y) i (by omega) (by omega)
    rw [hA, hB] at this
    refine this.mono ?_
    rintro e w' ⟨b, rfl, kb, gb, cb⟩
    refine ⟨some ⟨b, 0, none⟩, dlen x + dlen y - 1, fun i => (dl (dgs x) (dgs y) (dgs x).length 0 i).toNat, rfl, by omega, fun j => ?_, fun j hj => ?_, .inr ⟨b, rfl, kb.lt, fun j hj => ?_⟩, ?_, cb⟩
    · show (dl (dgs x) (dgs y) (dgs x).length 0 j).toNat ≤ 2 ^ 40
      have := dl_bound x y j l1
      omega
    · show (dl (dgs x) (dgs y) (dgs x).length 0 j).toNat = 0
      rw [hout j hj]; rfl
    · have hj2 : j < 2 ^ k := by omega
      refine kb.cell j _ ?_
      rw [Ntt.I64_get _ _ (by rw [List.length_take, hlen]; omega)]
      rw [List.getD_eq_getElem?_getD, List.getElem?_take, if_pos hj, ← List.getD_eq_getElem?_getD, hval j hj2]
      show some (Value.int .i64 _) = some (Value.int .i64 (((dl (dgs x) (dgs y) (dgs x).length 0 j).toNat : Nat) : Int))
      rw [Int.toNat_of_nonneg (hnn j)]
    · refine conv_val x y _ (by omega) _ (fun i _ => ?_)
      exact Int.toNat_of_nonneg (hnn i)

set_option maxHeartbeats 1000000 in
theorem mul145 (a1 a2 : Option Addr) (x y : Nat) (w : World) (l1 : dlen x ≤ 512) (l2 : dlen y ≤ 512) (h1 : Ent w a1 x) (h2 : Ent w a2 y) :
    Calls Takg.prog 145 #[.slice a1 (dlen x) (dlen x), .slice a2 (dlen y) (dlen y)] w fun e w' => ∃ a', e = .returned (.tuple #[.slice a' (dlen (x * y)) (dlen (x * y)), .bool true]) ∧ New w w' a' (x * y) ∧ Chg [] w w' := by
  have HC := hide (conv16 a1 a2 x y w l1 l2 h1 h2)
  clear h1 h2 l1 l2
  generalize dlen x = A at *
  generalize dlen y = B at *
  go_enter Takg.func145, Takg.ntmps145
  go_wp2_with fail
  refine HC.out.mono ?_
  rintro e w1 ⟨a, n, f, rfl, hn, hf, hz, hop, hv, cw⟩
  have HK := hide (Carry_any a n f w1 hn hf hz hop)
  rw [hv] at HK
  have HCW := hide cw
  clear hn hf hz hop hv cw
  obtain ⟨D, hD⟩ : ∃ D, D = dlen (x * y) := ⟨_, rfl⟩
  rw [← hD] at HK
  have HDD := hide hD
  clear hD
  go_wp2_with fail
  refine HK.out.mono ?_
  rintro e w2 ⟨a', rfl, hnew, c2⟩
  have HN := hide (And.intro hnew c2)
  clear hnew c2
  go_wp2_with fail
  refine bodyPost_ret (results2 rfl _ _ _) rfl ?_
  rw [← HDD.out]
  exact ⟨a', rfl, ⟨HN.out.1.ent, fun b hb => Nat.le_trans HCW.out.size (HN.out.1.new b hb)⟩, HCW.out.trans HN.out.2⟩

set_option maxHeartbeats 1000000 in
theorem prod3 : Prod 3 := fun a1 a2 x y w l1 l2 h1 h2 => by
  have HM := hide (mul145 a1 a2 x y w l1 l2 h1 h2)
  clear h1 h2
  go_enter Takg.func148, Takg.ntmps148
  go_wp2_with fail
  refine HM.out.mono ?_
  rintro e w1 ⟨a', rfl, hn, hc⟩
  go_wp2_with fail
  refine bodyPost_ret (results2 rfl _ _ _) rfl ?_
  exact ⟨a', rfl, hn, hc⟩
end Nb
end Go.Proofs.Ygctak
