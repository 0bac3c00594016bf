/-
  Walk: fft.Reverse.
-/
import Derived.Test.YgctakHo17
namespace Go.Proofs.Ygctak
open Go.RowKit
set_option linter.unusedVariables false
set_option linter.unusedSimpArgs false
attribute [local go_sem ↓] Go.wp_at_zero Go.wp_at_succ
attribute [local go_sem] Fl.run_store_complex Fl.run_store_float
namespace Fr
open Ac Fl Sh Ex
open Ft (rev rev_lt rev_rev)
open Ntt (revIn revNext revIn_stop revIn_lt)

theorem or_add (k r : Nat) (h : r < 2 ^ k) : r ||| 2 ^ k = r + 2 ^ k := by
  have := Nat.shiftLeft_add_eq_or_of_lt (b := r) (i := k) h 1
  rw [Nat.shiftLeft_eq, Nat.one_mul] at this
  rw [Nat.or_comm, ← this, Nat.add_comm]
theorem xor_top (k r : Nat) (h : r < 2 ^ k) : (r + 2 ^ k) ^^^ 2 ^ k = r := by
  rw [← or_add k r h]
  apply Nat.eq_of_testBit_eq
  intro i
  rw [Nat.testBit_xor, Nat.testBit_or, Nat.testBit_two_pow]
  by_cases e : k = i
  · subst e
    have := Nat.testBit_lt_two_pow h
    simp [this]
  · simp [e]

theorem revIn_next : ∀ (k f i : Nat), i + 1 < 2 ^ k → k ≤ f → (revIn f (rev k i) (2 ^ k / 2)).1 ||| (revIn f (rev k i) (2 ^ k / 2)).2 = rev k (i + 1)
  | 0, f, i, h, _ => by simp at h
  | k + 1, f, i, h, hf => by
    have e2 : 2 ^ (k + 1) / 2 = 2 ^ k := by rw [Nat.pow_succ]; omega
    have hp : 0 < 2 ^ k := Nat.two_pow_pos k
    have hr := rev_lt k (i / 2)
    rw [e2]
    rcases Nat.mod_two_eq_zero_or_one i with h2 | h2
    · have e3 : rev (k + 1) i = rev k (i / 2) := by rw [rev, h2]; simp
      have e4 : rev (k + 1) (i + 1) = rev k (i / 2) + 2 ^ k := by
        rw [rev, show (i + 1) % 2 = 1 by omega, show (i + 1) / 2 = i / 2 by omega]; omega
      rw [e3, e4, revIn_stop]
      · exact or_add k _ hr
      · rintro ⟨_, hne⟩
        apply hne
        rw [and_half, Nat.mod_eq_of_lt (by omega)]
        exact hr
    · have e3 : rev (k + 1) i = rev k (i / 2) + 2 ^ k := by rw [rev, h2]; omega
      have e4 : rev (k + 1) (i + 1) = rev k (i / 2 + 1) := by
        rw [rev, show (i + 1) % 2 = 0 by omega, show (i + 1) / 2 = i / 2 + 1 by omega]; simp
      obtain ⟨g, rfl⟩ : ∃ g, f = g + 1 := ⟨f - 1, by omega⟩
      have hne : (rev k (i / 2) + 2 ^ k) &&& 2 ^ k ≠ 0 := by
        intro h0
        rw [and_half] at h0
        rw [Nat.mod_eq_of_lt (by omega)] at h0
        omega
      rw [e3, e4, revIn, if_pos ⟨hp, hne⟩, xor_top k _ hr]
      exact revIn_next k g (i / 2) (by rw [Nat.pow_succ] at h; omega) (by omega)
theorem revNext_rev (k i : Nat) (hk : k ≤ 64) (h : i + 1 < 2 ^ k) : revNext (2 ^ k) (rev k i) = rev k (i + 1) := revIn_next k 64 i h hk

/-- Reversed up to i. -/
def vU (k i : Nat) (f : Nat → Nat × Nat) (m : Nat) : Nat × Nat := if m < i ∨ rev k m < i then f (rev k m) else f m
theorem vU_swap (k i : Nat) (f : Nat → Nat × Nat) (hi : i < 2 ^ k) (hlt : i < rev k i) (m : Nat) (hm : m < 2 ^ k) :
    (if m = rev k i then vU k i f i else if m = i then vU k i f (rev k i) else vU k i f m) = vU k (i + 1) f m := by
  have hr := rev_lt k i
  have hrr : rev k (rev k i) = i := rev_rev k i hi
  have hrm : rev k (rev k m) = m := rev_rev k m hm
  unfold vU
  by_cases h1 : m = rev k i
  · subst h1
    rw [if_pos rfl, hrr, if_neg (by omega), if_pos (by omega)]
  · rw [if_neg h1]
    by_cases h2 : m = i
    · subst h2
      rw [if_pos rfl, hrr, if_neg (by omega), if_pos (by omega)]
    · rw [if_neg h2]
      have h3 : rev k m ≠ i := fun e => h1 (by rw [← e, hrm])
      by_cases h4 : m < i ∨ rev k m < i
      · rw [if_pos h4, if_pos (by omega)]
      · rw [if_neg h4, if_neg (by omega)]
theorem vU_skip (k i : Nat) (f : Nat → Nat × Nat) (hi : i < 2 ^ k) (hlt : ¬ i < rev k i) (m : Nat) (hm : m < 2 ^ k) : vU k i f m = vU k (i + 1) f m := by
  have hrm : rev k (rev k m) = m := rev_rev k m hm
  unfold vU
  by_cases h2 : m = i
  · subst h2
    by_cases h4 : rev k m = m
    · rw [if_neg (by omega), if_pos (by omega), h4]
    · rw [if_pos (by omega), if_pos (by omega)]
  · by_cases h3 : rev k m = i
    · have e : m = rev k i := by rw [← h3, hrm]
      rw [if_pos (by omega), if_pos (by omega)]
    · by_cases h4 : m < i ∨ rev k m < i
      · rw [if_pos h4, if_pos (by omega)]
      · rw [if_neg h4, if_neg (by omega)]

set_option maxHeartbeats 1000000 in
theorem Reverse_any (b k : Nat) (f : Nat → Nat × Nat) (w : World) (hk : k ≤ 10) (hb : Blk w b 103 (C (Zl (2 ^ k) f))) :
    Calls Takg.prog 141 #[.slice (some ⟨b, 0, none⟩) (2 ^ k) (2 ^ k)] w fun e w' => e = .returned (.tuple #[]) ∧ Blk w' b 103 (C (Zl (2 ^ k) fun m => f (rev k m))) ∧ Chg [b] w w' := by
  have HL := hide (fun W => level_any k W (by omega))
  have hn2 : 2 ^ k ≤ 1024 := Nat.le_trans (Nat.pow_le_pow_right (n := 2) (by omega) hk) (by decide)
  obtain ⟨n, en⟩ : ∃ n, n = 2 ^ k := ⟨_, rfl⟩
  have HEND : Hid (Zl n (vU k n f) = Zl n fun m => f (rev k m)) := Zl_congr fun m hm => by unfold vU; rw [if_pos (by omega)]
  have H0 : Hid (Zl n (vU k 0 f) = Zl n f) := Zl_congr fun m hm => by unfold vU; rw [if_neg (by omega)]
  rw [← en] at hn2 HL hb ⊢
  have HN := hide en
  clear en
  rw [← HEND.out]
  go_enter Takg.func141, Takg.ntmps141
  go_wp2_with fail
  refine (HL.out _).mono ?_
  rintro e w' ⟨rfl, rfl⟩
  rw [← H0.out] at hb
  clear H0 HEND
  go_wp2_with fail
  go_loopw [3, 4] (fun j i wr => ∃ (jj m : Nat), j = .int .i64 jj ∧ i = .int .i64 m ∧ m ≤ n ∧ jj < n ∧ Hid (m < n → jj = rev k m) ∧
     Blk wr b 103 (C (Zl n (vU k m f))) ∧ Chg [b] w' wr) (fun _ i _ => n - (intOf i).toNat)
  case atStart => exact ⟨0, 0, rfl, rfl, Nat.zero_le _, by have := HN.out; have := Nat.two_pow_pos k; omega, fun _ => (by
      have : ∀ k, rev k 0 = 0 := fun k => by
        induction k with
        | zero => rfl
        | succ k ih => rw [rev]; simpa using ih
      rw [this]), hb, Chg.refl _ _⟩
  case round =>
    clear hb
    obtain ⟨jj, m, rfl, rfl, hm, hjn, hj, hbr, hch⟩ := hrel
    by_cases hlt : m < n
    · have HJR := hide (hj.out hlt)
      clear hj
      go_upto_if 18 with fail
      go_cut [] (fun wc => Blk wc b 103 (C (Zl n (vU k (m + 1) f))) ∧ Chg [b] w' wc)
      case first =>
        by_cases hij : m < jj
        · have c1 := Zl_cell hbr m hlt
          have c2 := Zl_cell hbr jj hjn
          have V1 := Zl_setB (Zl_setB hbr m (vU k m f jj)) jj (vU k m f m)
          have e1 : Zl n (fun i => if i = jj then vU k m f m else if i = m then vU k m f jj else vU k m f i) = Zl n (vU k (m + 1) f) := Zl_congr fun i hi => by
            rw [HJR.out]
            exact vU_swap k m f (by rw [← HN.out]; exact hlt) (by rw [← HJR.out]; exact hij) i (by rw [← HN.out]; exact hi)
          rw [e1] at V1
          obtain ⟨⟨p1, p2⟩, hp⟩ : ∃ z, z = vU k m f m := ⟨_, rfl⟩
          obtain ⟨⟨q1, q2⟩, hq⟩ : ∃ z, z = vU k m f jj := ⟨_, rfl⟩
          rw [← hp] at c1 V1
          rw [← hq] at c2 V1
          dsimp only at c1 c2 V1
          have hf1 := hbr.frozen m none
          have hf2 := hbr.frozen jj none
          have V2 := (hch.setCell ⟨b, m, none⟩ (by simp) (.complex .f64 q1 q2)).setCell ⟨b, jj, none⟩ (by simp) (.complex .f64 p1 p2)
          clear e1 hp hq hbr hch
          go_wp2_with fail
          go_region
          go_wp2_with fail
          go_meet
          exact ⟨V1.drew, V2.drew⟩
        · have e1 : Zl n (vU k m f) = Zl n (vU k (m + 1) f) := Zl_congr fun i hi => vU_skip k m f (by rw [← HN.out]; exact hlt) (by rw [← HJR.out]; exact hij) i (by rw [← HN.out]; exact hi)
          rw [e1] at hbr
          clear e1
          go_wp2_with fail
          go_meet
          exact ⟨hbr, hch⟩
      case rest =>
        clear hbr hch
        obtain ⟨hbz, hcz⟩ := hcut
        have hjk : Hid (jj < 2 ^ k) := by rw [← HN.out]; exact hjn
        go_wp2_with fail
        go_loop [3, 5] (fun x y => ∃ (f j c : Nat), x = .int .i64 j ∧ y = .int .i64 c ∧ j < 4096 ∧ c < 4096 ∧ Hid (c < 2 ^ f) ∧ Hid (revIn f j c = revIn 64 jj (n / 2)) ∧ Hid (j < 2 ^ k) ∧ Hid (c < 2 ^ k)) (fun _ y => (intOf y).toNat)
        case atStart =>
          have hnk : n / 2 < 2 ^ k := by rw [HN.out]; exact Nat.div_lt_self (Nat.two_pow_pos k) (by omega)
          exact ⟨64, jj, n / 2, rfl, by go_num, by omega, by omega, (by unfold Hid; have := Nat.pow_lt_pow_right (a := 2) (m := 11) (n := 64) (by omega) (by omega); omega), rfl, hjk, hnk⟩
        case round =>
          obtain ⟨f', j, c, rfl, rfl, hj4, hc4, hcf, HI, hjk, hck⟩ := hrel
          by_cases hgo : 0 < c ∧ j &&& c ≠ 0
          · obtain ⟨hc0, hjc⟩ := hgo
            obtain ⟨g, rfl⟩ : ∃ g, f' = g + 1 := ⟨f' - 1, by
              rcases Nat.eq_zero_or_pos f' with h | h
              · subst h; have := hcf.out; omega
              · omega⟩
            have h1 : (bits BinOp.and IntKind.i64 (j : Int) (c : Int) != 0) = true := by
              rw [i64_and j c (by omega) (by omega)]; simp; omega
            have h2 : bits BinOp.xor IntKind.i64 (j : Int) (c : Int) = ((j ^^^ c : Nat) : Int) := i64_xor j c (by omega) (by omega)
            have HI2 : Hid (revIn g (j ^^^ c) (c / 2) = revIn 64 jj (n / 2)) := by
              rw [← HI.out]; unfold Hid; rw [revIn, if_pos ⟨hc0, hjc⟩]
            have hx := Nat.xor_lt_two_pow (n := 12) (x := j) (y := c) (by omega) (by omega)
            have hxk : Hid (j ^^^ c < 2 ^ k) := Nat.xor_lt_two_pow hjk.out hck.out
            have hcg : Hid (c / 2 < 2 ^ g) := by have := hcf.out; unfold Hid; rw [Nat.pow_succ] at this; omega
            have hck2 : Hid (c / 2 < 2 ^ k) := Nat.lt_of_le_of_lt (Nat.div_le_self _ _) hck.out
            clear hjc HI hcf
            go_wp2_with fail
            go_round
            case rel => exact ⟨g, j ^^^ c, c / 2, rfl, by go_num, by omega, by omega, hcg, HI2, hxk, hck2⟩
            case measure => simp [intOf]; omega
          · have HI2 : Hid ((j, c) = revIn 64 jj (n / 2)) := by
              rw [← HI.out, revIn_stop _ _ _ hgo]; rfl
            have hor : bits BinOp.or IntKind.i64 (j : Int) (c : Int) = ((j ||| c : Nat) : Int) := i64_or j c (by omega) (by omega)
            have hnext : revNext n jj = j ||| c := by unfold revNext; rw [← HI2.out]
            have hjk2 : j ||| c < n := by rw [HN.out]; exact Nat.or_lt_two_pow hjk.out hck.out
            have hjm : Hid (m + 1 < n → j ||| c = rev k (m + 1)) := fun h => by
              rw [← hnext, HJR.out, HN.out]
              exact revNext_rev k m (by omega) (by rw [← HN.out]; exact h)
            clear hnext
            by_cases hc0 : 0 < c
            · have h1 : (bits BinOp.and IntKind.i64 (j : Int) (c : Int) != 0) = false := by
                rw [i64_and j c (by omega) (by omega)]; simp; omega
              clear hgo
              go_wp2_with fail
              go_roundw
              case rel => exact ⟨j ||| c, m + 1, rfl, by go_num, by omega, hjk2, hjm, hbz, hcz⟩
              case measure => simp [intOf]; omega
            · clear hgo
              go_wp2_with fail
              go_roundw
              case rel => exact ⟨j ||| c, m + 1, rfl, by go_num, by omega, hjk2, hjm, hbz, hcz⟩
              case measure => simp [intOf]; omega
    · have hmn : m = n := by omega
      subst hmn
      clear hj
      go_wp2_with fail
      go_end0
      exact ⟨rfl, hbr, hch⟩
end Fr
end Go.Proofs.Ygctak
