/-
  Walks: block.
-/
import Derived.Test.YgctakNtt3
namespace Go.Proofs.Ygctak
open Go.RowKit
set_option linter.unusedVariables false
set_option linter.unusedSimpArgs false
attribute [local go_sem ↓] Go.wp_at_zero Go.wp_at_succ
namespace Ntt

theorem Word.set {xs : List Int} (h : Word xs) (i : Nat) (v : Int) (h0 : 0 ≤ v) (h1 : v ≤ 4294967295) : Word (xs.set i v) := by
  intro j hj
  simp only [List.getD_eq_getElem?_getD]
  rcases Nat.lt_or_ge i xs.length with hl | hl
  · by_cases e : i = j
    · subst e; rw [List.getElem?_set_self hl]; exact ⟨h0, h1⟩
    · rw [List.getElem?_set_ne e]
      have := h j (by simpa using hj)
      simpa only [List.getD_eq_getElem?_getD] using this
  · rw [List.set_eq_of_length_le hl]
    have := h j (by simpa using hj)
    simpa only [List.getD_eq_getElem?_getD] using this

theorem blkOne_length (R : List Int) (s half j : Nat) (xs : List Int) : (blkOne R s half j xs).length = xs.length := by simp [blkOne]
theorem blkOne_word (R : List Int) (s half j : Nat) (xs : List Int) (h : Word xs) : Word (blkOne R s half j xs) := by
  unfold blkOne
  exact (h.set _ _ (by omega) (by omega)).set _ _ (by omega) (by omega)
theorem blkGo_length (R : List Int) (s half : Nat) : ∀ (f j : Nat) (xs : List Int), (blkGo R s half f j xs).length = xs.length := by
  intro f
  induction f with
  | zero => intro j xs; rfl
  | succ f ih => intro j xs; rw [blkGo, ih, blkOne_length]
theorem blkGo_word (R : List Int) (s half : Nat) : ∀ (f j : Nat) (xs : List Int), Word xs → Word (blkGo R s half f j xs) := by
  intro f
  induction f with
  | zero => intro j xs h; exact h
  | succ f ih => intro j xs h; exact ih _ _ (blkOne_word _ _ _ _ _ h)

set_option maxHeartbeats 1000000 in
theorem block_any (b b2 s half o t : Nat) (xs R : List Int) (cs : List Value) (w : World) (hne : b ≠ b2) (hs : s + half + half ≤ xs.length) (hn : xs.length ≤ 2048) (hx : Word xs) (hR : R.length = half) (hRw : Word R)
    (hb : Blk w b 25 (E xs)) (hb2 : Blk w b2 t cs) (hf : Fac R o cs) :
    Calls Takg.prog 119 #[.slice (some ⟨b, s, none⟩) half half, .slice (some ⟨b, s + half, none⟩) half half, .slice (some ⟨b2, o, none⟩) half half] w fun e w' => e = .returned (.tuple #[]) ∧ Blk w' b 25 (E (blkGo R s half half 0 xs)) ∧ Chg [b] w w' := by
  have HR := hide hR
  clear hR
  go_enter Takg.func119, Takg.ntmps119
  go_wp2_with fail
  go_loopw [6] (fun x wr => ∃ (j : Nat) (ys : List Int), x = .int .i64 j ∧ j ≤ half ∧ Hid (ys.length = xs.length) ∧ Word ys ∧ Hid (blkGo R s half (half - j) j ys = blkGo R s half half 0 xs) ∧ Blk wr b 25 (E ys) ∧ Chg [b] w wr) (fun x _ => half - (intOf x).toNat)
  case atStart => exact ⟨0, xs, rfl, by omega, rfl, hx, rfl, hb, Chg.refl _ _⟩
  case round =>
    obtain ⟨j, ys, rfl, hj, hly, hyw, HG, hbr, hch⟩ := hrel
    clear hb hx
    by_cases hlt : j < half
    · have hb2r := hch.blk hb2 (by simpa using Ne.symm hne)
      have hfj := hf j (by rw [HR.out]; exact hlt)
      obtain ⟨r, hr⟩ : ∃ r, r = R.getD j 0 := ⟨_, rfl⟩
      rw [← hr] at hfj
      have hrb := hRw j (by rw [HR.out]; exact hlt)
      rw [← hr] at hrb
      obtain ⟨lo, hlo⟩ : ∃ r, r = ys.getD (s + j) 0 := ⟨_, rfl⟩
      obtain ⟨hi, hhi⟩ : ∃ r, r = ys.getD (s + half + j) 0 := ⟨_, rfl⟩
      have hlob := hyw (s + j) (by have := hly.out; omega)
      have hhib := hyw (s + half + j) (by have := hly.out; omega)
      rw [← hlo] at hlob
      rw [← hhi] at hhib
      have k0 : wr.cell? ⟨b, s + j, none⟩ = some (.int .u32 lo) := by rw [hlo]; exact hbr.cell _ _ (E_get _ _ (by have := hly.out; omega))
      have k1 : wr.cell? ⟨b, s + half + j, none⟩ = some (.int .u32 hi) := by rw [hhi]; exact hbr.cell _ _ (E_get _ _ (by have := hly.out; omega))
      have k2 := hb2r.cell _ _ hfj.1
      have k3 := hb2r.cell _ _ hfj.2
      have f0 := hbr.frozen (s + j) none
      have f1 := hbr.frozen (s + half + j) none
      have rb := rat_bd r
      have Hr := hide hr
      have Hlo := hide hlo
      have Hhi := hide hhi
      clear hfj hr hlo hhi hb2 hf
      obtain ⟨hr0, hr1⟩ := hrb
      obtain ⟨hl0, hl1⟩ := hlob
      obtain ⟨hh0, hh1⟩ := hhib
      go_upto_if 32 with fail
      go_cut [7] (fun x wc => x = .int .u32 (cut2 lo) ∧ wc = wr)
      case first =>
        by_cases hge : 1996488706 ≤ lo
        · go_wp2_with fail
          go_meet
          exact ⟨by unfold cut2; rw [if_pos hge], rfl⟩
        · go_wp2_with fail
          go_meet
          exact ⟨by unfold cut2; rw [if_neg (by omega)], rfl⟩
      case rest =>
        obtain ⟨rfl, rfl⟩ := hcut
        go_wp2_with fail
        go_region_with (go_at_call 45; refine (times_any _ _ _ _ hr0 hr1 rb.1 rb.2 hh0 hh1).mono ?_; rintro e w5 ⟨rfl, hc5⟩)
        all_goals
          have hb5 := hc5.blk hbr.drew (by simp)
          have j0 := hb5.cell _ _ (E_get ys (s + j) (by have := hly.out; omega))
          have j1 := hb5.cell _ _ (E_get ys (s + half + j) (by have := hly.out; omega))
          have f0 := hb5.frozen (s + j) none
          have f1 := hb5.frozen (s + half + j) none
          have cb : 0 ≤ cut2 lo ∧ cut2 lo ≤ 4294967295 := by unfold cut2; split <;> omega
          have tb := times_bd r (rat r) hi
          go_wp2_with fail
          go_roundw
          case rel =>
            refine ⟨j + 1, blkOne R s half j ys, by go_num, by omega, by unfold Hid; rw [blkOne_length]; exact hly.out, blkOne_word _ _ _ _ _ hyw, ?_, ?_, ?_⟩
            · unfold Hid; rw [← HG.out, show half - j = half - (j + 1) + 1 by omega]; rfl
            · have := (hb5.set (s + j) (.int .u32 ((cut2 lo + times r (rat r) hi) % 4294967296))).set (s + half + j) (.int .u32 ((cut2 lo + 1996488706 - times r (rat r) hi) % 4294967296))
              rw [E_set, E_set] at this
              unfold blkOne
              rw [← Hlo.out, ← Hhi.out, ← Hr.out]
              exact this
            · exact ((hch.drew.trans (hc5.mono (by simp))).setCell _ (by simp) _).setCell _ (by simp) _
          case measure => simp [intOf]; omega
    · go_wp2_with fail
      go_end0
      have hjh : j = half := by omega
      subst hjh
      refine ⟨rfl, ?_, hch⟩
      rw [← HG.out, Nat.sub_self]
      exact hbr
end Ntt
end Go.Proofs.Ygctak
