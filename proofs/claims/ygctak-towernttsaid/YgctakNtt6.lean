/-
  Walks: transform, Forward, Inverse, elems.
-/
import Derived.Test.YgctakNtt5
namespace Go.Proofs.Ygctak
open Go.RowKit
set_option linter.unusedVariables false
set_option linter.unusedSimpArgs false
attribute [local go_sem ↓] Go.wp_at_zero Go.wp_at_succ
namespace Ntt

theorem alloc133 (w : World) : (Instr.alloc 133 true (.tuple #[])).run Takg.prog w = .ok (.pointer (some ⟨w.heap.size, 0, none⟩)) (w.alloc (.cells (Array.replicate 64 (.int .u32 0)) 133)) := by kernel_rfl
theorem alloc136 (w : World) : (Instr.alloc 136 true (.tuple #[])).run Takg.prog w = .ok (.pointer (some ⟨w.heap.size, 0, none⟩)) (w.alloc (.cells (Array.replicate 4096 (.int .u32 0)) 136)) := by kernel_rfl

set_option maxRecDepth 100000 in
set_option maxHeartbeats 2000000 in
theorem transform_any (b k : Nat) (xs : List Int) (w0 : Int) (w : World) (hk0 : 1 ≤ k) (hk : k ≤ 11) (hn : xs.length = 2 ^ k) (hx : Word xs) (hw0 : 0 ≤ w0) (hw1 : w0 ≤ 998244352) (hb : Blk w b 25 (E xs)) :
    Calls Takg.prog 39 #[.slice (some ⟨b, 0, none⟩) (2 ^ k) (2 ^ k), .int .i64 k, .int .u32 w0] w fun e w' =>
      e = .returned (.tuple #[]) ∧ Blk w' b 25 (E (trans xs k w0)) ∧ Chg [b] w w' := by
  obtain ⟨n, hnn⟩ : ∃ n, n = 2 ^ k := ⟨_, rfl⟩
  have hp := fun b2 h o t cs W hne hh hh2 ho hl h1 h2 => passes_any b b2 k h o t cs xs w0 W hk0 hk hn hx hw0 hw1 hne hh hh2 ho hl h1 h2
  rw [← hnn] at hp
  rw [← hnn]
  have HP := hide hp
  have HN := hide hnn
  have hn2 : n ≤ 2048 := by rw [hnn]; exact Nat.pow_le_pow_right (n := 2) (by omega) hk
  clear hp hnn hn
  by_cases h32 : n ≤ 32
  · have hkk : 2 ^ (k - 1) ≤ 16 := by have := half_pow k hk0; rw [← HN.out] at this; omega
    go_enter Takg.func39, Takg.ntmps39
    go_upto_region 1 with fail
    apply wp_region_lit
    refine wpList_allocVar (by rfl) 133 (by rfl) _ alloc133 ?_
    have hb1 := hb.alloc (.cells (Array.replicate 64 (.int .u32 0)) 133)
    have hn1 := Blk.new' w (Array.replicate 64 (.int .u32 0)) 133
    have hc1 := (Chg.refl [] w).alloc (.cells (Array.replicate 64 (.int .u32 0)) 133)
    have hbw := hb.lt
    have hl1 : ((Array.replicate 64 (Value.int .u32 0)).toList).length = 16 * 4 := by simp
    generalize (Array.replicate 64 (Value.int .u32 0)).toList = cs at hn1 hl1
    generalize w.alloc (.cells (Array.replicate 64 (.int .u32 0)) 133) = w1 at hb1 hn1 hc1 ⊢
    obtain ⟨b2, hb2⟩ : ∃ b2, b2 = w.heap.size := ⟨_, rfl⟩
    rw [← hb2] at hn1 hbw ⊢
    have HB2 := hide hb2
    have HL1 := hide hl1
    clear hb2 hl1 hb
    go_wp2_with fail
    go_region_with (go_at_call 83; refine (HP.out b2 16 32 133 cs _ (by omega) hkk (by omega) (by omega) HL1.out hb1.drew hn1.drew).mono ?_; rintro e w5 ⟨rfl, hb5, hc5⟩)
    all_goals
      go_wp2_with fail
      refine bodyPost_ret (v := .tuple #[]) (results_none (by rfl) _ _ _) rfl ?_
      refine ⟨rfl, hb5, ?_⟩
      refine Chg.drop ((hc1.mono (by simp)).drew.trans hc5) ?_
      intro x hx
      have := HB2.out
      simp at hx ⊢
      omega
  · have hkk : 2 ^ (k - 1) ≤ 1024 := by have := half_pow k hk0; rw [← HN.out] at this; omega
    go_enter Takg.func39, Takg.ntmps39
    go_upto_region 3 with fail
    apply wp_region_lit
    refine wpList_allocVar (by rfl) 136 (by rfl) _ alloc136 ?_
    have hb1 := hb.alloc (.cells (Array.replicate 4096 (.int .u32 0)) 136)
    have hn1 := Blk.new' w (Array.replicate 4096 (.int .u32 0)) 136
    have hc1 := (Chg.refl [] w).alloc (.cells (Array.replicate 4096 (.int .u32 0)) 136)
    have hbw := hb.lt
    have hl1 : ((Array.replicate 4096 (Value.int .u32 0)).toList).length = 1024 * 4 := by simp
    generalize (Array.replicate 4096 (Value.int .u32 0)).toList = cs at hn1 hl1
    generalize w.alloc (.cells (Array.replicate 4096 (.int .u32 0)) 136) = w1 at hb1 hn1 hc1 ⊢
    obtain ⟨b2, hb2⟩ : ∃ b2, b2 = w.heap.size := ⟨_, rfl⟩
    rw [← hb2] at hn1 hbw ⊢
    have HB2 := hide hb2
    have HL1 := hide hl1
    clear hb2 hl1 hb
    go_wp2_with fail
    go_region_with (go_at_call 83; refine (HP.out b2 1024 2048 136 cs _ (by omega) hkk (by omega) (by omega) HL1.out hb1.drew hn1.drew).mono ?_; rintro e w5 ⟨rfl, hb5, hc5⟩)
    all_goals
      go_wp2_with fail
      go_end0
      refine ⟨rfl, hb5, ?_⟩
      refine Chg.drop ((hc1.mono (by simp)).drew.trans hc5) ?_
      intro x hx
      have := HB2.out
      simp at hx ⊢
      omega

theorem cut2_bd {v : Int} (h0 : 0 ≤ v) (h1 : v ≤ 4294967295) : 0 ≤ cut2 v ∧ cut2 v ≤ 2298478589 := by unfold cut2; split <;> omega

/-- What transform leaves is a list of words. -/
theorem passesGo_keep (T : List Int) (k : Nat) : ∀ (f t : Nat) (xs : List Int), Word xs → (passesGo T k f t xs).length = xs.length ∧ Word (passesGo T k f t xs) := by
  intro f
  induction f with
  | zero => intro t xs h; exact ⟨rfl, h⟩
  | succ f ih =>
    intro t xs h
    obtain ⟨a1, a2⟩ := passGo_keep (pick T (2 ^ (t - 1)) (2 ^ (k - t))) (2 ^ (t - 1)) (2 ^ (k - t)) 0 xs h
    obtain ⟨b1, b2⟩ := ih (t + 1) _ a2
    exact ⟨b1.trans a1, b2⟩
theorem Word.map {xs : List Int} (f : Int → Int) (h : ∀ v, 0 ≤ v → v ≤ 4294967295 → 0 ≤ f v ∧ f v ≤ 4294967295) (hx : Word xs) : Word (xs.map f) := by
  intro j hj
  have hj2 : j < xs.length := by simpa using hj
  have := hx j hj2
  simp [hj2] at this ⊢
  exact h _ this.1 this.2
theorem trans_keep (xs : List Int) (k : Nat) (w : Int) (hn : xs.length = 2 ^ k) (hx : Word xs) : (trans xs k w).length = 2 ^ k ∧ Word (trans xs k w) := by
  obtain ⟨a1, a2⟩ := rev_keep k xs hn hx
  obtain ⟨b1, b2⟩ := firstGo_keep (xs.length / 2) 0 _ a2
  obtain ⟨c1, c2⟩ := passesGo_keep (tab k w) k (k - 1) 2 _ b2
  unfold trans
  refine ⟨by rw [List.length_map, c1, b1, a1], Word.map _ ?_ c2⟩
  intro v h0 h1
  have := cut2_bd h0 h1
  exact fold_bd this.1 (by omega)

theorem Forward_any (b k : Nat) (xs : List Int) (w : World) (hk0 : 1 ≤ k) (hk : k ≤ 11) (hn : xs.length = 2 ^ k) (hx : Lt 998244353 xs) (hb : Blk w b 25 (E xs)) :
    Calls Takg.prog 13 #[.slice (some ⟨b, 0, none⟩) (2 ^ k) (2 ^ k)] w fun e w' =>
      e = .returned (.bool true) ∧ Blk w' b 25 (E (fwd xs k)) ∧ Chg [b] w w' := by
  have hxw : Word xs := fun j hj => by have := hx j hj; omega
  have hlev := fun W => level_any k W hk
  have hn2 : 2 ^ k ≤ 2048 := Nat.pow_le_pow_right (n := 2) (by omega) hk
  have hbel := Below_any b xs w (by rw [hn]; exact hn2) hx hb
  rw [hn] at hbel
  have rb := powm_bd 3 (998244352 / 2 ^ k)
  have htr := transform_any b k xs (root k) w hk0 hk hn hxw rb.1 rb.2 hb
  obtain ⟨n, hnn⟩ : ∃ n, n = 2 ^ k := ⟨_, rfl⟩
  rw [← hnn] at hlev hbel htr hn2 ⊢
  have HL := hide hlev
  have HB := hide hbel
  have HT := hide htr
  clear hlev hbel htr hnn hn hx hxw
  go_enter Takg.func13, Takg.ntmps13
  go_wp2_with fail
  refine (HL.out _).mono ?_
  rintro e w' ⟨rfl, rfl⟩
  go_wp2_with fail
  refine HB.out.mono ?_
  rintro e w' ⟨rfl, rfl⟩
  go_wp2_with fail
  refine (root_any k _ hk).mono ?_
  rintro e w' ⟨rfl, rfl⟩
  go_wp2_with fail
  refine HT.out.mono ?_
  rintro e w' ⟨rfl, hb2, hc2⟩
  go_wp2_with fail
  go_ret
  exact ⟨rfl, hb2, hc2⟩

end Ntt
end Go.Proofs.Ygctak
