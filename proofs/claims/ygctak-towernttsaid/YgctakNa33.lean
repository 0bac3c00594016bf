/-
  law.towerOn: a script too long; law.TowerFFT, law.TowerNTT.
-/
import Derived.Test.YgctakNa32
namespace Go.Proofs.Ygctak
open Go.RowKit
set_option linter.unusedVariables false
set_option linter.unusedSimpArgs false
attribute [local go_sem ↓] Go.wp_at_zero Go.wp_at_succ
namespace Na

set_option maxRecDepth 10000 in
set_option maxHeartbeats 4000000 in
theorem tower_bad (e n cap n' cap' be : Nat) (sa : Option Addr) (w : World) (he : e ≤ 3) (hc : ∀ W, Calls Takg.prog 51 #[.slice sa n cap] W fun r w' => r = .returned (.slice sa n' cap') ∧ w' = W) (hn : 128 < n') (hn2 : n' ≤ 129) (hE : Blk w be 5 [.int .u8 0, .int .u8 e]) :
    Calls Takg.prog 19 #[.slice (some ⟨be, 0, none⟩) 2 2, .slice sa n cap] w fun r w' => r = .returned (.bool true) ∧ Chg [] w w' := by
  have HCUT := hide hc
  have HE := hide hE
  have hq : decide ((128 : Int) < (n' : Int)) = true := by simp; omega
  clear hc hE
  go_enter Takg.func19, Takg.ntmps19
  go_wp2_with fail
  refine (HCUT.out _).mono ?_
  rintro r w1 ⟨rfl, rfl⟩
  go_upto_region 4 with (refine wpList_new92 (by rfl) (by rfl) ?_; intro b6 w6 hb6 k6 c6)
  simp only [Act.put, List.setIfInBounds_toArray, List.set_cons_zero, List.set_cons_succ]
  clear hb6
  go_upto_region 5 with fail
  go_loopw [7] (fun x wr => x = .int .i64 0 ∧ wr = w6) (fun _ _ => 0)
  case atStart => exact ⟨rfl, rfl⟩
  case round =>
    obtain ⟨rfl, rfl⟩ := hrel
    have h0 : (0 : Int) < (n' : Int) := by omega
    go_upto_region 9 with fail
    go_loopw [8] (fun x wq => ∃ j : Nat, x = .int .i64 j ∧ j ≤ 2 ∧ Chg [] w1 wq) (fun x _ => 2 - (intOf x).toNat)
    case atStart => exact ⟨0, rfl, by omega, c6⟩
    case round =>
      clear k6 c6
      obtain ⟨j, rfl, hj, cw⟩ := hrel
      by_cases hlt : j < 2
      · have kE := cw.blk HE.out (by simp)
        obtain ⟨ej, hej, hce⟩ : ∃ ej : Nat, ej ≤ 3 ∧ wr.cell? ⟨be, j, none⟩ = some (.int .u8 ej) := by
          have hj2 : j = 0 ∨ j = 1 := by omega
          rcases hj2 with h | h
          · subst h
            exact ⟨0, by omega, kE.cell 0 _ rfl⟩
          · subst h
            exact ⟨e, he, kE.cell 1 _ rfl⟩
        have HRUN := hide (Run_bad ej n' cap' sa wr hej hn (by omega))
        have HCW := hide cw
        clear cw kE
        go_wp2_with fail
        refine HRUN.out.mono ?_
        rintro r w7 ⟨rfl, cw7⟩
        have HC7 := hide (HCW.out.trans cw7)
        clear cw7 hce
        go_upto_region 12 with (refine wpList_new98 (by rfl) (by rfl) ?_; intro b9 w9 hb9 k9 c9; have y0 := k9.cell 0 _ rfl; have y1 := k9.cell 1 _ rfl; have y2 := k9.cell 2 _ rfl; have z0 := k9.frozen 0 none; have z1 := k9.frozen 1 none; have z2 := k9.frozen 2 none)
        have g9 : w7.heap.size ≤ b9 := by have := hb9.out; omega
        have V1 := ((k9.set 0 (.bool true)).set 1 (.slice none 0 0)).set 2 (.slice none 0 0)
        have C1 := ((c9.setNew ⟨b9, 0, none⟩ g9 (.bool true)).setNew ⟨b9, 1, none⟩ g9 (.slice none 0 0)).setNew ⟨b9, 2, none⟩ g9 (.slice none 0 0)
        clear y0 y1 y2 z0 z1 z2 k9 c9 hb9
        generalize ((w9.setCell ⟨b9, 0, none⟩ (.bool true)).setCell ⟨b9, 1, none⟩ (.slice none 0 0)).setCell ⟨b9, 2, none⟩ (.slice none 0 0) = w8 at *
        have y0 := V1.cell 0 _ rfl
        have y1 := V1.cell 1 _ rfl
        have y2 := V1.cell 2 _ rfl
        have HOB := hide (onlyBad_any w8)
        have HC8 := hide (HC7.out.trans C1)
        clear V1 C1
        go_wp2_with fail
        refine HOB.out.mono ?_
        rintro r w10 ⟨rfl, c10⟩
        have HC10 := hide (HC8.out.trans c10)
        clear c10 y0 y1 y2
        go_wp2_with fail
        go_roundw
        case rel => exact ⟨j + 1, by go_num, by omega, HC10.out⟩
        case measure => simp [intOf]; omega
      · have : j = 2 := by omega
        subst this
        go_wp2_with fail
        go_ret
        exact ⟨rfl, cw⟩

theorem tower_any (e n cap be : Nat) (sa : Option Addr) (w : World) (he : e ≤ 3) (hpr : Prod e) (h : n ≤ 128 → ∃ ops, Scr w sa n cap ops) (hs : 129 < n → (∃ b off, sa = some ⟨b, off, none⟩) ∧ n ≤ cap ∧ cap ≤ 9223372036854775807) (hE : Blk w be 5 [.int .u8 0, .int .u8 e]) :
    Calls Takg.prog 19 #[.slice (some ⟨be, 0, none⟩) 2 2, .slice sa n cap] w fun r w' => r = .returned (.bool true) ∧ Chg [] w w' := by
  by_cases h1 : n ≤ 128
  · obtain ⟨ops, ho⟩ := h h1
    exact tower_good e n cap be sa ops w he hpr ho h1 hE
  · by_cases h2 : n ≤ 129
    · exact tower_bad e n cap n cap be sa w he (fun W => cut_no sa n cap W h2) (by omega) h2 hE
    · obtain ⟨⟨b, off, rfl⟩, h3, h4⟩ := hs (by omega)
      exact tower_bad e n cap 129 129 be (some ⟨b, off, none⟩) w he (fun W => cut_yes b off n cap W (by omega) h3 h4) (by omega) (by omega) hE

set_option maxHeartbeats 1000000 in
theorem towerFFT_any (n cap : Nat) (sa : Option Addr) (w : World) (hpr : Prod 2) (h : n ≤ 128 → ∃ ops, Scr w sa n cap ops) (hs : 129 < n → (∃ b off, sa = some ⟨b, off, none⟩) ∧ n ≤ cap ∧ cap ≤ 9223372036854775807) :
    Calls Takg.prog 8 #[.slice sa n cap] w fun r w' => r = .returned (.bool true) ∧ Chg [] w w' := by
  have HT := hide (fun be W (hc : Chg [] w W) (hE : Blk W be 5 [.int .u8 0, .int .u8 2]) => tower_any 2 n cap be sa W (by omega) hpr (fun h1 => by obtain ⟨ops, ho⟩ := h h1; exact ⟨ops, ho.chg hc⟩) hs hE)
  clear h hs hpr
  go_enter Takg.func8, Takg.ntmps8
  go_wp2_with fail
  have C0 := (Chg.refl [] w).alloc (.cells #[.int .u8 0, .int .u8 2] 5)
  have HK := hide (And.intro C0 (Blk.new w [.int .u8 0, .int .u8 2] 5))
  clear C0
  refine (HT.out _ _ HK.out.1 HK.out.2).mono ?_
  rintro r w1 ⟨rfl, c1⟩
  have HC := hide (HK.out.1.trans c1)
  clear c1
  go_wp2_with fail
  go_ret
  exact ⟨rfl, HC.out⟩

set_option maxHeartbeats 1000000 in
theorem towerNTT_any (n cap : Nat) (sa : Option Addr) (w : World) (hpr : Prod 3) (h : n ≤ 128 → ∃ ops, Scr w sa n cap ops) (hs : 129 < n → (∃ b off, sa = some ⟨b, off, none⟩) ∧ n ≤ cap ∧ cap ≤ 9223372036854775807) :
    Calls Takg.prog 9 #[.slice sa n cap] w fun r w' => r = .returned (.bool true) ∧ Chg [] w w' := by
  have HT := hide (fun be W (hc : Chg [] w W) (hE : Blk W be 5 [.int .u8 0, .int .u8 3]) => tower_any 3 n cap be sa W (by omega) hpr (fun h1 => by obtain ⟨ops, ho⟩ := h h1; exact ⟨ops, ho.chg hc⟩) hs hE)
  clear h hs hpr
  go_enter Takg.func9, Takg.ntmps9
  go_wp2_with fail
  have C0 := (Chg.refl [] w).alloc (.cells #[.int .u8 0, .int .u8 3] 5)
  have HK := hide (And.intro C0 (Blk.new w [.int .u8 0, .int .u8 3] 5))
  clear C0
  refine (HT.out _ _ HK.out.1 HK.out.2).mono ?_
  rintro r w1 ⟨rfl, c1⟩
  have HC := hide (HK.out.1.trans c1)
  clear c1
  go_wp2_with fail
  go_ret
  exact ⟨rfl, HC.out⟩
end Na
end Go.Proofs.Ygctak
