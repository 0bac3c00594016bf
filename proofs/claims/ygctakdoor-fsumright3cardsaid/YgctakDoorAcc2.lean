/-
  Walks: Sign, Abs.
-/
import Derived.Test.YgctakDoorAcc1
namespace Go.Proofs.YgctakDoor
open Go.RowKit
set_option linter.unusedVariables false
set_option linter.unusedSimpArgs false
attribute [local go_sem ↓] Go.wp_at_zero Go.wp_at_succ
namespace Ac

set_option maxHeartbeats 1000000 in
/-- (*Acc).Sign. -/
theorem Sign_any (b o t : Nat) (p s : List Value) (x : Int) (w : World) (hx : Fits x) (ha : At w b o t p (W x) s) :
    Calls Takg.prog 17 #[.pointer (some ⟨b, o, none⟩)] w fun e w' => e = .returned (.int .i8 (sgn x)) ∧ w' = w := by
  have hcell := fun j hj => ha.cell j hj
  have htop := top_neg hx
  have k67 := hcell 67 (by omega)
  have tb := word_bd x 67
  obtain ⟨u, hu⟩ : ∃ u, u = word x 67 := ⟨_, rfl⟩
  rw [← hu] at htop k67 tb
  by_cases hn : x < 0
  · rw [if_pos hn] at htop
    have hb : (u / 9223372036854775808 != 0) = true := by rw [htop]; decide
    have hs : sgn x = -1 := by unfold sgn; rw [if_pos hn]
    have HS := hide hs
    clear hu hcell ha htop hs
    obtain ⟨t0, t1⟩ := tb
    go_enter Takg.func17, Takg.ntmps17
    go_wp2_with fail
    go_ret
    exact ⟨by rw [HS.out]; rfl, rfl⟩
  · rw [if_neg hn] at htop
    have hb : (u / 9223372036854775808 != 0) = false := by rw [htop]; decide
    have HC := hide hcell
    clear hu hcell htop
    obtain ⟨t0, t1⟩ := tb
    go_enter Takg.func17, Takg.ntmps17
    go_wp2_with fail
    clear k67
    go_loop [3] (fun i => ∃ k : Nat, i = .int .i64 k ∧ k ≤ 68 ∧ Hid (∀ j, j < k → word x j = 0)) (fun i => 68 - (intOf i).toNat)
    case atStart => exact ⟨0, rfl, by omega, fun j hj => by omega⟩
    case round =>
      obtain ⟨k, rfl, hk, HZ⟩ := hrel
      by_cases hlt : k < 68
      · have k0 := HC.out k hlt
        by_cases hz : word x k = 0
        · rw [hz] at k0
          have HZ2 : Hid (∀ j, j < k + 1 → word x j = 0) := by
            intro j hj
            by_cases e : j = k
            · rw [e]; exact hz
            · exact HZ.out j (by omega)
          clear HZ hz
          go_wp2_with fail
          go_round
          case rel => exact ⟨k + 1, by go_num, by omega, HZ2⟩
          case measure => simp [intOf]; omega
        · have hne : (word x k != 0) = true := by rw [bne_iff_ne]; exact hz
          obtain ⟨v, hv⟩ : ∃ v, v = word x k := ⟨_, rfl⟩
          have hxz : x ≠ 0 := by intro e; apply hz; rw [e]; simp [word]
          have hs : sgn x = 1 := by unfold sgn; rw [if_neg (by omega), if_neg hxz]
          have HS := hide hs
          rw [← hv] at k0 hne
          clear hz hv hs HZ hxz
          go_wp2_with fail
          go_ret
          exact ⟨by rw [HS.out]; rfl, rfl⟩
      · have hke : k = 68 := by omega
        subst hke
        have hs : sgn x = 0 := by unfold sgn; rw [if_neg (by omega), if_pos (fits_zero hx (by omega) HZ.out)]
        have HS := hide hs
        clear hs
        go_wp2_with fail
        go_ret
        exact ⟨by rw [HS.out]; rfl, rfl⟩

theorem fits_neg {x : Int} (h : Fits x) (hx : -half < x) : Fits (-x) := by unfold Fits at *; omega

/-- (*Acc).Abs. -/
theorem Abs_any (b o t : Nat) (p s : List Value) (z : Int) (w : World) (hx : Fits z) (ha : At w b o t p (W z) s) :
    Calls Takg.prog 18 #[.pointer (some ⟨b, o, none⟩)] w fun e w' => e = .returned (.tuple #[]) ∧ At w' b o t p (W (z.natAbs : Int)) s ∧ Chg [b] w w' := by
  have HS := hide (Sign_any b o t p s z w hx ha)
  have HN := hide (Neg_any b o t p s z w ha)
  by_cases hz : z < 0
  · have hs : sgn z = -1 := by unfold sgn; rw [if_pos hz]
    rw [hs] at HS
    have e1 : -z = (z.natAbs : Int) := by omega
    rw [e1] at HN
    clear hs e1 ha
    go_enter Takg.func18, Takg.ntmps18
    go_wp2_with fail
    refine HS.out.mono ?_
    rintro e w' ⟨rfl, rfl⟩
    go_wp2_with fail
    refine HN.out.mono ?_
    rintro e w' ⟨rfl, hk, hc⟩
    go_wp2_with fail
    go_end0
    exact ⟨rfl, hk, hc⟩
  · have hs : ∃ v, sgn z = v ∧ 0 ≤ v ∧ v ≤ 1 := by
      refine ⟨_, rfl, ?_⟩; unfold sgn; rw [if_neg hz]; split <;> omega
    obtain ⟨v, hv, v0, v1⟩ := hs
    rw [hv] at HS
    have e1 : z = (z.natAbs : Int) := by omega
    rw [e1] at ha
    generalize (z.natAbs : Int) = y at *
    clear HN hv e1
    go_enter Takg.func18, Takg.ntmps18
    go_wp2_with fail
    refine HS.out.mono ?_
    rintro e w' ⟨rfl, rfl⟩
    go_wp2_with fail
    go_end0
    exact ⟨rfl, ha, Chg.refl _ _⟩
end Ac
end Go.Proofs.YgctakDoor
