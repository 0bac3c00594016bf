/-
  The walk of law.NTTConvIsTransform.
-/
import Derived.Test.YgctakNtt9
namespace Go.Proofs.Ygctak
open Go.RowKit
set_option linter.unusedVariables false
set_option linter.unusedSimpArgs false
attribute [local go_sem ↓] Go.wp_at_zero Go.wp_at_succ
namespace Ntt

set_option maxRecDepth 100000 in
set_option maxHeartbeats 2000000 in
theorem law_main (ba oa ca bb ob cb : Nat) (xa xb : List Int) (w : World) (ha : Dig w ba oa xa) (hb : Dig w bb ob xb) (hab : Byte xa) (hbb : Byte xb)
    (la0 : 1 ≤ xa.length) (la1 : xa.length ≤ 512) (lb0 : 1 ≤ xb.length) (lb1 : xb.length ≤ 512) :
    Calls Takg.prog 3 #[.slice (some ⟨ba, oa, none⟩) xa.length ca, .slice (some ⟨bb, ob, none⟩) xb.length cb] w fun e w' => e = .returned (.bool true) ∧ Chg [] w w' := by
  have hconv := fun W h1 h2 => Convolve_any ba oa ca bb ob cb xa xb W h1 h2 hab hbb la0 la1 lb0 lb1
  obtain ⟨m, hm⟩ : ∃ m, m = xa.length + xb.length - 1 := ⟨_, rfl⟩
  have hm1 : m ≤ 1023 := by omega
  have hma : xa.length ≤ m := by omega
  have hmb : xb.length ≤ m := by omega
  have hml : m + 1 ≤ xa.length + xb.length := by omega
  have hmg : xa.length + xb.length ≤ m + 1 := by omega
  have hmi : (xa.length : Int) + (xb.length : Int) - 1 = (m : Int) := by omega
  obtain ⟨k, hk⟩ : ∃ k, k = levOf m := ⟨_, rfl⟩
  have hks := lev_spec m (by omega) 9 1 rfl
  rw [show lev 9 1 m = k from hk.symm] at hks
  obtain ⟨hk1, hk10, hmk⟩ := hks
  rw [← hm, ← hk] at hconv
  have za : ((xa.length : Int) == 0) = false := by rw [beq_eq_false_iff_ne]; omega
  have zb : ((xb.length : Int) == 0) = false := by rw [beq_eq_false_iff_ne]; omega
  have HC := hide hconv
  have HK := hide hk
  have HMI := hide hmi
  clear hm hk hmi hconv
  go_enter Takg.func3, Takg.ntmps3
  go_upto_block 0 with fail
  go_cut [5, 6] (fun y x wc => y = .int .i64 m ∧ x = .int .i64 ((2 ^ k : Nat) : Int) ∧ w = wc)
  case first =>
    go_wp2_with fail
    go_loop [6] (fun x => ∃ (f q : Nat), x = .int .i64 ((2 ^ q : Nat) : Int) ∧ q + f = 10 ∧ Hid (lev f q m = k)) (fun x => 2048 - (intOf x).toNat)
    case atStart => exact ⟨9, 1, rfl, rfl, HK.out.symm⟩
    case round =>
      obtain ⟨f, q, rfl, hqf, HF⟩ := hrel
      obtain ⟨n, hn⟩ : ∃ n, n = 2 ^ q := ⟨_, rfl⟩
      have hn2 : n ≤ 1024 := by rw [hn]; exact Nat.pow_le_pow_right (n := 2) (by omega) (show q ≤ 10 by omega)
      have hn0 : 0 < n := by rw [hn]; exact Nat.two_pow_pos q
      rw [← hn]
      have HN := hide hn
      clear hn
      by_cases hlt : n < m
      · obtain ⟨g, rfl⟩ : ∃ g, f = g + 1 := ⟨f - 1, by
          rcases Nat.eq_zero_or_pos f with h | h
          · subst h
            have hq : q = 10 := by omega
            subst hq
            have := HN.out
            omega
          · omega⟩
        go_wp2_with fail
        go_round
        case rel =>
          refine ⟨g, q + 1, ?_, by omega, ?_⟩
          · have := HN.out; rw [Nat.pow_succ, ← this]; go_num
          · unfold Hid; rw [← HF.out, lev_step g q m (by rw [← HN.out]; exact hlt)]
        case measure => simp [intOf]; omega
      · go_wp2_with fail
        go_meet
        have hqk : q = k := by rw [← HF.out, lev_stop f q m (by rw [← HN.out]; exact hlt)]
        refine ⟨?_, ?_, rfl⟩
        · rw [HMI.out]
        · rw [HN.out, hqk]
  case rest =>
    obtain ⟨rfl, rfl, rfl⟩ := hcut
    obtain ⟨n, hn⟩ : ∃ n, n = 2 ^ k := ⟨_, rfl⟩
    have hn2 : n ≤ 1024 := by rw [hn]; exact Nat.pow_le_pow_right (n := 2) (by omega) hk10
    rw [← hn] at hmk
    have hF1 := fun b W h1 => Forward_any b k (pad xa n) W hk1 (by omega) (by rw [← hn]; exact pad_length _ _ (by omega)) (pad_lt _ _ hab) h1
    have hF2 := fun b W h1 => Forward_any b k (pad xb n) W hk1 (by omega) (by rw [← hn]; exact pad_length _ _ (by omega)) (pad_lt _ _ hbb) h1
    have hk1' := trans_keep (pad xa n) k (root k) (by rw [← hn]; exact pad_length _ _ (by omega)) (lt_word (pad_lt _ _ hab))
    have hk2' := trans_keep (pad xb n) k (root k) (by rw [← hn]; exact pad_length _ _ (by omega)) (lt_word (pad_lt _ _ hbb))
    obtain ⟨X, hX⟩ : ∃ X, X = fwd (pad xa n) k := ⟨_, rfl⟩
    obtain ⟨Y, hY⟩ : ∃ Y, Y = fwd (pad xb n) k := ⟨_, rfl⟩
    rw [show trans (pad xa n) k (root k) = X from hX.symm, ← hn] at hk1'
    rw [show trans (pad xb n) k (root k) = Y from hY.symm, ← hn] at hk2'
    rw [← hX, ← hn] at hF1
    rw [← hY, ← hn] at hF2
    obtain ⟨hXl, hXw⟩ := hk1'
    obtain ⟨hYl, hYw⟩ := hk2'
    have hzl : (List.zipWith mulm X Y).length = 2 ^ k := by rw [List.length_zipWith, hXl, hYl, Nat.min_self, hn]
    have hI := fun b W h1 => Inverse_any b k (List.zipWith mulm X Y) W hk1 (by omega) hzl (zip_lt X Y) h1
    have hZk := bwd_keep (List.zipWith mulm X Y) k hzl (lt_word (zip_lt X Y))
    obtain ⟨Z, hZ⟩ : ∃ Z, Z = bwd (List.zipWith mulm X Y) k := ⟨_, rfl⟩
    rw [← hZ, ← hn] at hI hZk
    obtain ⟨hZl, hZw⟩ := hZk
    have HZ : Hid (convFull xa xb k = Z) := by unfold Hid convFull; rw [← hn, ← hX, ← hY, ← hZ]
    have HF1 := hide hF1
    have HF2 := hide hF2
    have HI := hide hI
    have HXl := hide hXl
    have HYl := hide hYl
    have HZl := hide hZl
    rw [← hn]
    clear hF1 hF2 hI hXl hYl hZl hX hY hZ hn hzl HK HMI
    have hmake := make_run (P := Takg.prog) 23 25 (.int .u32 0) 4 n rfl Takg.underlying23 info25 (by omega) (by omega)
    go_upto_region 6 with fail
    go_cut [7, 8] (fun x y wc => ∃ b1 b2 : Nat, x = .slice (some ⟨b1, 0, none⟩) n n ∧ y = .slice (some ⟨b2, 0, none⟩) n n ∧ b1 ≠ b2 ∧ w.heap.size ≤ b1 ∧ w.heap.size ≤ b2 ∧
       Blk wc b1 25 (E (padTo xa n 0)) ∧ Blk wc b2 25 (E (padTo xb n 0)) ∧ Chg [] w wc)
    case first =>
      have e1 : E (padTo xa n 0) = List.replicate n (Value.int .u32 0) := by simp [padTo, E]
      have e2 : E (padTo xb n 0) = List.replicate n (Value.int .u32 0) := by simp [padTo, E]
      have E1 := hide e1
      have E2 := hide e2
      clear e1 e2
      have g1 := Blk.newRep w n (Value.int .u32 0) 25
      have g2 := Blk.newRep (w.alloc (.cells (Array.replicate n (Value.int .u32 0)) 25)) n (Value.int .u32 0) 25
      have g1 := g1.alloc (.cells (Array.replicate n (Value.int .u32 0)) 25)
      have gc := ((Chg.refl [] w).alloc (.cells (Array.replicate n (Value.int .u32 0)) 25)).alloc (.cells (Array.replicate n (Value.int .u32 0)) 25)
      simp only [World.size_alloc] at g2
      go_region
      · go_wp2_with fail
        go_meet
        refine ⟨w.heap.size, w.heap.size + 1, rfl, rfl, by omega, by omega, by omega, ?_, ?_, gc.drew⟩
        · rw [E1.out]; exact g1.drew
        · rw [E2.out]; exact g2.drew
      · go_wp2_with fail
        go_meet
        refine ⟨w.heap.size + 1, w.heap.size, rfl, rfl, by omega, by omega, by omega, ?_, ?_, gc.drew⟩
        · rw [E1.out]; exact g2.drew
        · rw [E2.out]; exact g1.drew
    case rest =>
      clear hmake
      obtain ⟨b1, b2, rfl, rfl, hne, hw1, hw2, hb1, hb2, hch⟩ := hcut
      have hda := hch.dig ha (by simp)
      have hdb := hch.dig hb (by simp)
      have hla := ha.lt
      have hlb := hb.lt
      go_upto_block 2 with fail
      go_cut [] (fun wc => Blk wc b1 25 (E (pad xa n)) ∧ Blk wc b2 25 (E (padTo xb n 0)) ∧ Chg [] w wc)
      case first =>
        go_wp2_with fail
        go_loopw [9] (fun x wr => ∃ i : Nat, x = .int .i64 i ∧ i ≤ xa.length ∧ Blk wr b1 25 (E (padTo xa n i)) ∧ Blk wr b2 25 (E (padTo xb n 0)) ∧ Dig wr ba oa xa ∧ Chg [] w wr) (fun x _ => xa.length - (intOf x).toNat)
        case atStart => exact ⟨0, rfl, by omega, hb1, hb2, hda, hch⟩
        case round =>
          clear hb1 hb2 hda hdb hch
          obtain ⟨i, rfl, hi, hbr, hb2r, hdr, hcr⟩ := hrel
          by_cases hil : i < xa.length
          · obtain ⟨u, hu⟩ : ∃ u, u = xa.getD i 0 := ⟨_, rfl⟩
            have hub := hab i hil
            have k0 := hdr.cell i hil
            have k1 := hbr.cell _ _ (E_get _ i (by rw [padTo_length _ _ _ hi (by omega)]; omega))
            have f1 := hbr.frozen i none
            have hnext := hbr.set i (.int .u32 u)
            rw [E_set, hu, padTo_set xa n i hil (by omega), ← hu] at hnext
            rw [← hu] at k0 hub
            obtain ⟨hu0, hu1⟩ := hub
            clear hu
            have hin : i < n := by omega
            go_wp2_with fail
            go_roundw
            case rel => exact ⟨i + 1, by go_num, by omega, hnext, hb2r.set_ne _ (Ne.symm hne) _, hdr.setNe _ (by simp; omega) _, hcr.setNew _ hw1 _⟩
            case measure => simp [intOf]; omega
          · have hie : i = xa.length := by omega
            subst hie
            go_wp2_with fail
            go_meet
            exact ⟨hbr, hb2r, hcr⟩
      case rest =>
        clear hb1 hb2 hda hdb hch
        obtain ⟨hb1, hb2, hch⟩ := hcut
        have hdb := hch.dig hb (by simp)
        go_upto_block 4 with fail
        go_cut [] (fun wc => Blk wc b1 25 (E (pad xa n)) ∧ Blk wc b2 25 (E (pad xb n)) ∧ Chg [] w wc)
        case first =>
          go_wp2_with fail
          go_loopw [10] (fun x wr => ∃ i : Nat, x = .int .i64 i ∧ i ≤ xb.length ∧ Blk wr b1 25 (E (pad xa n)) ∧ Blk wr b2 25 (E (padTo xb n i)) ∧ Dig wr bb ob xb ∧ Chg [] w wr) (fun x _ => xb.length - (intOf x).toNat)
          case atStart => exact ⟨0, rfl, by omega, hb1, hb2, hdb, hch⟩
          case round =>
            clear hb1 hb2 hdb hch
            obtain ⟨i, rfl, hi, hb1r, hbr, hdr, hcr⟩ := hrel
            by_cases hil : i < xb.length
            · obtain ⟨u, hu⟩ : ∃ u, u = xb.getD i 0 := ⟨_, rfl⟩
              have hub := hbb i hil
              have k0 := hdr.cell i hil
              have k1 := hbr.cell _ _ (E_get _ i (by rw [padTo_length _ _ _ hi (by omega)]; omega))
              have f1 := hbr.frozen i none
              have hnext := hbr.set i (.int .u32 u)
              rw [E_set, hu, padTo_set xb n i hil (by omega), ← hu] at hnext
              rw [← hu] at k0 hub
              obtain ⟨hu0, hu1⟩ := hub
              clear hu
              have hin : i < n := by omega
              go_wp2_with fail
              go_roundw
              case rel => exact ⟨i + 1, by go_num, by omega, hb1r.set_ne _ hne _, hnext, hdr.setNe _ (by simp; omega) _, hcr.setNew _ hw2 _⟩
              case measure => simp [intOf]; omega
            · have hie : i = xb.length := by omega
              subst hie
              go_wp2_with fail
              go_meet
              exact ⟨hb1r, hbr, hcr⟩
        case rest =>
          clear hb1 hb2 hdb hch
          obtain ⟨hb1, hb2, hch⟩ := hcut
          go_wp2_with fail
          refine (HF1.out _ _ hb1).mono ?_
          rintro e w3 ⟨rfl, hb3, hc3⟩
          have hb23 := hc3.blk hb2 (by simpa using Ne.symm hne)
          have hch3 : Chg [b1, b2] w w3 := (hch.mono (by simp)).trans (hc3.mono (by simp))
          clear hb1 hb2 hc3 hch
          go_wp2_with fail
          refine (HF2.out _ _ hb23).mono ?_
          rintro e w4 ⟨rfl, hb4, hc4⟩
          have hb34 := hc4.blk hb3 (by simpa using hne)
          have hch4 : Chg [b1, b2] w w4 := hch3.trans (hc4.mono (by simp))
          clear hb3 hb23 hc4 hch3 HF1 HF2
          go_upto_block 6 with fail
          go_cut [] (fun wr => Blk wr b1 25 (E (List.zipWith mulm X Y)) ∧ Chg [b1, b2] w wr)
          case first =>
            go_wp2_with fail
            go_loopw [11] (fun x wr => ∃ i : Nat, x = .int .i64 i ∧ i ≤ n ∧ Blk wr b1 25 (E (zipTo X Y i)) ∧ Blk wr b2 25 (E Y) ∧ Chg [b1, b2] w wr) (fun x _ => n - (intOf x).toNat)
            case atStart => exact ⟨0, rfl, by omega, by simpa [zipTo] using hb34, hb4, hch4⟩
            case round =>
              clear hb34 hb4 hch4
              obtain ⟨i, rfl, hi, hbr, hbr2, hcr⟩ := hrel
              have hXY : X.length = Y.length := by rw [HXl.out, HYl.out]
              by_cases hin : i < n
              · have hiX : i < X.length := by rw [HXl.out]; exact hin
                have hiY : i < Y.length := by rw [HYl.out]; exact hin
                have hil : i < (zipTo X Y i).length := by rw [zipTo_length _ _ _ hXY (by omega)]; exact hiX
                obtain ⟨u, hu⟩ : ∃ u, u = X.getD i 0 := ⟨_, rfl⟩
                obtain ⟨v, hv⟩ : ∃ v, v = Y.getD i 0 := ⟨_, rfl⟩
                have ub := hXw i hiX
                have vb := hYw i hiY
                have k0 : wr.cell? ⟨b1, i, none⟩ = some (.int .u32 u) := by rw [hu, ← zipTo_get X Y i hXY hiX]; exact hbr.cell _ _ (E_get _ _ hil)
                have k1 : wr.cell? ⟨b2, i, none⟩ = some (.int .u32 v) := by rw [hv]; exact hbr2.cell _ _ (E_get _ _ hiY)
                have f0 := hbr.frozen i none
                have hnext := hbr.set i (.int .u32 (mulm u v))
                rw [E_set, hu, hv, zipTo_set X Y i hXY hiX, ← hu, ← hv] at hnext
                rw [← hu] at ub
                rw [← hv] at vb
                obtain ⟨u0, u1⟩ := ub
                obtain ⟨v0, v1⟩ := vb
                clear hu hv hXY hiX hiY hil
                go_wp2_with fail
                go_region_with (go_at_call 14; refine (mulmod_any _ _ _ u0 u1 v0 v1).mono ?_; rintro e w6 ⟨rfl, rfl⟩)
                all_goals
                  go_wp2_with fail
                  go_roundw
                  case rel => exact ⟨i + 1, by go_num, by omega, hnext.drew, (hbr2.set_ne _ (Ne.symm hne) _).drew, (hcr.setCell _ (by simp) _).drew⟩
                  case measure => simp [intOf]; omega
              · have hie : i = n := by omega
                subst hie
                go_wp2_with fail
                go_meet
                rw [← HXl.out, zipTo_all X Y hXY] at hbr
                exact ⟨hbr, hcr⟩
          case rest =>
            obtain ⟨hb5, hc5⟩ := hcut
            clear hb34 hb4 hch4
            go_wp2_with fail
            refine (HI.out _ _ hb5).mono ?_
            rintro e w6 ⟨rfl, hb6, hc6⟩
            have hch6 : Chg [] w w6 := (hc5.trans (hc6.mono (by simp))).drop (by simp; omega)
            have hda := hch6.dig ha (by simp)
            have hdb := hch6.dig hb (by simp)
            clear hb5 hc5 hc6 HI
            go_wp2_with fail
            refine (HC.out _ hda hdb).mono ?_
            rintro e w7 ⟨b3, rfl, hb7, hs7, hc7⟩
            have hb1 := hc7.blk hb6 (by simp)
            have hch7 : Chg [] w w7 := hch6.trans hc7
            rw [HZ.out] at hb7
            have hmm : ((m : Int) != (m : Int)) = false := by simp
            clear hda hdb hb6 hch6 hc7 HC
            go_wp2_with fail
            go_loopw [14] (fun x wr => ∃ i : Nat, x = .int .i64 i ∧ i ≤ m ∧ Blk wr b3 2 (I64 (List.take m Z)) ∧ Blk wr b1 25 (E Z) ∧ Chg [] w wr) (fun x _ => m - (intOf x).toNat)
            case atStart => exact ⟨0, rfl, by omega, hb7, hb1, hch7⟩
            case round =>
              clear hb7 hb1 hch7
              obtain ⟨i, rfl, hi, hbr, hb1r, hcr⟩ := hrel
              by_cases hin : i < m
              · have hiZ : i < Z.length := by rw [HZl.out]; omega
                obtain ⟨u, hu⟩ : ∃ u, u = Z.getD i 0 := ⟨_, rfl⟩
                have ub := hZw i hiZ
                have k0 : wr.cell? ⟨b1, i, none⟩ = some (.int .u32 u) := by rw [hu]; exact hb1r.cell _ _ (E_get _ _ hiZ)
                have k1 : wr.cell? ⟨b3, i, none⟩ = some (.int .i64 u) := by
                  have := hbr.cell _ _ (I64_get _ i (show i < (List.take m Z).length by simp; omega))
                  rw [this, hu]
                  simp [hin]
                rw [← hu] at ub
                obtain ⟨u0, u1⟩ := ub
                have huu : (u != u) = false := by simp
                have hin2 : i < n := by omega
                clear hu hiZ
                go_wp2_with fail
                go_region
                go_wp2_with fail
                go_roundw
                case rel => exact ⟨i + 1, by go_num, by omega, hbr.drew, hb1r.drew, hcr.drew⟩
                case measure => simp [intOf]; omega
              · go_wp2_with fail
                go_ret
                exact ⟨rfl, hcr⟩

theorem law_short (a0 a1 : Option Addr) (l0 c0 l1 c1 : Nat) (w : World) (h0 : l0 ≤ 9223372036854775807) (h1 : l1 ≤ 9223372036854775807) (h : l0 = 0 ∨ l1 = 0 ∨ 512 < l0 ∨ 512 < l1) :
    Calls Takg.prog 3 #[.slice a0 l0 c0, .slice a1 l1 c1] w fun e w' => e = .returned (.bool true) ∧ Chg [] w w' := by
  by_cases z0 : l0 = 0
  · subst z0
    go_enter Takg.func3, Takg.ntmps3
    go_wp2_with fail
    go_ret
    exact ⟨rfl, Chg.refl _ _⟩
  · have b0 : ((l0 : Int) == 0) = false := by rw [beq_eq_false_iff_ne]; omega
    by_cases z1 : l1 = 0
    · subst z1
      go_enter Takg.func3, Takg.ntmps3
      go_wp2_with fail
      go_ret
      exact ⟨rfl, Chg.refl _ _⟩
    · have b1 : ((l1 : Int) == 0) = false := by rw [beq_eq_false_iff_ne]; omega
      by_cases g0 : 512 < l0
      · clear h
        go_enter Takg.func3, Takg.ntmps3
        go_wp2_with fail
        go_ret
        exact ⟨rfl, Chg.refl _ _⟩
      · have g1 : 512 < l1 := by omega
        clear h
        go_enter Takg.func3, Takg.ntmps3
        go_wp2_with fail
        go_ret
        exact ⟨rfl, Chg.refl _ _⟩
end Ntt
end Go.Proofs.Ygctak
