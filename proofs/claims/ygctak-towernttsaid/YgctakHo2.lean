/-
  Walk: (*Acc).place.
-/
import Derived.Test.YgctakHo1
namespace Go.Proofs.Ygctak
open Go.RowKit
set_option linter.unusedVariables false
set_option linter.unusedSimpArgs false
attribute [local go_sem ↓] Go.wp_at_zero Go.wp_at_succ
namespace Ac

/-- The first k words of y, the others of z. -/
def mix (y z : Int) (k j : Nat) : Int := if j < k then word y j else word z j
theorem mix_next (y z : Int) (k : Nat) (v : Int) (h : word y k = v) : upd (mix y z k) k v = mix y z (k + 1) := by
  funext j
  unfold upd mix
  by_cases e : j = k
  · subst e; rw [if_pos rfl, if_pos (by omega), h]
  · rw [if_neg e]
    by_cases e2 : j < k
    · rw [if_pos e2, if_pos (by omega)]
    · rw [if_neg e2, if_neg (by omega)]
theorem At.mixNext {w : World} {b o : Nat} {t : TypeId} {p s : List Value} {y z : Int} {k : Nat} (h : At w b o t p (Wd (mix y z k)) s) (hk : k < 68) (v : Int) (hv : word y k = v) :
    At (w.setCell ⟨b, o + k, none⟩ (.int .u64 v)) b o t p (Wd (mix y z (k + 1))) s := by
  have := h.set k hk v
  rwa [mix_next y z k v hv] at this
theorem At.mixCell {w : World} {b o : Nat} {t : TypeId} {p s : List Value} {y z : Int} {k : Nat} (h : At w b o t p (Wd (mix y z k)) s) (hk : k < 68) : w.cell? ⟨b, o + k, none⟩ = some (.int .u64 (word z k)) := by
  rw [h.cell k hk, mix, if_neg (by omega)]

/-- The words p, q, r of place. -/
def PQR (lo : Int) (q s : Nat) (i : Int) (p1 p2 p3 : Int) : Prop := p1 = word (lo * 2 ^ (64 * q + s)) q ∧ p2 = word (lo * 2 ^ (64 * q + s)) (q + 1) ∧ p3 = word (lo * 2 ^ (64 * q + s)) (q + 2)

theorem or_zero (x : Int) (h0 : 0 ≤ x) (h1 : x ≤ 18446744073709551615) : bits BinOp.or IntKind.u64 0 x = x := by
  obtain ⟨n, rfl⟩ := Int.eq_ofNat_of_zero_le h0
  have := bits_or_u64_nat 0 n (by decide) (by omega)
  simpa using this

set_option maxRecDepth 100000 in
set_option maxHeartbeats 1000000 in
/-- (*Acc).place, true: the words behind region 1. -/
theorem place_neg (b o t : Nat) (p s : List Value) (z lo : Int) (q sh : Nat) (i : Int) (w : World) (l0 : 0 ≤ lo) (l1 : lo ≤ 18446744073709551615) (hs : sh < 64) (hq : q ≤ 65) (hi : i = 64 * q + sh) (ha : At w b o t p (W z) s) :
    Calls Takg.prog 150 #[.pointer (some ⟨b, o, none⟩), .bool true, .int .u64 0, .int .u64 lo, .int .i64 i] w fun e w' => e = .returned (.tuple #[]) ∧ At w' b o t p (W (z - lo * 2 ^ (64 * q + sh))) s ∧ Chg [b] w w' := by
  have hqi : i / 64 = (q : Int) := by omega
  have hri : i % 64 = (sh : Int) := by omega
  have i0 : 0 ≤ i := by omega
  have i1 : i ≤ 10000 := by omega
  obtain ⟨X, hX⟩ : ∃ X, X = lo * 2 ^ (64 * q + sh) := ⟨_, rfl⟩
  have w1 : word X q = lo * 2 ^ sh % 18446744073709551616 := by rw [hX]; exact put_at lo q sh
  have w2 : word X (q + 1) = lo / 2 ^ (64 - sh) := by rw [hX]; exact put_next lo q sh l0 l1 hs
  have w3 : word X (q + 2) = 0 := by rw [hX]; exact put_high lo q sh _ l0 l1 hs (Nat.le_refl _)
  have hlow := borrow_low z X q (fun j hj => by rw [hX]; exact put_low lo q sh j hj)
  have hhigh : ∀ k, q + 3 ≤ k → borrow z X k = 0 → ∀ j, k ≤ j → word (z - X) j = word z j := fun k hk hc j hj => (borrow_high z X k hc (fun j hj => by rw [hX]; exact put_high lo q sh j l0 l1 hs (by omega)) j hj).2
  have hzero : ∀ k, q + 3 ≤ k → word X k = 0 := fun k hk => by rw [hX]; exact put_high lo q sh k l0 l1 hs (by omega)
  rw [← hX]
  have hb2 : 0 ≤ lo / 2 ^ (64 - sh) ∧ lo / 2 ^ (64 - sh) ≤ 18446744073709551615 := by rw [← w2]; exact word_bd X (q + 1)
  have HW1 := hide w1
  have HW2 := hide w2
  have HW3 := hide w3
  have HLOW := hide hlow
  have HHIGH := hide hhigh
  have HZ := hide hzero
  clear w1 w2 w3 hlow hhigh hzero hX hi
  go_enter Takg.func150, Takg.ntmps150
  go_upto_region 0 with fail
  go_cut [10, 11] (fun x y wc => x = .int .i64 q ∧ y = .int .i64 sh ∧ w = wc)
  case first =>
    go_wp2_with fail
    go_meet
    exact ⟨by rw [hqi], by rw [hri], rfl⟩
  case rest =>
    obtain ⟨rfl, rfl, rfl⟩ := hcut
    clear hqi hri
    obtain ⟨b2, b3⟩ := hb2
    go_upto_region 1 with fail
    go_cut [12, 13, 14] (fun x y v wc => x = .int .u64 (word X q) ∧ y = .int .u64 (word X (q + 1)) ∧ v = .int .u64 (word X (q + 2)) ∧ At wc b o t p (W z) s ∧ Chg [b] w wc)
    case first =>
      go_wp2_with fail
      go_region
      all_goals
        go_wp2_with fail
        go_meet
        exact ⟨by rw [HW1.out, IntKind.wrap_u64], by rw [HW2.out]; first | rfl | (congr 1; exact or_zero _ b2 b3), by rw [HW3.out], ha.drew, (Chg.refl _ _).drew⟩
    case rest =>
      clear ha b2 b3 HW1 HW2 HW3
      obtain ⟨rfl, rfl, rfl, ha, hc⟩ := hcut
      obtain ⟨p10, p11⟩ := word_bd X q
      obtain ⟨p20, p21⟩ := word_bd X (q + 1)
      obtain ⟨p30, p31⟩ := word_bd X (q + 2)
      obtain ⟨p1, hp1⟩ : ∃ v, Hid (v = word X q) := ⟨_, hide rfl⟩
      obtain ⟨p2, hp2⟩ : ∃ v, Hid (v = word X (q + 1)) := ⟨_, hide rfl⟩
      obtain ⟨p3, hp3⟩ : ∃ v, Hid (v = word X (q + 2)) := ⟨_, hide rfl⟩
      rw [← hp1.out] at p10 p11 ⊢
      rw [← hp2.out] at p20 p21 ⊢
      rw [← hp3.out] at p30 p31 ⊢
      replace ha : At wc b o t p (Wd (mix (z - X) z q)) s := by
        have e : Wd (mix (z - X) z q) = W z := Wd_congr (fun j hj => by
          unfold mix
          by_cases h : j < q
          · rw [if_pos h]; exact HLOW.out.2 j h
          · rw [if_neg h])
        rw [e]; exact ha
      go_upto_region 4 with fail
      go_cut [15] (fun v wd => v = .int .u64 (borrow z X (q + 1)) ∧ At wd b o t p (Wd (mix (z - X) z (q + 1))) s ∧ Chg [b] w wd)
      case first =>
        have k0 := ha.mixCell (show q < 68 by omega)
        have f0 := ha.blk.frozen (o + (q)) none
        have ub := word_bd z (q)
        obtain ⟨u, hu⟩ : ∃ v, v = word z (q) := ⟨_, rfl⟩
        have cz : borrow z X q = 0 := HLOW.out.1
        have hw : word (z - X) (q) = (u - p1 - 0) % 18446744073709551616 := by rw [hu, hp1.out, word_sub, cz]
        have hcn : borrow z X (q + 1) = -((u - p1 - 0) / 18446744073709551616) := by rw [hu, hp1.out, borrow_next, cz]
        rw [← hu] at k0 ub
        obtain ⟨u0, u1⟩ := ub
        have HC := hide (fun W : World => sub_any u p1 0 W u0 u1 p10 p11 (by decide) (by decide))
        obtain ⟨r1, hr1⟩ : ∃ r, r = (u - p1 - 0) % 18446744073709551616 := ⟨_, rfl⟩
        obtain ⟨r2, hr2⟩ : ∃ r, r = -((u - p1 - 0) / 18446744073709551616) := ⟨_, rfl⟩
        rw [← hr1, ← hr2] at HC
        rw [← hr1] at hw
        rw [← hr2] at hcn
        have hnext := ha.mixNext (show q < 68 by omega) r1 hw
        have HCN := hide hcn
        clear hr1 hr2 hw hcn hu cz
        go_wp2_with fail
        go_region_with (go_at_call 106; refine (HC.out _).mono ?_; rintro e w' ⟨rfl, rfl⟩)
        all_goals
          go_wp2_with fail
          go_meet
          exact ⟨by rw [HCN.out], hnext.drew, (hc.setCell _ (by simp) _).drew⟩
      case rest =>
        clear ha hc
        obtain ⟨rfl, ha, hc⟩ := hcut
        go_upto_region 5 with fail
        go_cut [15] (fun v wd => v = .int .u64 (borrow z X (q + 2)) ∧ At wd b o t p (Wd (mix (z - X) z (q + 2))) s ∧ Chg [b] w wd)
        case first =>
          have k0 := ha.mixCell (show q + 1 < 68 by omega)
          have f0 := ha.blk.frozen (o + (q + 1)) none
          have ub := word_bd z (q + 1)
          obtain ⟨u, hu⟩ : ∃ v, v = word z (q + 1) := ⟨_, rfl⟩
          have cb := borrow_bd z X (q + 1)
          obtain ⟨c, hcc⟩ : ∃ v, v = borrow z X (q + 1) := ⟨_, rfl⟩
          have hw : word (z - X) (q + 1) = (u - p2 - c) % 18446744073709551616 := by rw [hu, hp2.out, hcc, word_sub]
          have hcn : borrow z X (q + 2) = -((u - p2 - c) / 18446744073709551616) := by rw [hu, hp2.out, hcc]; exact borrow_next z X (q + 1)
          rw [← hcc] at cb ⊢
          obtain ⟨c0, c1⟩ := cb
          rw [← hu] at k0 ub
          obtain ⟨u0, u1⟩ := ub
          have HC := hide (fun W : World => sub_any u p2 c W u0 u1 p20 p21 c0 c1)
          obtain ⟨r1, hr1⟩ : ∃ r, r = (u - p2 - c) % 18446744073709551616 := ⟨_, rfl⟩
          obtain ⟨r2, hr2⟩ : ∃ r, r = -((u - p2 - c) / 18446744073709551616) := ⟨_, rfl⟩
          rw [← hr1, ← hr2] at HC
          rw [← hr1] at hw
          rw [← hr2] at hcn
          have hnext := ha.mixNext (show q + 1 < 68 by omega) r1 hw
          have HCN := hide hcn
          clear hr1 hr2 hw hcn hu hcc
          have i4 : IntKind.i64.wrap ((q : Int) + 1) = ((q + 1 : Nat) : Int) := by rw [IntKind.wrap_i64]; omega
          have i5 : ((q : Int) + 1).toNat = q + 1 := by omega
          go_wp2_with fail
          go_region_with (go_at_call 106; refine (HC.out _).mono ?_; rintro e w' ⟨rfl, rfl⟩)
          all_goals
            go_wp2_with fail
            go_meet
            exact ⟨by rw [HCN.out], hnext.drew, (hc.setCell _ (by simp) _).drew⟩
        case rest =>
          clear ha hc
          obtain ⟨rfl, ha, hc⟩ := hcut
          go_upto_region 6 with fail
          go_cut [15] (fun v wd => v = .int .u64 (borrow z X (q + 3)) ∧ At wd b o t p (Wd (mix (z - X) z (q + 3))) s ∧ Chg [b] w wd)
          case first =>
            have k0 := ha.mixCell (show q + 2 < 68 by omega)
            have f0 := ha.blk.frozen (o + (q + 2)) none
            have ub := word_bd z (q + 2)
            obtain ⟨u, hu⟩ : ∃ v, v = word z (q + 2) := ⟨_, rfl⟩
            have cb := borrow_bd z X (q + 2)
            obtain ⟨c, hcc⟩ : ∃ v, v = borrow z X (q + 2) := ⟨_, rfl⟩
            have hw : word (z - X) (q + 2) = (u - p3 - c) % 18446744073709551616 := by rw [hu, hp3.out, hcc, word_sub]
            have hcn : borrow z X (q + 3) = -((u - p3 - c) / 18446744073709551616) := by rw [hu, hp3.out, hcc]; exact borrow_next z X (q + 2)
            rw [← hcc] at cb ⊢
            obtain ⟨c0, c1⟩ := cb
            rw [← hu] at k0 ub
            obtain ⟨u0, u1⟩ := ub
            have HC := hide (fun W : World => sub_any u p3 c W u0 u1 p30 p31 c0 c1)
            obtain ⟨r1, hr1⟩ : ∃ r, r = (u - p3 - c) % 18446744073709551616 := ⟨_, rfl⟩
            obtain ⟨r2, hr2⟩ : ∃ r, r = -((u - p3 - c) / 18446744073709551616) := ⟨_, rfl⟩
            rw [← hr1, ← hr2] at HC
            rw [← hr1] at hw
            rw [← hr2] at hcn
            have hnext := ha.mixNext (show q + 2 < 68 by omega) r1 hw
            have HCN := hide hcn
            clear hr1 hr2 hw hcn hu hcc
            have i4 : IntKind.i64.wrap ((q : Int) + 2) = ((q + 2 : Nat) : Int) := by rw [IntKind.wrap_i64]; omega
            have i5 : ((q : Int) + 2).toNat = q + 2 := by omega
            go_wp2_with fail
            go_region_with (go_at_call 106; refine (HC.out _).mono ?_; rintro e w' ⟨rfl, rfl⟩)
            all_goals
              go_wp2_with fail
              go_meet
              exact ⟨by rw [HCN.out], hnext.drew, (hc.setCell _ (by simp) _).drew⟩
          case rest =>
            clear ha hc
            obtain ⟨rfl, ha, hc⟩ := hcut
            go_wp2_with fail
            go_loopw [15, 16] (fun v i wr => ∃ k : Nat, v = .int .u64 (borrow z X k) ∧ i = .int .i64 k ∧ q + 3 ≤ k ∧ k ≤ 68 ∧ At wr b o t p (Wd (mix (z - X) z k)) s ∧ Chg [b] w wr) (fun _ i _ => 68 - (intOf i).toNat)
            case atStart => exact ⟨q + 3, rfl, by go_num, by omega, by omega, ha, hc⟩
            case round =>
              clear ha hc
              obtain ⟨k, rfl, rfl, hk3, hk, ha, hc⟩ := hrel
              have cb := borrow_bd z X k
              obtain ⟨c, hcc⟩ : ∃ v, v = borrow z X k := ⟨_, rfl⟩
              have done : c = 0 ∨ k = 68 → Wd (mix (z - X) z k) = W (z - X) := fun hd => Wd_congr (fun j hj => by
                unfold mix
                by_cases h : j < k
                · rw [if_pos h]
                · rw [if_neg h]
                  rcases hd with h1 | h1
                  · exact (HHIGH.out k hk3 (hcc ▸ h1) j (by omega)).symm
                  · omega)
              have hz := HZ.out k hk3
              have hw : word (z - X) k = (word z k - 0 - c) % 18446744073709551616 := by rw [hcc, word_sub, hz]
              have hcn : borrow z X (k + 1) = -((word z k - 0 - c) / 18446744073709551616) := by rw [hcc, ← hz]; exact borrow_next z X k
              rw [← hcc] at cb ⊢
              have HD := hide done
              clear hcc hz done
              by_cases hlt : k < 68
              · by_cases hc0 : c = 0
                · have e := HD.out (.inl hc0)
                  rw [e] at ha
                  subst hc0
                  clear hw hcn HD e
                  go_wp2_with fail
                  refine bodyPost_ret (results_none (by kernel_rfl) _ _ _) rfl ?_
                  exact ⟨rfl, ha, hc⟩
                · have hc1 : c = 1 := by omega
                  subst hc1
                  have k0 := ha.mixCell hlt
                  have f0 := ha.blk.frozen (o + k) none
                  have ub := word_bd z k
                  obtain ⟨u, hu⟩ : ∃ v, v = word z k := ⟨_, rfl⟩
                  rw [← hu] at k0 ub hw hcn
                  obtain ⟨u0, u1⟩ := ub
                  have HC := hide (fun W : World => sub_any u 0 1 W u0 u1 (by decide) (by decide) (by decide) (by decide))
                  obtain ⟨r1, hr1⟩ : ∃ r, r = (u - 0 - 1) % 18446744073709551616 := ⟨_, rfl⟩
                  obtain ⟨r2, hr2⟩ : ∃ r, r = -((u - 0 - 1) / 18446744073709551616) := ⟨_, rfl⟩
                  rw [← hr1, ← hr2] at HC
                  rw [← hr1] at hw
                  rw [← hr2] at hcn
                  have hnext := ha.mixNext hlt r1 hw
                  have HCN := hide hcn
                  clear hr1 hr2 hw hcn hu HD cb hc0
                  go_wp2_with fail
                  go_region_with (go_at_call 106; refine (HC.out _).mono ?_; rintro e w' ⟨rfl, rfl⟩)
                  all_goals
                    go_wp2_with fail
                    go_roundw
                    case rel => exact ⟨k + 1, by rw [HCN.out], by go_num, by omega, by omega, hnext.drew, (hc.setCell _ (by simp) _).drew⟩
                    case measure => simp [intOf]; omega
              · have hke : k = 68 := by omega
                have e := HD.out (.inr hke)
                rw [e] at ha
                subst hke
                clear hw hcn HD e
                go_wp2_with fail
                refine bodyPost_ret (results_none (by kernel_rfl) _ _ _) rfl ?_
                exact ⟨rfl, ha, hc⟩

set_option maxRecDepth 100000 in
set_option maxHeartbeats 1000000 in
/-- (*Acc).place, false: the words behind region 1. -/
theorem place_pos (b o t : Nat) (p s : List Value) (z lo : Int) (q sh : Nat) (i : Int) (w : World) (l0 : 0 ≤ lo) (l1 : lo ≤ 18446744073709551615) (hs : sh < 64) (hq : q ≤ 65) (hi : i = 64 * q + sh) (ha : At w b o t p (W z) s) :
    Calls Takg.prog 150 #[.pointer (some ⟨b, o, none⟩), .bool false, .int .u64 0, .int .u64 lo, .int .i64 i] w fun e w' => e = .returned (.tuple #[]) ∧ At w' b o t p (W (z + lo * 2 ^ (64 * q + sh))) s ∧ Chg [b] w w' := by
  have hqi : i / 64 = (q : Int) := by omega
  have hri : i % 64 = (sh : Int) := by omega
  have i0 : 0 ≤ i := by omega
  have i1 : i ≤ 10000 := by omega
  obtain ⟨X, hX⟩ : ∃ X, X = lo * 2 ^ (64 * q + sh) := ⟨_, rfl⟩
  have w1 : word X q = lo * 2 ^ sh % 18446744073709551616 := by rw [hX]; exact put_at lo q sh
  have w2 : word X (q + 1) = lo / 2 ^ (64 - sh) := by rw [hX]; exact put_next lo q sh l0 l1 hs
  have w3 : word X (q + 2) = 0 := by rw [hX]; exact put_high lo q sh _ l0 l1 hs (Nat.le_refl _)
  have hlow := carry_low z X q (fun j hj => by rw [hX]; exact put_low lo q sh j hj)
  have hhigh : ∀ k, q + 3 ≤ k → carry z X k = 0 → ∀ j, k ≤ j → word (z + X) j = word z j := fun k hk hc j hj => (carry_high z X k hc (fun j hj => by rw [hX]; exact put_high lo q sh j l0 l1 hs (by omega)) j hj).2
  have hzero : ∀ k, q + 3 ≤ k → word X k = 0 := fun k hk => by rw [hX]; exact put_high lo q sh k l0 l1 hs (by omega)
  rw [← hX]
  have hb2 : 0 ≤ lo / 2 ^ (64 - sh) ∧ lo / 2 ^ (64 - sh) ≤ 18446744073709551615 := by rw [← w2]; exact word_bd X (q + 1)
  have HW1 := hide w1
  have HW2 := hide w2
  have HW3 := hide w3
  have HLOW := hide hlow
  have HHIGH := hide hhigh
  have HZ := hide hzero
  clear w1 w2 w3 hlow hhigh hzero hX hi
  go_enter Takg.func150, Takg.ntmps150
  go_upto_region 0 with fail
  go_cut [10, 11] (fun x y wc => x = .int .i64 q ∧ y = .int .i64 sh ∧ w = wc)
  case first =>
    go_wp2_with fail
    go_meet
    exact ⟨by rw [hqi], by rw [hri], rfl⟩
  case rest =>
    obtain ⟨rfl, rfl, rfl⟩ := hcut
    clear hqi hri
    obtain ⟨b2, b3⟩ := hb2
    go_upto_region 1 with fail
    go_cut [12, 13, 14] (fun x y v wc => x = .int .u64 (word X q) ∧ y = .int .u64 (word X (q + 1)) ∧ v = .int .u64 (word X (q + 2)) ∧ At wc b o t p (W z) s ∧ Chg [b] w wc)
    case first =>
      go_wp2_with fail
      go_region
      all_goals
        go_wp2_with fail
        go_meet
        exact ⟨by rw [HW1.out, IntKind.wrap_u64], by rw [HW2.out]; first | rfl | (congr 1; exact or_zero _ b2 b3), by rw [HW3.out], ha.drew, (Chg.refl _ _).drew⟩
    case rest =>
      clear ha b2 b3 HW1 HW2 HW3
      obtain ⟨rfl, rfl, rfl, ha, hc⟩ := hcut
      obtain ⟨p10, p11⟩ := word_bd X q
      obtain ⟨p20, p21⟩ := word_bd X (q + 1)
      obtain ⟨p30, p31⟩ := word_bd X (q + 2)
      obtain ⟨p1, hp1⟩ : ∃ v, Hid (v = word X q) := ⟨_, hide rfl⟩
      obtain ⟨p2, hp2⟩ : ∃ v, Hid (v = word X (q + 1)) := ⟨_, hide rfl⟩
      obtain ⟨p3, hp3⟩ : ∃ v, Hid (v = word X (q + 2)) := ⟨_, hide rfl⟩
      rw [← hp1.out] at p10 p11 ⊢
      rw [← hp2.out] at p20 p21 ⊢
      rw [← hp3.out] at p30 p31 ⊢
      replace ha : At wc b o t p (Wd (mix (z + X) z q)) s := by
        have e : Wd (mix (z + X) z q) = W z := Wd_congr (fun j hj => by
          unfold mix
          by_cases h : j < q
          · rw [if_pos h]; exact HLOW.out.2 j h
          · rw [if_neg h])
        rw [e]; exact ha
      go_upto_region 11 with fail
      go_cut [15] (fun v wd => v = .int .u64 (carry z X (q + 1)) ∧ At wd b o t p (Wd (mix (z + X) z (q + 1))) s ∧ Chg [b] w wd)
      case first =>
        have k0 := ha.mixCell (show q < 68 by omega)
        have f0 := ha.blk.frozen (o + (q)) none
        have ub := word_bd z (q)
        obtain ⟨u, hu⟩ : ∃ v, v = word z (q) := ⟨_, rfl⟩
        have cz : carry z X q = 0 := HLOW.out.1
        have hw : word (z + X) (q) = (u + p1 + 0) % 18446744073709551616 := by rw [hu, hp1.out, word_add, cz]
        have hcn : carry z X (q + 1) = ((u + p1 + 0) / 18446744073709551616) := by rw [hu, hp1.out, carry_next, cz]
        rw [← hu] at k0 ub
        obtain ⟨u0, u1⟩ := ub
        have HC := hide (fun W : World => add_any u p1 0 W u0 p10 (by decide) (by decide))
        obtain ⟨r1, hr1⟩ : ∃ r, r = (u + p1 + 0) % 18446744073709551616 := ⟨_, rfl⟩
        obtain ⟨r2, hr2⟩ : ∃ r, r = ((u + p1 + 0) / 18446744073709551616) := ⟨_, rfl⟩
        rw [← hr1, ← hr2] at HC
        rw [← hr1] at hw
        rw [← hr2] at hcn
        have hnext := ha.mixNext (show q < 68 by omega) r1 hw
        have HCN := hide hcn
        clear hr1 hr2 hw hcn hu cz
        go_wp2_with fail
        go_region_with (go_at_call 102; refine (HC.out _).mono ?_; rintro e w' ⟨rfl, rfl⟩)
        all_goals
          go_wp2_with fail
          go_meet
          exact ⟨by rw [HCN.out], hnext.drew, (hc.setCell _ (by simp) _).drew⟩
      case rest =>
        clear ha hc
        obtain ⟨rfl, ha, hc⟩ := hcut
        go_upto_region 12 with fail
        go_cut [15] (fun v wd => v = .int .u64 (carry z X (q + 2)) ∧ At wd b o t p (Wd (mix (z + X) z (q + 2))) s ∧ Chg [b] w wd)
        case first =>
          have k0 := ha.mixCell (show q + 1 < 68 by omega)
          have f0 := ha.blk.frozen (o + (q + 1)) none
          have ub := word_bd z (q + 1)
          obtain ⟨u, hu⟩ : ∃ v, v = word z (q + 1) := ⟨_, rfl⟩
          have cb := carry_bd z X (q + 1)
          obtain ⟨c, hcc⟩ : ∃ v, v = carry z X (q + 1) := ⟨_, rfl⟩
          have hw : word (z + X) (q + 1) = (u + p2 + c) % 18446744073709551616 := by rw [hu, hp2.out, hcc, word_add]
          have hcn : carry z X (q + 2) = ((u + p2 + c) / 18446744073709551616) := by rw [hu, hp2.out, hcc]; exact carry_next z X (q + 1)
          rw [← hcc] at cb ⊢
          obtain ⟨c0, c1⟩ := cb
          rw [← hu] at k0 ub
          obtain ⟨u0, u1⟩ := ub
          have HC := hide (fun W : World => add_any u p2 c W u0 p20 c0 c1)
          obtain ⟨r1, hr1⟩ : ∃ r, r = (u + p2 + c) % 18446744073709551616 := ⟨_, rfl⟩
          obtain ⟨r2, hr2⟩ : ∃ r, r = ((u + p2 + c) / 18446744073709551616) := ⟨_, rfl⟩
          rw [← hr1, ← hr2] at HC
          rw [← hr1] at hw
          rw [← hr2] at hcn
          have hnext := ha.mixNext (show q + 1 < 68 by omega) r1 hw
          have HCN := hide hcn
          clear hr1 hr2 hw hcn hu hcc
          have i4 : IntKind.i64.wrap ((q : Int) + 1) = ((q + 1 : Nat) : Int) := by rw [IntKind.wrap_i64]; omega
          have i5 : ((q : Int) + 1).toNat = q + 1 := by omega
          go_wp2_with fail
          go_region_with (go_at_call 102; refine (HC.out _).mono ?_; rintro e w' ⟨rfl, rfl⟩)
          all_goals
            go_wp2_with fail
            go_meet
            exact ⟨by rw [HCN.out], hnext.drew, (hc.setCell _ (by simp) _).drew⟩
        case rest =>
          clear ha hc
          obtain ⟨rfl, ha, hc⟩ := hcut
          go_upto_region 13 with fail
          go_cut [15] (fun v wd => v = .int .u64 (carry z X (q + 3)) ∧ At wd b o t p (Wd (mix (z + X) z (q + 3))) s ∧ Chg [b] w wd)
          case first =>
            have k0 := ha.mixCell (show q + 2 < 68 by omega)
            have f0 := ha.blk.frozen (o + (q + 2)) none
            have ub := word_bd z (q + 2)
            obtain ⟨u, hu⟩ : ∃ v, v = word z (q + 2) := ⟨_, rfl⟩
            have cb := carry_bd z X (q + 2)
            obtain ⟨c, hcc⟩ : ∃ v, v = carry z X (q + 2) := ⟨_, rfl⟩
            have hw : word (z + X) (q + 2) = (u + p3 + c) % 18446744073709551616 := by rw [hu, hp3.out, hcc, word_add]
            have hcn : carry z X (q + 3) = ((u + p3 + c) / 18446744073709551616) := by rw [hu, hp3.out, hcc]; exact carry_next z X (q + 2)
            rw [← hcc] at cb ⊢
            obtain ⟨c0, c1⟩ := cb
            rw [← hu] at k0 ub
            obtain ⟨u0, u1⟩ := ub
            have HC := hide (fun W : World => add_any u p3 c W u0 p30 c0 c1)
            obtain ⟨r1, hr1⟩ : ∃ r, r = (u + p3 + c) % 18446744073709551616 := ⟨_, rfl⟩
            obtain ⟨r2, hr2⟩ : ∃ r, r = ((u + p3 + c) / 18446744073709551616) := ⟨_, rfl⟩
            rw [← hr1, ← hr2] at HC
            rw [← hr1] at hw
            rw [← hr2] at hcn
            have hnext := ha.mixNext (show q + 2 < 68 by omega) r1 hw
            have HCN := hide hcn
            clear hr1 hr2 hw hcn hu hcc
            have i4 : IntKind.i64.wrap ((q : Int) + 2) = ((q + 2 : Nat) : Int) := by rw [IntKind.wrap_i64]; omega
            have i5 : ((q : Int) + 2).toNat = q + 2 := by omega
            go_wp2_with fail
            go_region_with (go_at_call 102; refine (HC.out _).mono ?_; rintro e w' ⟨rfl, rfl⟩)
            all_goals
              go_wp2_with fail
              go_meet
              exact ⟨by rw [HCN.out], hnext.drew, (hc.setCell _ (by simp) _).drew⟩
          case rest =>
            clear ha hc
            obtain ⟨rfl, ha, hc⟩ := hcut
            go_wp2_with fail
            go_loopw [15, 17] (fun v i wr => ∃ k : Nat, v = .int .u64 (carry z X k) ∧ i = .int .i64 k ∧ q + 3 ≤ k ∧ k ≤ 68 ∧ At wr b o t p (Wd (mix (z + X) z k)) s ∧ Chg [b] w wr) (fun _ i _ => 68 - (intOf i).toNat)
            case atStart => exact ⟨q + 3, rfl, by go_num, by omega, by omega, ha, hc⟩
            case round =>
              clear ha hc
              obtain ⟨k, rfl, rfl, hk3, hk, ha, hc⟩ := hrel
              have cb := carry_bd z X k
              obtain ⟨c, hcc⟩ : ∃ v, v = carry z X k := ⟨_, rfl⟩
              have done : c = 0 ∨ k = 68 → Wd (mix (z + X) z k) = W (z + X) := fun hd => Wd_congr (fun j hj => by
                unfold mix
                by_cases h : j < k
                · rw [if_pos h]
                · rw [if_neg h]
                  rcases hd with h1 | h1
                  · exact (HHIGH.out k hk3 (hcc ▸ h1) j (by omega)).symm
                  · omega)
              have hz := HZ.out k hk3
              have hw : word (z + X) k = (word z k + 0 + c) % 18446744073709551616 := by rw [hcc, word_add, hz]
              have hcn : carry z X (k + 1) = ((word z k + 0 + c) / 18446744073709551616) := by rw [hcc, ← hz]; exact carry_next z X k
              rw [← hcc] at cb ⊢
              have HD := hide done
              clear hcc hz done
              by_cases hlt : k < 68
              · by_cases hc0 : c = 0
                · have e := HD.out (.inl hc0)
                  rw [e] at ha
                  subst hc0
                  clear hw hcn HD e
                  go_wp2_with fail
                  go_end0
                  exact ⟨rfl, ha, hc⟩
                · have hc1 : c = 1 := by omega
                  subst hc1
                  have k0 := ha.mixCell hlt
                  have f0 := ha.blk.frozen (o + k) none
                  have ub := word_bd z k
                  obtain ⟨u, hu⟩ : ∃ v, v = word z k := ⟨_, rfl⟩
                  rw [← hu] at k0 ub hw hcn
                  obtain ⟨u0, u1⟩ := ub
                  have HC := hide (fun W : World => add_any u 0 1 W u0 (by decide) (by decide) (by decide))
                  obtain ⟨r1, hr1⟩ : ∃ r, r = (u + 0 + 1) % 18446744073709551616 := ⟨_, rfl⟩
                  obtain ⟨r2, hr2⟩ : ∃ r, r = ((u + 0 + 1) / 18446744073709551616) := ⟨_, rfl⟩
                  rw [← hr1, ← hr2] at HC
                  rw [← hr1] at hw
                  rw [← hr2] at hcn
                  have hnext := ha.mixNext hlt r1 hw
                  have HCN := hide hcn
                  clear hr1 hr2 hw hcn hu HD cb hc0
                  go_wp2_with fail
                  go_region_with (go_at_call 102; refine (HC.out _).mono ?_; rintro e w' ⟨rfl, rfl⟩)
                  all_goals
                    go_wp2_with fail
                    go_roundw
                    case rel => exact ⟨k + 1, by rw [HCN.out], by go_num, by omega, by omega, hnext.drew, (hc.setCell _ (by simp) _).drew⟩
                    case measure => simp [intOf]; omega
              · have hke : k = 68 := by omega
                have e := HD.out (.inr hke)
                rw [e] at ha
                subst hke
                clear hw hcn HD e
                go_wp2_with fail
                go_end0
                exact ⟨rfl, ha, hc⟩
end Ac
end Go.Proofs.Ygctak
