/-
  Walks: Convolve.
-/
import Derived.Test.YgctakNtt8
namespace Go.Proofs.Ygctak
open Go.RowKit
set_option linter.unusedVariables false
set_option linter.unusedSimpArgs false
attribute [local go_sem ↓] Go.wp_at_zero Go.wp_at_succ
namespace Ntt

/-- The least k from k on with m ≤ 2^k. -/
def lev : Nat → Nat → Nat → Nat
  | 0, k, _ => k
  | f + 1, k, m => if 2 ^ k < m then lev f (k + 1) m else k
theorem lev_spec (m : Nat) (hm : m ≤ 1024) : ∀ f k, k + f = 10 → k ≤ lev f k m ∧ lev f k m ≤ 10 ∧ m ≤ 2 ^ lev f k m := by
  intro f
  induction f with
  | zero => intro k h; have hk : k = 10 := by omega
            subst hk; exact ⟨Nat.le_refl _, Nat.le_refl _, hm⟩
  | succ f ih =>
    intro k h
    unfold lev
    split
    · obtain ⟨a, b, c⟩ := ih (k + 1) (by omega); exact ⟨by omega, b, c⟩
    · exact ⟨Nat.le_refl _, by omega, by omega⟩
def levOf (m : Nat) : Nat := lev 9 1 m
theorem lev_stop (f k m : Nat) (h : ¬ 2 ^ k < m) : lev f k m = k := by cases f <;> simp [lev, h]
theorem lev_step (f k m : Nat) (h : 2 ^ k < m) : lev (f + 1) k m = lev f (k + 1) m := by simp [lev, h]

def zipTo (xs ys : List Int) (i : Nat) : List Int := (List.zipWith mulm xs ys).take i ++ xs.drop i
theorem zipTo_length (xs ys : List Int) (i : Nat) (h : xs.length = ys.length) (hi : i ≤ xs.length) : (zipTo xs ys i).length = xs.length := by simp [zipTo]; omega
theorem zipTo_get (xs ys : List Int) (i : Nat) (h : xs.length = ys.length) (hi : i < xs.length) : (zipTo xs ys i).getD i 0 = xs.getD i 0 := by
  have hl : ((List.zipWith mulm xs ys).take i).length = i := by simp; omega
  simp only [zipTo, List.getD_eq_getElem?_getD]
  rw [List.getElem?_append_right (by omega), hl, Nat.sub_self]
  simp
theorem zipTo_set (xs ys : List Int) (i : Nat) (h : xs.length = ys.length) (hi : i < xs.length) : (zipTo xs ys i).set i (mulm (xs.getD i 0) (ys.getD i 0)) = zipTo xs ys (i + 1) := by
  have hl : ((List.zipWith mulm xs ys).take i).length = i := by simp; omega
  have hz : i < (List.zipWith mulm xs ys).length := by simp; omega
  unfold zipTo
  rw [List.set_append_right _ _ (by omega), hl, Nat.sub_self, List.take_succ_eq_append_getElem hz, List.append_assoc, List.drop_eq_getElem_cons hi, List.set_cons_zero]
  simp [hi, show i < ys.length by omega]
theorem zipTo_all (xs ys : List Int) (h : xs.length = ys.length) : zipTo xs ys xs.length = List.zipWith mulm xs ys := by
  unfold zipTo
  rw [List.take_of_length_le (by simp; omega), List.drop_length, List.append_nil]
theorem zip_lt (xs ys : List Int) : Lt 998244353 (List.zipWith mulm xs ys) := by
  intro i hi
  have h1 : i < xs.length := by simp at hi; omega
  have h2 : i < ys.length := by simp at hi; omega
  have := mulm_bd xs[i] ys[i]
  rw [List.getD_eq_getElem?_getD, List.getElem?_eq_getElem hi, List.getElem_zipWith]
  simp only [Option.getD_some]
  omega

theorem pad_length (ds : List Int) (n : Nat) (h : ds.length ≤ n) : (pad ds n).length = n := padTo_length _ _ _ (Nat.le_refl _) h
theorem pad_lt (ds : List Int) (n : Nat) (h : Byte ds) : Lt 998244353 (pad ds n) := by
  intro i hi
  simp only [pad, padTo, List.take_length] at *
  rcases Nat.lt_or_ge i ds.length with hl | hl
  · have := h i hl
    simp only [List.getD_eq_getElem?_getD] at *
    rw [List.getElem?_append_left hl]
    omega
  · simp only [List.getD_eq_getElem?_getD]
    rw [List.getElem?_append_right hl, List.getElem?_replicate]
    split <;> simp
theorem lt_word {xs : List Int} (h : Lt 998244353 xs) : Word xs := fun j hj => by have := h j hj; omega

/-- The whole of the vector that Convolve leaves. -/
def convFull (xa xb : List Int) (k : Nat) : List Int := bwd (List.zipWith mulm (fwd (pad xa (2 ^ k)) k) (fwd (pad xb (2 ^ k)) k)) k

def I64 (xs : List Int) : List Value := xs.map (Value.int .i64)
theorem I64_get (xs : List Int) (i : Nat) (h : i < xs.length) : (I64 xs)[i]? = some (.int .i64 (xs.getD i 0)) := by simp [I64, h]
theorem I64_set (xs : List Int) (i : Nat) (v : Int) : (I64 xs).set i (.int .i64 v) = I64 (xs.set i v) := by simp [I64, List.map_set]

theorem bwd_keep (xs : List Int) (k : Nat) (hn : xs.length = 2 ^ k) (hx : Word xs) : (bwd xs k).length = 2 ^ k ∧ Word (bwd xs k) := by
  obtain ⟨a, b⟩ := trans_keep xs k (inv (root k)) hn hx
  unfold bwd
  exact ⟨by rw [List.length_map, a], b.map _ fun v _ _ => fold_bd (times_bd _ _ _).1 (times_bd _ _ _).2⟩
theorem convFull_keep (xa xb : List Int) (k : Nat) (ha : xa.length ≤ 2 ^ k) (hb : xb.length ≤ 2 ^ k) (ba : Byte xa) (bb : Byte xb) : (convFull xa xb k).length = 2 ^ k ∧ Word (convFull xa xb k) := by
  have h1 := (trans_keep (pad xa (2 ^ k)) k (root k) (pad_length _ _ ha) (lt_word (pad_lt _ _ ba))).1
  have h2 := (trans_keep (pad xb (2 ^ k)) k (root k) (pad_length _ _ hb) (lt_word (pad_lt _ _ bb))).1
  refine bwd_keep _ k ?_ (lt_word (zip_lt _ _))
  unfold fwd
  rw [List.length_zipWith, h1, h2, Nat.min_self]

theorem info2 : (Takg.prog.info? 2).map (fun i => (i.zero, i.size, i.bytes)) = some (some (.int .i64 0), 1, 8) := by kernel_rfl

set_option maxRecDepth 100000 in
set_option maxHeartbeats 2000000 in
theorem Convolve_any (ba oa ca bb ob cb : Nat) (xa xb : List Int) (w : World) (ha : Dig w ba oa xa) (hb : Dig w bb ob xb) (hab : Byte xa) (hbb : Byte xb)
    (la0 : 1 ≤ xa.length) (la1 : xa.length ≤ 512) (lb0 : 1 ≤ xb.length) (lb1 : xb.length ≤ 512) :
    Calls Takg.prog 16 #[.slice (some ⟨ba, oa, none⟩) xa.length ca, .slice (some ⟨bb, ob, none⟩) xb.length cb] w fun e w' =>
      ∃ bc, e = .returned (.tuple #[.slice (some ⟨bc, 0, none⟩) (xa.length + xb.length - 1) (xa.length + xb.length - 1), .bool true]) ∧
        Blk w' bc 2 (I64 ((convFull xa xb (levOf (xa.length + xb.length - 1))).take (xa.length + xb.length - 1))) ∧ w.heap.size ≤ bc ∧ Chg [] w w' := by
  obtain ⟨m, hm⟩ : ∃ m, m = xa.length + xb.length - 1 := ⟨_, rfl⟩
  have hm1 : m ≤ 1023 := by omega
  have hma : xa.length ≤ m := by omega
  have hmb : xb.length ≤ m := by omega
  have hml : m + 1 ≤ xa.length + xb.length := by omega
  have hmg : xa.length + xb.length ≤ m + 1 := by omega
  have hmi : (xa.length : Int) + (xb.length : Int) - 1 = (m : Int) := by omega
  obtain ⟨k, hk⟩ : ∃ k, k = levOf m := ⟨_, rfl⟩
  have hks := lev_spec m (by omega) 9 1 rfl
  rw [show lev 9 1 m = k from hk.symm] at hks
  obtain ⟨hk1, hk10, hmk⟩ := hks
  rw [← hm, ← hk]
  have za : ((xa.length : Int) == 0) = false := by rw [beq_eq_false_iff_ne]; omega
  have zb : ((xb.length : Int) == 0) = false := by rw [beq_eq_false_iff_ne]; omega
  have HK := hide hk
  have HMI := hide hmi
  clear hm hk hmi
  go_enter Takg.func16, Takg.ntmps16
  go_upto_block 0 with fail
  go_cut [6, 7] (fun y x wc => y = .int .i64 m ∧ x = .int .i64 ((2 ^ k : Nat) : Int) ∧ w = wc)
  case first =>
    go_wp2_with fail
    go_loop [7] (fun x => ∃ (f q : Nat), x = .int .i64 ((2 ^ q : Nat) : Int) ∧ q + f = 10 ∧ Hid (lev f q m = k)) (fun x => 2048 - (intOf x).toNat)
    case atStart => exact ⟨9, 1, rfl, rfl, HK.out.symm⟩
    case round =>
      obtain ⟨f, q, rfl, hqf, HF⟩ := hrel
      obtain ⟨n, hn⟩ : ∃ n, n = 2 ^ q := ⟨_, rfl⟩
      have hn2 : n ≤ 1024 := by rw [hn]; exact Nat.pow_le_pow_right (n := 2) (by omega) (show q ≤ 10 by omega)
      have hn0 : 0 < n := by rw [hn]; exact Nat.two_pow_pos q
      rw [← hn]
      have HN := hide hn
      clear hn
      by_cases hlt : n < m
      · obtain ⟨g, rfl⟩ : ∃ g, f = g + 1 := ⟨f - 1, by
          rcases Nat.eq_zero_or_pos f with h | h
          · subst h
            have hq : q = 10 := by omega
            subst hq
            have := HN.out
            omega
          · omega⟩
        go_wp2_with fail
        go_round
        case rel =>
          refine ⟨g, q + 1, ?_, by omega, ?_⟩
          · have := HN.out; rw [Nat.pow_succ, ← this]; go_num
          · unfold Hid; rw [← HF.out, lev_step g q m (by rw [← HN.out]; exact hlt)]
        case measure => simp [intOf]; omega
      · go_wp2_with fail
        go_meet
        have hqk : q = k := by rw [← HF.out, lev_stop f q m (by rw [← HN.out]; exact hlt)]
        refine ⟨?_, ?_, rfl⟩
        · rw [HMI.out]
        · rw [HN.out, hqk]
  case rest =>
    obtain ⟨rfl, rfl, rfl⟩ := hcut
    obtain ⟨n, hn⟩ : ∃ n, n = 2 ^ k := ⟨_, rfl⟩
    have hn2 : n ≤ 1024 := by rw [hn]; exact Nat.pow_le_pow_right (n := 2) (by omega) hk10
    rw [← hn] at hmk
    have hE1 := fun W h1 => elems_any ba oa n ca xa W h1 hab (by omega) (by omega)
    have hE2 := fun W h1 => elems_any bb ob n cb xb W h1 hbb (by omega) (by omega)
    have hF1 := fun b W h1 => Forward_any b k (pad xa n) W hk1 (by omega) (by rw [← hn]; exact pad_length _ _ (by omega)) (pad_lt _ _ hab) h1
    have hF2 := fun b W h1 => Forward_any b k (pad xb n) W hk1 (by omega) (by rw [← hn]; exact pad_length _ _ (by omega)) (pad_lt _ _ hbb) h1
    have hk1' := trans_keep (pad xa n) k (root k) (by rw [← hn]; exact pad_length _ _ (by omega)) (lt_word (pad_lt _ _ hab))
    have hk2' := trans_keep (pad xb n) k (root k) (by rw [← hn]; exact pad_length _ _ (by omega)) (lt_word (pad_lt _ _ hbb))
    obtain ⟨X, hX⟩ : ∃ X, X = fwd (pad xa n) k := ⟨_, rfl⟩
    obtain ⟨Y, hY⟩ : ∃ Y, Y = fwd (pad xb n) k := ⟨_, rfl⟩
    rw [show trans (pad xa n) k (root k) = X from hX.symm, ← hn] at hk1'
    rw [show trans (pad xb n) k (root k) = Y from hY.symm, ← hn] at hk2'
    rw [← hX, ← hn] at hF1
    rw [← hY, ← hn] at hF2
    obtain ⟨hXl, hXw⟩ := hk1'
    obtain ⟨hYl, hYw⟩ := hk2'
    have hzl : (List.zipWith mulm X Y).length = 2 ^ k := by rw [List.length_zipWith, hXl, hYl, Nat.min_self, hn]
    have hI := fun b W h1 => Inverse_any b k (List.zipWith mulm X Y) W hk1 (by omega) hzl (zip_lt X Y) h1
    have hZk := bwd_keep (List.zipWith mulm X Y) k hzl (lt_word (zip_lt X Y))
    obtain ⟨Z, hZ⟩ : ∃ Z, Z = bwd (List.zipWith mulm X Y) k := ⟨_, rfl⟩
    rw [← hZ, ← hn] at hI hZk
    obtain ⟨hZl, hZw⟩ := hZk
    have HZ : Hid (convFull xa xb k = Z) := by unfold Hid convFull; rw [← hn, ← hX, ← hY, ← hZ]
    have HE1 := hide hE1
    have HE2 := hide hE2
    have HF1 := hide hF1
    have HF2 := hide hF2
    have HI := hide hI
    have HXl := hide hXl
    have HYl := hide hYl
    have HZl := hide hZl
    rw [← hn]
    clear hE1 hE2 hF1 hF2 hI hXl hYl hZl hX hY hZ hn hzl hab hbb HK HMI
    go_wp2_with fail
    refine (HE1.out _ ha).mono ?_
    rintro e w1 ⟨rfl, hs1, hb1, hc1⟩
    have hbx := hc1.dig hb (by simp)
    go_wp2_with fail
    refine (HE2.out _ hbx).mono ?_
    rintro e w2 ⟨rfl, hs2, hb2, hc2⟩
    have hb12 := hc2.blk hb1 (by simp)
    have hch : Chg [] w w2 := hc1.trans hc2
    obtain ⟨b1, hb1e⟩ : ∃ b, b = w.heap.size := ⟨_, rfl⟩
    obtain ⟨b2, hb2e⟩ : ∃ b, b = w1.heap.size := ⟨_, rfl⟩
    rw [← hb1e] at hb12 hs1
    rw [← hb2e] at hb2 hs1
    rw [← hb1e, ← hb2e]
    have HB1 := hide hb1e
    clear hb1e hb2e hs2 hb1 hc1 hc2 hbx HE1 HE2 ha hb
    go_wp2_with fail
    refine (HF1.out _ _ hb12).mono ?_
    rintro e w3 ⟨rfl, hb3, hc3⟩
    have hb23 := hc3.blk hb2 (by simp; omega)
    have hch3 : Chg [b1, b2] w w3 := (hch.mono (by simp)).trans (hc3.mono (by simp))
    clear hb12 hb2 hc3 hch
    go_wp2_with fail
    refine (HF2.out _ _ hb23).mono ?_
    rintro e w4 ⟨rfl, hb4, hc4⟩
    have hb34 := hc4.blk hb3 (by simp; omega)
    have hch4 : Chg [b1, b2] w w4 := hch3.trans (hc4.mono (by simp))
    clear hb3 hb23 hc4 hch3 HF1 HF2
    go_upto_block 2 with fail
    go_cut [] (fun wr => Blk wr b1 25 (E (List.zipWith mulm X Y)) ∧ Chg [b1, b2] w wr)
    case first =>
      go_wp2_with fail
      go_loopw [10] (fun x wr => ∃ i : Nat, x = .int .i64 i ∧ i ≤ n ∧ Blk wr b1 25 (E (zipTo X Y i)) ∧ Blk wr b2 25 (E Y) ∧ Chg [b1, b2] w wr) (fun x _ => n - (intOf x).toNat)
      case atStart => exact ⟨0, rfl, by omega, by simpa [zipTo] using hb34, hb4, hch4⟩
      case round =>
        clear hb34 hb4 hch4
        obtain ⟨i, rfl, hi, hbr, hbr2, hcr⟩ := hrel
        have hXY : X.length = Y.length := by rw [HXl.out, HYl.out]
        by_cases hin : i < n
        · have hiX : i < X.length := by rw [HXl.out]; exact hin
          have hiY : i < Y.length := by rw [HYl.out]; exact hin
          have hil : i < (zipTo X Y i).length := by rw [zipTo_length _ _ _ hXY (by omega)]; exact hiX
          obtain ⟨u, hu⟩ : ∃ u, u = X.getD i 0 := ⟨_, rfl⟩
          obtain ⟨v, hv⟩ : ∃ v, v = Y.getD i 0 := ⟨_, rfl⟩
          have ub := hXw i hiX
          have vb := hYw i hiY
          have k0 : wr.cell? ⟨b1, i, none⟩ = some (.int .u32 u) := by rw [hu, ← zipTo_get X Y i hXY hiX]; exact hbr.cell _ _ (E_get _ _ hil)
          have k1 : wr.cell? ⟨b2, i, none⟩ = some (.int .u32 v) := by rw [hv]; exact hbr2.cell _ _ (E_get _ _ hiY)
          have f0 := hbr.frozen i none
          have hnext := hbr.set i (.int .u32 (mulm u v))
          rw [E_set, hu, hv, zipTo_set X Y i hXY hiX, ← hu, ← hv] at hnext
          rw [← hu] at ub
          rw [← hv] at vb
          obtain ⟨u0, u1⟩ := ub
          obtain ⟨v0, v1⟩ := vb
          clear hu hv hXY hiX hiY hil
          go_wp2_with fail
          go_region_with (go_at_call 14; refine (mulmod_any _ _ _ u0 u1 v0 v1).mono ?_; rintro e w6 ⟨rfl, rfl⟩)
          all_goals
            go_wp2_with fail
            go_roundw
            case rel => exact ⟨i + 1, by go_num, by omega, hnext.drew, (hbr2.set_ne _ (by simp; omega) _).drew, (hcr.setCell _ (by simp) _).drew⟩
            case measure => simp [intOf]; omega
        · have hie : i = n := by omega
          subst hie
          go_wp2_with fail
          go_meet
          rw [← HXl.out, zipTo_all X Y hXY] at hbr
          exact ⟨hbr, hcr⟩
    case rest =>
      obtain ⟨hb5, hc5⟩ := hcut
      clear hb34 hb4 hch4
      go_wp2_with fail
      refine (HI.out _ _ hb5).mono ?_
      rintro e w6 ⟨rfl, hb6, hc6⟩
      have hch6 : Chg [b1, b2] w w6 := hc5.trans (hc6.mono (by simp))
      clear hb5 hc5 hc6 HI
      have hmk2 := make_run (P := Takg.prog) 28 2 (.int .i64 0) 8 m rfl Takg.underlying28 info2 (by omega) (by omega)
      go_wp2_with fail
      clear hmk2
      obtain ⟨b3, hb3⟩ : ∃ b, b = w6.heap.size := ⟨_, rfl⟩
      have hbn := Blk.newRep w6 m (Value.int .i64 0) 2
      have hb7 := hb6.alloc (.cells (Array.replicate m (Value.int .i64 0)) 2)
      have hch7 := hch6.alloc (.cells (Array.replicate m (Value.int .i64 0)) 2)
      have hlt6 := hb6.lt
      have hsz6 := hch6.size
      rw [← hb3] at hbn hlt6 hsz6 ⊢
      have e0 : List.replicate m (Value.int .i64 0) = I64 (padTo Z m 0) := by simp [padTo, I64]
      rw [e0] at hbn
      generalize w6.alloc (.cells (Array.replicate m (Value.int .i64 0)) 2) = w7 at *
      clear e0 hb3 hb6 hch6
      go_loopw [12] (fun x wr => ∃ i : Nat, x = .int .i64 i ∧ i ≤ m ∧ Blk wr b3 2 (I64 (padTo Z m i)) ∧ Blk wr b1 25 (E Z) ∧ Chg [b1, b2] w wr) (fun x _ => m - (intOf x).toNat)
      case atStart => exact ⟨0, rfl, by omega, hbn, hb7, hch7⟩
      case round =>
        clear hbn hb7 hch7
        obtain ⟨i, rfl, hi, hbr, hb1r, hcr⟩ := hrel
        by_cases hin : i < m
        · have hiZ : i < Z.length := by rw [HZl.out]; omega
          obtain ⟨u, hu⟩ : ∃ u, u = Z.getD i 0 := ⟨_, rfl⟩
          have ub := hZw i hiZ
          have k0 : wr.cell? ⟨b1, i, none⟩ = some (.int .u32 u) := by rw [hu]; exact hb1r.cell _ _ (E_get _ _ hiZ)
          have k1 := hbr.cell _ _ (I64_get _ i (by rw [padTo_length _ _ _ (by omega) (by omega)]; omega))
          have f1 := hbr.frozen i none
          have hnext := hbr.set i (.int .i64 u)
          rw [I64_set, hu, padTo_set Z m i hiZ hin, ← hu] at hnext
          rw [← hu] at ub
          obtain ⟨u0, u1⟩ := ub
          have hin2 : i < n := by omega
          clear hu hiZ
          go_wp2_with fail
          go_roundw
          case rel => exact ⟨i + 1, by go_num, by omega, hnext, hb1r.set_ne _ (by simp; omega) _, hcr.setNew _ (by simp; omega) _⟩
          case measure => simp [intOf]; omega
        · have hie : i = m := by omega
          subst hie
          go_wp2_with fail
          go_ret2
          have e1 : padTo Z i i = Z.take i := by unfold padTo; simp
          rw [e1, ← HZ.out] at hbr
          refine ⟨b3, rfl, hbr, by omega, hcr.drop ?_⟩
          intro x hx
          have := HB1.out
          simp at hx
          omega
end Ntt
end Go.Proofs.Ygctak
