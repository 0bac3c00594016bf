/-
  Walks: passes.
-/
import Derived.Test.YgctakNtt4
namespace Go.Proofs.Ygctak
open Go.RowKit
set_option linter.unusedVariables false
set_option linter.unusedSimpArgs false
attribute [local go_sem ↓] Go.wp_at_zero Go.wp_at_succ
namespace Ntt

theorem swap_word (xs : List Int) (i j : Nat) (h : Word xs) (hi : i < xs.length) (hj : j < xs.length) : Word (swap xs i j) := by
  unfold swap
  exact (h.set _ _ (h j hj).1 (h j hj).2).set _ _ (h i hi).1 (h i hi).2
theorem revGo_keep (k : Nat) : ∀ (f i j : Nat) (xs : List Int), xs.length = 2 ^ k → j < 2 ^ k → i + f ≤ 2 ^ k → Word xs → (revGo (2 ^ k) f i j xs).length = 2 ^ k ∧ Word (revGo (2 ^ k) f i j xs) := by
  intro f
  induction f with
  | zero => intro i j xs h1 h2 h3 h4; exact ⟨h1, h4⟩
  | succ f ih =>
    intro i j xs h1 h2 h3 h4
    refine ih (i + 1) _ _ ?_ (revNext_lt k j h2) (by omega) ?_
    · split
      · rw [swap_length]; exact h1
      · exact h1
    · split
      · exact swap_word _ _ _ h4 (by omega) (by omega)
      · exact h4
theorem rev_keep (k : Nat) (xs : List Int) (h1 : xs.length = 2 ^ k) (h : Word xs) : (rev xs).length = 2 ^ k ∧ Word (rev xs) := by
  unfold rev
  rw [h1]
  exact revGo_keep k _ 0 0 xs h1 (Nat.two_pow_pos k) (by omega) h

theorem firstOne_length (xs : List Int) (p : Nat) : (firstOne xs p).length = xs.length := by simp [firstOne]
theorem firstOne_word (xs : List Int) (p : Nat) (h : Word xs) : Word (firstOne xs p) := by
  unfold firstOne
  exact (h.set _ _ (by omega) (by omega)).set _ _ (by omega) (by omega)
theorem firstGo_keep : ∀ (f p : Nat) (xs : List Int), Word xs → (firstGo f p xs).length = xs.length ∧ Word (firstGo f p xs) := by
  intro f
  induction f with
  | zero => intro p xs h; exact ⟨rfl, h⟩
  | succ f ih => intro p xs h; obtain ⟨h1, h2⟩ := ih (p + 2) _ (firstOne_word xs p h); exact ⟨by rw [firstGo, h1, firstOne_length], h2⟩

theorem Fac.set_far {T : List Int} {o : Nat} {cs : List Value} (h : Fac T o cs) (p : Nat) (v : Value) (hp : p < o ∨ o + T.length * 2 ≤ p) : Fac T o (cs.set p v) := by
  intro j hj
  obtain ⟨h1, h2⟩ := h j hj
  rw [List.getElem?_set_ne (by omega), List.getElem?_set_ne (by omega)]
  exact ⟨h1, h2⟩
theorem pick_succ (T : List Int) (j step : Nat) : pick T (j + 1) step = pick T j step ++ [T.getD (j * step) 0] := by
  simp [pick, List.range_succ]
theorem pick_length (T : List Int) (j step : Nat) : (pick T j step).length = j := by simp [pick]
theorem pick_word (T : List Int) (half step : Nat) (h : Word T) (hs : half * step ≤ T.length) (h0 : 0 < step) : Word (pick T half step) := by
  intro j hj
  rw [pick_length] at hj
  have hjs : j * step < T.length := by
    have := Nat.mul_le_mul_right step (show j + 1 ≤ half by omega)
    rw [Nat.add_mul] at this; omega
  have := h (j * step) hjs
  simpa [pick, hj] using this
theorem passGo_keep (R : List Int) (half : Nat) : ∀ (f s : Nat) (xs : List Int), Word xs → (passGo R half f s xs).length = xs.length ∧ Word (passGo R half f s xs) := by
  intro f
  induction f with
  | zero => intro s xs h; exact ⟨rfl, h⟩
  | succ f ih => intro s xs h; obtain ⟨h1, h2⟩ := ih (s + 2 * half) _ (blkGo_word R s half half 0 xs h); exact ⟨by rw [passGo, h1, blkGo_length], h2⟩

theorem half_pow (k : Nat) (h : 1 ≤ k) : 2 ^ k / 2 = 2 ^ (k - 1) := by
  obtain ⟨c, rfl⟩ : ∃ c, k = c + 1 := ⟨k - 1, by omega⟩
  rw [Nat.pow_succ, Nat.mul_div_cancel _ (by omega)]; rfl

/-- A map that has come to entry i. -/
def mapTo (f : Int → Int) (ps : List Int) (i : Nat) : List Int := (ps.take i).map f ++ ps.drop i
theorem mapTo_length (f : Int → Int) (ps : List Int) (i : Nat) (h : i ≤ ps.length) : (mapTo f ps i).length = ps.length := by simp [mapTo]; omega
theorem mapTo_get (f : Int → Int) (ps : List Int) (i : Nat) (h : i < ps.length) : (mapTo f ps i).getD i 0 = ps.getD i 0 := by
  have hl : ((ps.take i).map f).length = i := by simp; omega
  simp only [mapTo, List.getD_eq_getElem?_getD]
  rw [List.getElem?_append_right (by omega), hl, Nat.sub_self]
  simp
theorem mapTo_set (f : Int → Int) (ps : List Int) (i : Nat) (h : i < ps.length) : (mapTo f ps i).set i (f (ps.getD i 0)) = mapTo f ps (i + 1) := by
  have hl : ((ps.take i).map f).length = i := by simp; omega
  unfold mapTo
  rw [List.set_append_right _ _ (by omega), hl, Nat.sub_self, List.take_succ_eq_append_getElem h, List.map_append, List.append_assoc, List.drop_eq_getElem_cons h, List.set_cons_zero]
  simp [h]

theorem size23 : ∀ w, (sizeOf (Takg.prog.elem 23)).run Takg.prog w = .ok 1 w := fun _ => by kernel_rfl
theorem size135 : ∀ w, (sizeOf (Takg.prog.elem 135)).run Takg.prog w = .ok 2 w := fun _ => by kernel_rfl

set_option maxRecDepth 100000 in
set_option maxHeartbeats 2000000 in
theorem passes_any (b b2 k h o t : Nat) (cs : List Value) (xs : List Int) (w0 : Int) (w : World) (hk0 : 1 ≤ k) (hk : k ≤ 11) (hn : xs.length = 2 ^ k) (hx : Word xs) (hw0 : 0 ≤ w0) (hw1 : w0 ≤ 998244352)
    (hne : b ≠ b2) (hh : 2 ^ (k - 1) ≤ h) (hh2 : h ≤ 1024) (ho : h * 2 = o) (hl : cs.length = h * 4) (hb : Blk w b 25 (E xs)) (hb2 : Blk w b2 t cs) :
    Calls Takg.prog 83 #[.slice (some ⟨b, 0, none⟩) (2 ^ k) (2 ^ k), .int .i64 k, .int .u32 w0, .slice (some ⟨b2, 0, none⟩) h h, .slice (some ⟨b2, o, none⟩) h h] w fun e w' =>
      e = .returned (.tuple #[]) ∧ Blk w' b 25 (E (trans xs k w0)) ∧ Chg [b, b2] w w' := by
  obtain ⟨n, hnn⟩ : ∃ n, n = 2 ^ k := ⟨_, rfl⟩
  rw [← hnn]
  have HN := hide hnn
  have hn2 : n ≤ 2048 := by rw [hnn]; exact Nat.pow_le_pow_right (n := 2) (by omega) hk
  have HX : Hid (xs.length = n) := hn.trans hnn.symm
  have hrk := rev_keep k xs hn hx
  obtain ⟨ys, hys⟩ : ∃ ys, ys = rev xs := ⟨_, rfl⟩
  rw [← hys] at hrk
  rw [← hnn] at hrk
  have HY := hide hys
  have HL := hide hrk.1
  have hyw := hrk.2
  have hrev := reverse_any b k xs w hk hn hb
  rw [HX.out, ← hys] at hrev
  have HREV := hide hrev
  have Hh : Hid (2 ^ (k - 1) ≤ h) := hh
  have Ho := hide ho
  have Hl := hide hl
  have hnh : n / 2 ≤ h := by rw [hnn, show k = k - 1 + 1 by omega, Nat.pow_succ]; omega
  clear hrk hn hnn hys hrev hh ho hl
  go_enter Takg.func83, Takg.ntmps83
  go_wp2_with fail
  refine HREV.out.mono ?_
  rintro e w1 ⟨rfl, hb1, hc1⟩
  have hb21 := hc1.blk hb2 (by simpa using Ne.symm hne)
  clear HREV hb hb2
  obtain ⟨zs, hzs⟩ : ∃ zs, zs = firstGo (n / 2) 0 ys := ⟨_, rfl⟩
  have HZ := hide hzs
  have hzk := firstGo_keep (n / 2) 0 ys hyw
  rw [← hzs] at hzk
  have HZL : Hid (zs.length = n) := hzk.1.trans HL.out
  have hzw := hzk.2
  clear hzk hzs
  have hev : n / 2 * 2 = n := by rw [HN.out, show k = k - 1 + 1 by omega, Nat.pow_succ]; omega
  have Hev := hide hev
  clear hev
  go_upto_block 0 with fail
  go_cut [] (fun wc => Blk wc b 25 (E zs) ∧ Blk wc b2 t cs ∧ Chg [b] w wc)
  case first =>
    go_wp2_with fail
    go_loopw [10] (fun x wr => ∃ (q : Nat) (us : List Int), x = .int .i64 ((2 * q : Nat) : Int) ∧ q ≤ n / 2 ∧ Hid (us.length = n) ∧ Word us ∧ Hid (firstGo (n / 2 - q) (2 * q) us = zs) ∧ Blk wr b 25 (E us) ∧ Blk wr b2 t cs ∧ Chg [b] w wr) (fun x _ => n - (intOf x).toNat)
    case atStart => exact ⟨0, ys, rfl, by omega, HL, hyw, HZ.out.symm, hb1, hb21, hc1⟩
    case round =>
      clear hb1 hb21 hc1
      obtain ⟨q, us, rfl, hq, hul, huw, HG, hbr, hb2r, hcr⟩ := hrel
      by_cases hlt : q < n / 2
      · have hq1 : 2 * q + 1 < n := by omega
        obtain ⟨u, hu⟩ : ∃ r, r = us.getD (2 * q) 0 := ⟨_, rfl⟩
        obtain ⟨v, hv⟩ : ∃ r, r = us.getD (2 * q + 1) 0 := ⟨_, rfl⟩
        have k0 : wr.cell? ⟨b, 2 * q, none⟩ = some (.int .u32 u) := by rw [hu]; exact hbr.cell _ _ (E_get _ _ (by have := hul.out; omega))
        have k1 : wr.cell? ⟨b, 2 * q + 1, none⟩ = some (.int .u32 v) := by rw [hv]; exact hbr.cell _ _ (E_get _ _ (by have := hul.out; omega))
        have f0 := hbr.frozen (2 * q) none
        have f1 := hbr.frozen (2 * q + 1) none
        have ub := huw (2 * q) (by have := hul.out; omega)
        have vb := huw (2 * q + 1) (by have := hul.out; omega)
        rw [← hu] at ub
        rw [← hv] at vb
        obtain ⟨ub0, ub1⟩ := ub
        obtain ⟨vb0, vb1⟩ := vb
        have Hu := hide hu
        have Hv := hide hv
        clear hu hv
        go_wp2_with fail
        go_region
        go_wp2_with fail
        go_roundw
        case rel =>
          refine ⟨q + 1, firstOne us (2 * q), by go_num, by omega, by unfold Hid; rw [firstOne_length]; exact hul.out, firstOne_word _ _ huw, ?_, ?_, ?_, ?_⟩
          · unfold Hid; rw [← HG.out, show n / 2 - q = n / 2 - (q + 1) + 1 by omega]; rfl
          · have := (hbr.set (2 * q) (.int .u32 ((u + v) % 4294967296))).set (2 * q + 1) (.int .u32 ((u + 998244353 - v) % 4294967296))
            rw [E_set, E_set] at this
            unfold firstOne
            rw [← Hu.out, ← Hv.out]
            exact this.drew
          · exact (hb2r.set_ne _ (Ne.symm hne) _).set_ne _ (Ne.symm hne) _
          · exact ((hcr.setCell _ (by simp) _).setCell _ (by simp) _).drew
        case measure => simp [intOf]; omega
      · go_wp2_with fail
        go_meet
        have hqe : q = n / 2 := by omega
        subst hqe
        refine ⟨?_, hb2r, hcr⟩
        rw [← HG.out, Nat.sub_self]
        exact hbr
  case rest =>
    obtain ⟨hbz, hb2z, hcz⟩ := hcut
    clear hb1 hb21 hc1
    go_wp2_with fail
    have hlen2 : n / 2 * 2 ≤ cs.length := by rw [Hl.out]; omega
    have hnk : n / 2 = 2 ^ (k - 1) := by rw [HN.out]; exact half_pow k hk0
    refine (factors_any b2 (n / 2) (k - 1) h t cs w0 _ (by omega) hnk hw0 hw1 hlen2 hb2z).mono ?_
    rintro e w2 ⟨rfl, cs2, hcl2, hbf, hfac, hcf⟩
    obtain ⟨T, hT⟩ : ∃ T, T = facGo (k - 1) [1] w0 := ⟨_, rfl⟩
    rw [← hT] at hfac
    have hTw : Word T := by
      rw [hT]
      apply facGo_word
      intro j hj
      have : j = 0 := by simp at hj; omega
      subst this; simp
    have hTl : Hid (T.length = 2 ^ (k - 1)) := by unfold Hid; rw [hT, facGo_length]; simp
    have HT := hide hT
    have hbx := hcf.blk hbz (by simpa using hne)
    have hcx : Chg [b, b2] w w2 := (hcz.mono (by simp)).trans (hcf.mono (by simp))
    have Hcl2 : Hid (cs2.length = h * 4) := hcl2.trans Hl.out
    clear hT hlen2 hnk hbz hb2z hcz hcf hcl2 Hl
    obtain ⟨ps, hps⟩ : ∃ ps, ps = passesGo T k (k - 1) 2 zs := ⟨_, rfl⟩
    have HP := hide hps
    clear hps
    go_upto_block 2 with fail
    go_cut [] (fun wc => Hid (ps.length = n) ∧ Word ps ∧ Blk wc b 25 (E ps) ∧ Chg [b, b2] w wc)
    case first =>
      go_wp2_with fail
      go_loopw [13] (fun x wr => ∃ (q : Nat) (us : List Int) (cr : List Value), x = .int .i64 ((q + 2 : Nat) : Int) ∧ q + 1 ≤ k ∧ Hid (us.length = n) ∧ Word us ∧ Hid (passesGo T k (k - 1 - q) (q + 2) us = ps) ∧ Blk wr b 25 (E us) ∧
          Blk wr b2 t cr ∧ Hid (cr.length = h * 4) ∧ Fac T 0 cr ∧ Chg [b, b2] w wr) (fun x _ => k + 1 - (intOf x).toNat)
      case atStart => exact ⟨0, zs, cs2, rfl, by omega, HZL, hzw, HP.out.symm, hbx, hbf, Hcl2, hfac, hcx⟩
      case round =>
        clear hbx hbf hfac hcx Hcl2
        obtain ⟨q, us, cr, rfl, hq, hul, huw, HG, hbr, hb2r, hcrl, hfr, hcr⟩ := hrel
        by_cases hlt : q + 2 ≤ k
        · go_upto_region 10 with fail
          obtain ⟨half, hhalf⟩ : ∃ x, x = 2 ^ (q + 1) := ⟨_, rfl⟩
          obtain ⟨step, hstep⟩ : ∃ x, x = 2 ^ (k - (q + 2)) := ⟨_, rfl⟩
          have Hhalf := hide hhalf
          have Hstep := hide hstep
          clear hhalf hstep
          go_cut [14, 15] (fun x y wc => x = .int .i64 half ∧ y = .int .i64 step ∧ wc = wr.drew)
          case first =>
            go_region
            go_wp2_with fail
            go_meet
            refine ⟨?_, ?_, rfl⟩
            · rw [wrap_two_pow _ (by omega), Hhalf.out, show q + 2 - 1 = q + 1 by omega]; simp
            · rw [wrap_two_pow _ (by omega), Hstep.out]; simp
          case rest =>
            obtain ⟨rfl, rfl, rfl⟩ := hcut
            have hhs : half * step = T.length := by rw [Hhalf.out, Hstep.out, hTl.out, ← Nat.pow_add]; congr 1; omega
            have hst0 : 0 < step := by rw [Hstep.out]; exact Nat.two_pow_pos _
            have hha0 : 0 < half := by rw [Hhalf.out]; exact Nat.two_pow_pos _
            have hTh : T.length ≤ h := by rw [hTl.out]; exact Hh.out
            have hhh : half ≤ h := Nat.le_trans (Nat.le_mul_of_pos_right half hst0) (by omega)
            have hhn : half * step * 2 = n := by rw [hhs, hTl.out, HN.out, show k = k - 1 + 1 by omega, Nat.pow_succ]; rfl
            have Hhs := hide hhs
            have Hhn := hide hhn
            have HTh := hide hTh
            clear hhs hTh hhn
            obtain ⟨R, hR⟩ : ∃ R, R = pick T half step := ⟨_, rfl⟩
            have HR := hide hR
            have hRw : Word R := by rw [hR]; exact pick_word T half step hTw (by rw [Hhs.out]; exact Nat.le_refl _) hst0
            have hRl : Hid (R.length = half) := by rw [hR]; exact pick_length _ _ _
            clear hR
            go_upto_block 4 with fail
            go_cut [] (fun wc => ∃ cr, Blk wc b 25 (E us) ∧ Blk wc b2 t cr ∧ Hid (cr.length = h * 4) ∧ Fac T 0 cr ∧ Fac R o cr ∧ Chg [b, b2] w wc)
            case first =>
              go_wp2_with fail
              go_loopw [16] (fun x wr => ∃ (j : Nat) (cr : List Value), x = .int .i64 j ∧ j ≤ half ∧ Blk wr b 25 (E us) ∧ Blk wr b2 t cr ∧ Hid (cr.length = h * 4) ∧ Fac T 0 cr ∧ Fac (pick T j step) o cr ∧ Chg [b, b2] w wr) (fun x _ => half - (intOf x).toNat)
              case atStart => exact ⟨0, cr, rfl, by omega, hbr.drew, hb2r.drew, hcrl, hfr, (fun j hj => by simp [pick] at hj), hcr.drew⟩
              case round =>
                clear hbr hb2r hcrl hfr hcr
                obtain ⟨j, cr, rfl, hj, hbr, hb2r, hcrl, hfr, hfp, hcr⟩ := hrel
                by_cases hjl : j < half
                · have hjs : j * step < T.length := by
                    have := Nat.mul_le_mul_right step (show j + 1 ≤ half by omega)
                    rw [Nat.add_mul, Hhs.out] at this; omega
                  have hjh : j * step < h := Nat.lt_of_lt_of_le hjs HTh.out
                  have hI0 : (0 : Int) ≤ (j : Int) * (step : Int) := by rw [← Int.natCast_mul]; omega
                  have hI1 : (j : Int) * (step : Int) < (h : Int) := by rw [← Int.natCast_mul]; omega
                  obtain ⟨r, hr⟩ : ∃ r, r = T.getD (j * step) 0 := ⟨_, rfl⟩
                  have hfj := hfr (j * step) hjs
                  rw [← hr, Nat.zero_add] at hfj
                  have k0 := hb2r.cell _ _ hfj.1
                  have k1 := hb2r.cell _ _ hfj.2
                  obtain ⟨c0, hc0⟩ : ∃ c, cr[o + j * 2]? = some c := ⟨_, List.getElem?_eq_getElem (by have := hcrl.out; have := Ho.out; omega)⟩
                  obtain ⟨c1, hc1⟩ : ∃ c, cr[o + j * 2 + 1]? = some c := ⟨_, List.getElem?_eq_getElem (by have := hcrl.out; have := Ho.out; omega)⟩
                  have k2 := hb2r.cell _ _ hc0
                  have k3 := hb2r.cell _ _ hc1
                  have f0 := hb2r.frozen (o + j * 2) none
                  have f1 := hb2r.frozen (o + j * 2 + 1) none
                  have Hr := hide hr
                  clear hfj hc0 hc1 hr hjs
                  go_wp2_with fail
                  go_roundw
                  case rel =>
                    refine ⟨j + 1, (cr.set (o + j * 2) (.int .u32 r)).set (o + j * 2 + 1) (.int .u32 (rat r)), by go_num, by omega, ?_, ?_, ?_, ?_, ?_, ?_⟩
                    · exact (hbr.set_ne _ hne _).set_ne _ hne _
                    · exact (hb2r.set _ _).set _ _
                    · unfold Hid; simp; exact hcrl.out
                    · have e1 := HTh.out
                      have e2 := Ho.out
                      exact (hfr.set_far _ _ (by omega)).set_far _ _ (by omega)
                    · rw [pick_succ, ← Hr.out]
                      have := hfp.snoc r (by rw [pick_length]; have := hcrl.out; have := Ho.out; omega)
                      rw [pick_length] at this
                      exact this
                    · exact (hcr.setCell _ (by simp) _).setCell _ (by simp) _
                  case measure => simp [intOf]; omega
                · go_wp2_with fail
                  go_meet
                  have hjh : j = half := by omega
                  subst hjh
                  exact ⟨cr, hbr, hb2r, hcrl, hfr, by rw [HR.out]; exact hfp, hcr⟩
            case rest =>
              clear hbr hb2r hcrl hfr hcr
              obtain ⟨cr, hbr, hb2r, hcrl, hfr, hfR, hcr⟩ := hcut
              obtain ⟨vs0, hvs0⟩ : ∃ v, v = passGo R half step 0 us := ⟨_, rfl⟩
              have HV := hide hvs0
              clear hvs0
              go_wp2_with fail
              go_loopw [17] (fun x wr => ∃ (c s : Nat) (vs : List Int), x = .int .i64 s ∧ c ≤ step ∧ Hid (s = c * (2 * half)) ∧ s ≤ n ∧ Hid (vs.length = n) ∧ Word vs ∧ Hid (passGo R half (step - c) s vs = vs0) ∧ Blk wr b 25 (E vs) ∧ Blk wr b2 t cr ∧ Chg [b, b2] w wr) (fun x _ => n - (intOf x).toNat)
              case atStart => exact ⟨0, 0, us, rfl, by omega, by unfold Hid; omega, by omega, hul, huw, HV.out.symm, hbr, hb2r, hcr⟩
              case round =>
                clear hbr hb2r hcr
                obtain ⟨c, s, vs, rfl, hc, Hs, hsn, hvl, hvw, HGv, hbr, hb2r, hcr⟩ := hrel
                by_cases hcs : c < step
                · have hs2 : s + half + half ≤ n := by
                    have h1 := Nat.mul_le_mul_right (2 * half) (show c + 1 ≤ step by omega)
                    rw [Nat.add_mul, ← Hs.out] at h1
                    have h2 : step * (2 * half) = n := by rw [← Hhn.out, Nat.mul_comm half step, Nat.mul_assoc, Nat.mul_comm half 2]
                    omega
                  have hw1 : IntKind.i64.wrap ((s : Int) + half) = (s : Int) + half := i64_wrap _ (by omega)
                  have hw2 : IntKind.i64.wrap (2 * (half : Int)) = 2 * (half : Int) := i64_wrap _ (by omega)
                  have hw3 : IntKind.i64.wrap ((s : Int) + 2 * half) = (s : Int) + 2 * half := i64_wrap _ (by omega)
                  have hs3 := slice3_run (P := Takg.prog) 23 b 0 n n 1 (s : Int) ((s : Int) + half) ((s : Int) + half) s (s + half) (s + half) Takg.underlying23 size23 rfl (by omega) (by omega) (by omega) (by omega) (by omega) (by omega)
                  have hs4 := slice3_run (P := Takg.prog) 23 b 0 n n 1 ((s : Int) + half) ((s : Int) + 2 * half) ((s : Int) + 2 * half) (s + half) (s + half + half) (s + half + half) Takg.underlying23 size23 (by omega) (by omega) (by omega) (by omega) (by omega) (by omega) (by omega)
                  rw [show 0 + s * 1 = s by omega, show s + half - s = half by omega] at hs3
                  rw [show 0 + (s + half) * 1 = s + half by omega, show s + half + half - (s + half) = half by omega] at hs4
                  have hblk := fun W h1 h2 => block_any b b2 s half o t vs R cr W hne (by rw [hvl.out]; exact hs2) (by rw [hvl.out]; exact hn2) hvw hRl.out hRw h1 h2 hfR
                  have HB := hide hblk
                  clear hblk
                  go_upto_block 7 with fail
                  go_cut [] (fun wc => Blk wc b 25 (E (blkGo R s half half 0 vs)) ∧ Chg [b] wr wc)
                  case first =>
                    go_wp2_with fail
                    go_region_with (go_at_call 119; refine (HB.out _ ?_ ?_).mono ?_; (exact hbr.drew); (exact hb2r.drew); rintro e w5 ⟨rfl, hb5, hc5⟩)
                    all_goals
                      go_wp2_with fail
                      go_meet
                      exact ⟨hb5, (Chg.refl _ _).drew.trans hc5⟩
                  case rest =>
                    obtain ⟨hb5, hc5⟩ := hcut
                    clear HB hw1 hw2 hw3 hs3 hs4
                    go_wp2_with fail
                    go_roundw
                    case rel =>
                      refine ⟨c + 1, s + 2 * half, _, by go_num, by omega, by unfold Hid; rw [Nat.add_mul, ← Hs.out]; omega, by omega, ?_, blkGo_word R s half half 0 vs hvw, ?_, hb5, hc5.blk hb2r (by simpa using Ne.symm hne), ?_⟩
                      · unfold Hid; rw [blkGo_length]; exact hvl.out
                      · unfold Hid; rw [← HGv.out, show step - c = step - (c + 1) + 1 by omega]; rfl
                      · exact hcr.trans (hc5.mono (by simp))
                    case measure => simp [intOf]; omega
                · have hce : c = step := by omega
                  have hse : s = n := by
                    have h2 : step * (2 * half) = n := by rw [← Hhn.out, Nat.mul_comm half step, Nat.mul_assoc, Nat.mul_comm half 2]
                    rw [Hs.out, hce]; exact h2
                  subst hse
                  subst hce
                  have HV2 : Hid (vs = vs0) := by rw [← HGv.out, Nat.sub_self]; rfl
                  go_wp2_with fail
                  go_roundw
                  case rel =>
                    refine ⟨q + 1, vs, cr, by go_num, by omega, hvl, hvw, ?_, hbr, hb2r, hcrl, hfr, hcr⟩
                    unfold Hid
                    rw [← HG.out, show k - 1 - q = k - 1 - (q + 1) + 1 by omega, HV2.out, HV.out, HR.out, Hhalf.out, Hstep.out]; rfl
                  case measure => simp [intOf]; omega

        · go_wp2_with fail
          go_meet
          have hqk : k - 1 - q = 0 := by omega
          have hup : us = ps := by rw [← HG.out, hqk]; rfl
          exact ⟨by rw [← hup]; exact hul, by rw [← hup]; exact huw, by rw [← hup]; exact hbr, hcr⟩
    case rest =>
      obtain ⟨hpl, hpw, hbp, hcp⟩ := hcut
      clear hbx hbf hfac hcx
      go_wp2_with fail
      go_loopw [18] (fun x wr => ∃ i : Nat, x = .int .i64 i ∧ i ≤ n ∧ Blk wr b 25 (E (mapTo last ps i)) ∧ Chg [b, b2] w wr) (fun x _ => n - (intOf x).toNat)
      case atStart => exact ⟨0, rfl, by omega, by simpa [mapTo] using hbp, hcp⟩
      case round =>
        clear hbp hcp
        obtain ⟨i, rfl, hi, hbr, hcr⟩ := hrel
        by_cases hin : i < n
        · have hip : i < ps.length := by rw [hpl.out]; exact hin
          have hil : i < (mapTo last ps i).length := by rw [mapTo_length _ _ _ (by omega)]; exact hip
          obtain ⟨v, hv⟩ : ∃ v, v = ps.getD i 0 := ⟨_, rfl⟩
          have hvb := hpw i hip
          rw [← hv] at hvb
          have k0 : wr.cell? ⟨b, i, none⟩ = some (.int .u32 v) := by rw [hv, ← mapTo_get last ps i hip]; exact hbr.cell _ _ (E_get _ _ hil)
          have f0 := hbr.frozen i none
          obtain ⟨hv0, hv1⟩ := hvb
          have cb : 0 ≤ cut2 v ∧ cut2 v ≤ 4294967295 := by unfold cut2; split <;> omega
          have Hv := hide hv
          have hnext := hbr.set i (.int .u32 (fold (cut2 v)))
          rw [E_set, hv, show fold (cut2 (ps.getD i 0)) = last (ps.getD i 0) from rfl, mapTo_set last ps i hip, ← hv, show last v = fold (cut2 v) from rfl] at hnext
          clear hv hip hil
          go_upto_if 131 with fail
          go_cut [19] (fun x wc => x = .int .u32 (cut2 v) ∧ wr = wc)
          case first =>
            by_cases hge : 1996488706 ≤ v
            · go_wp2_with fail
              go_meet
              exact ⟨by unfold cut2; rw [if_pos hge], rfl⟩
            · go_wp2_with fail
              go_meet
              exact ⟨by unfold cut2; rw [if_neg (by omega)], rfl⟩
          case rest =>
            obtain ⟨rfl, rfl⟩ := hcut
            go_wp2_with fail
            refine (fold_any _ _ cb.1 cb.2).mono ?_
            rintro e w5 ⟨rfl, rfl⟩
            go_wp2_with fail
            go_roundw
            case rel => exact ⟨i + 1, by go_num, by omega, hnext, hcr.setCell _ (by simp) _⟩
            case measure => simp [intOf]; omega
        · have hie : i = n := by omega
          subst hie
          go_wp2_with fail
          go_end0
          refine ⟨rfl, ?_, hcr⟩
          have e1 : trans xs k w0 = mapTo last ps i := by
            unfold trans mapTo tab
            rw [← hpl.out, List.take_length, List.drop_length, List.append_nil, HX.out, ← HY.out, ← HZ.out, ← HT.out, ← HP.out]
          rw [e1]
          exact hbr
end Ntt
end Go.Proofs.Ygctak
