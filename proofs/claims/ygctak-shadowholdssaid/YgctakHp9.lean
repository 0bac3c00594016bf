/-
  The way back, and its division, hold: what the law asks.
-/
import Derived.Test.YgctakHp8
namespace Go.Proofs.Ygctak
set_option linter.unusedVariables false
set_option linter.unusedSimpArgs false
namespace Hp
open Ac Fl Sh Ex
open Ft (abs_scale UU UU_pos zf WU WU_UU ww rev rev_lt rev_rev dg sm dg_bd Gb Gf_fam Fam rb Rs Rs_bd eN okN ep s2 s2_flat rvs_get)

/-- The weights of the products, by this length. -/
theorem Gb_w2 {k : Nat} {xs ys : List Int} (hx : Digs 255 xs) (hy : Digs 255 ys) (lx : xs.length ≤ 512) (ly : ys.length ≤ 512) :
    sm (fun n => ((dg xs (n / 2 ^ k) * dg ys (n % 2 ^ k)).natAbs : Int)) (2 ^ k * 2 ^ k) ≤ (((most (k + 1) 255 - 1) * (most (k + 1) 255 - 1) : Nat) : Int) := by
  have e : sm (fun n => ((dg xs (n / 2 ^ k) * dg ys (n % 2 ^ k)).natAbs : Int)) (2 ^ k * 2 ^ k) = sm (fun n => dg xs (n / 2 ^ k) * dg ys (n % 2 ^ k) * (fun _ => 1) (n / 2 ^ k + n % 2 ^ k)) (2 ^ k * 2 ^ k) := Ft.sm_congr fun n _ => by
    have a := dg_bd (d := 255) (by omega) hx (n / 2 ^ k)
    have b := dg_bd (d := 255) (by omega) hy (n % 2 ^ k)
    have := Int.mul_nonneg a.1 b.1
    simp only [Int.mul_one]
    omega
  rw [e, s2_flat xs ys k (fun _ => 1)]
  have e2 : s2 xs ys k (fun _ => 1) = sm (dg ys) (2 ^ k) * sm (dg xs) (2 ^ k) := by
    unfold s2
    rw [← Ft.sm_mul]
    refine Ft.sm_congr fun p _ => ?_
    rw [Int.mul_comm, ← Ft.sm_mul]
    exact Ft.sm_congr fun q _ => by grind
  rw [e2]
  obtain ⟨a1, a2⟩ := dg_most (k := k) hx lx
  obtain ⟨b1, b2⟩ := dg_most (k := k) hy ly
  rw [Int.natCast_mul]
  exact Int.mul_le_mul (by omega) (by omega) a1 (by omega)

theorem eb_all : ∀ k : Fin 11, ∀ t : Fin 11, t.val ≤ k.val → okN 17045913600 t.val 0 (ep k.val) = true ∧ eN 17045913600 t.val 0 (ep k.val) ≤ 2 ^ 56 := by decide +kernel

theorem bwA_at {k : Nat} {xs ys : List Int} (h1 : 1 ≤ k) (h2 : k ≤ 10) (hx : Digs 255 xs) (hy : Digs 255 ys) (lx : xs.length ≤ 512) (ly : ys.length ≤ 512) (t : Nat) (ht : t ≤ k) :
    Ft.At (Gb xs ys k) (-1) k t (eN 17045913600 t 0 (ep k)) (zf (bwA k (rvs k (mid k xs ys)) t)) := by
  have hl := (tab_keep k h1 (by omega)).1
  have hlen : (mid k xs ys).length = 2 ^ k := by rw [tms_length, fwd_length]
  have h0 : Ft.At (Gb xs ys k) (-1) k 0 (ep k) (zf (rvs k (mid k xs ys))) := by
    intro b j hb hj
    have hj0 : j = 0 := by simpa using hj
    subst hj0
    rw [Nat.sub_zero] at hb ⊢
    have hz : zf (rvs k (mid k xs ys)) (b * 2 ^ 0 + 0) = zf (mid k xs ys) (rev k b) := by
      unfold zf
      rw [Nat.pow_zero, Nat.mul_one, Nat.add_zero, rvs_get k _ hlen b hb]
    rw [hz]
    have hR : Rs (Gb xs ys k) (-1) (2 ^ 0) (2 ^ k) (rev k b) ((2 ^ (10 - 0) : Nat) : Int) 0 0 = Gb xs ys k (rev k b) 0 := by
      unfold Rs
      simp only [Nat.pow_zero, sm]
      rw [show (-1 : Int) * (((0 : Nat) : Int) * ((0 : Nat) : Int) * ((2 ^ (10 - 0) : Nat) : Int)) + 0 = 0 by simp, Nat.zero_mul, Nat.add_zero, Int.zero_add, Int.zero_add]
    rw [hR]
    exact Ft.tms_near (d := 255) h1 h2 (by omega) hx hy lx ly _ _ (rev_lt k b)
  have := Ft.bws_at (d := 255) (Ft.Gb_fam (d := 255) (by omega) hx hy lx ly k (2 ^ k)) h1 h2 (by omega) (by omega) hl t 0 (ep k) _ (by rw [rvs_length, hlen]) (by omega) h0 (eb_all ⟨k, by omega⟩ ⟨t, by omega⟩ ht).1
  rw [Nat.zero_add t] at this
  exact this

theorem bwA_bd {k : Nat} {xs ys : List Int} (h1 : 1 ≤ k) (h2 : k ≤ 10) (hx : Digs 255 xs) (hy : Digs 255 ys) (lx : xs.length ≤ 512) (ly : ys.length ≤ 512) (t : Nat) (ht : t ≤ k) (i : Nat) (hi : i < 2 ^ k) :
    Bd (2 ^ t * ((most (k + 1) 255 - 1) * (most (k + 1) 255 - 1)) + 64) ((bwA k (rvs k (mid k xs ys)) t).getD i p0).1 := by
  obtain ⟨i1, i2, i3⟩ := split_idx ht hi
  have hn := bwA_at h1 h2 hx hy lx ly t ht _ _ i1 i2
  rw [i3] at hn
  have hf : Fam (Gb xs ys k) rb (-1) (2 ^ k) ((most (k + 1) 255 - 1) * (most (k + 1) 255 - 1)) := (Gf_fam (fun i _ => Gb_w2 hx hy lx ly)).2
  obtain ⟨r1, r2⟩ := Rs_bd hf (2 ^ t) (2 ^ (k - t)) (rev (k - t) (i / 2 ^ t)) ((2 ^ (10 - t) : Nat) : Int) (i % 2 ^ t) 0 (fun m hm => terms_in ht m hm)
  refine near_bd hn r1 r2 ?_ (by omega)
  have he := (eb_all ⟨k, by omega⟩ ⟨t, by omega⟩ ht).2
  simp only at he
  rw [Nat.add_sub_cancel_left, WU_UU, ← Nat.mul_assoc]
  exact Nat.mul_le_mul_right _ (Nat.le_trans he (by decide))

theorem sq_bd {k t : Nat} (h1 : 1 ≤ k) (ht : t ≤ 10) : 2 ^ t * ((most (k + 1) 255 - 1) * (most (k + 1) 255 - 1)) + 64 ≤ 4 * mostBack (t + 1) k 255 ∧ 2 ^ t * ((most (k + 1) 255 - 1) * (most (k + 1) 255 - 1)) + 64 ≤ 2 ^ 60 := by
  have hm := most_le (k + 1) 255 (by omega)
  have hm8 : 8 ≤ most (k + 1) 255 := by
    unfold most
    have : 1 ≤ 2 ^ (k + 1 - 1) := Nat.one_le_two_pow
    split <;> omega
  have hp : 2 ^ t ≤ 2 ^ 10 := Nat.pow_le_pow_right (by omega) ht
  have hp0 : 1 ≤ 2 ^ t := Nat.one_le_two_pow
  unfold mostBack
  rw [show t + 1 - 1 = t by omega]
  generalize most (k + 1) 255 = m at *
  have hsq : (m - 1) * (m - 1) ≤ m * m := Nat.mul_le_mul (by omega) (by omega)
  have h64 : 64 ≤ m * m := Nat.mul_le_mul hm8 hm8
  have hmm : m * m ≤ 130561 * 130561 := Nat.mul_le_mul hm hm
  have a1 := Nat.mul_le_mul_left (2 ^ t) hsq
  have a2 := Nat.mul_le_mul hp0 h64
  have a3 := Nat.mul_le_mul hp hmm
  have e1 : m * m * 2 ^ t = 2 ^ t * (m * m) := Nat.mul_comm _ _
  rw [e1]
  generalize 2 ^ t * ((m - 1) * (m - 1)) = q1 at *
  generalize 2 ^ t * (m * m) = q2 at *
  omega

theorem bk_inv {k : Nat} {xs ys : List Int} (h1 : 1 ≤ k) (h2 : k ≤ 10) (hx : Digs 255 xs) (hy : Digs 255 ys) (lx : xs.length ≤ 512) (ly : ys.length ≤ 512) :
    ∀ t, t ≤ k → ∀ i, i < 2 ^ k → Inv (2 ^ (124 * k + 62 * t)) ((bwA k (rvs k (mid k xs ys)) t).getD i p0) ((exB (turn (exM k xs ys) k) t).getD i q0)
  | 0, _, i, hi => by
    have hlen : (mid k xs ys).length = 2 ^ k := by rw [tms_length, fwd_length]
    have e1 : (bwA k (rvs k (mid k xs ys)) 0).getD i p0 = (mid k xs ys).getD (rev k i) p0 := rvs_get k _ hlen i hi
    have e2 : (exB (turn (exM k xs ys) k) 0).getD i q0 = (exM k xs ys).getD (rev k i) q0 := turn_get _ k i hi
    rw [e1, e2]
    exact (mid_inv h1 h2 hx hy lx ly _ (rev_lt k i)).2.2
  | t + 1, ht, i, hi => by
    have ih := bk_inv h1 h2 hx hy lx ly t (by omega)
    have hlen : (bwA k (rvs k (mid k xs ys)) t).length = 2 ^ k := by rw [bwA_length, rvs_length, tms_length, fwd_length]
    have hel : (exB (turn (exM k xs ys) k) t).length = 2 ^ k := by rw [exB_length, turn_length]
    obtain ⟨s1, s2⟩ := sq_bd (k := k) (t := t) h1 (by omega)
    have := stage_inv (m := mostBack (t + 1) k 255) (by omega) hlen hel ih (fun m hm => bwA_bd h1 h2 hx hy lx ly t (by omega) m hm) (rt_bwd k t h1 h2 (by omega)) (by omega) s2 s1 i hi
    rw [bwA_succ, show 124 * k + 62 * (t + 1) = 124 * k + 62 * t + 62 by omega, Nat.pow_add]
    exact this.2.2

theorem bwA_lt {k : Nat} {x : List P} (hx : x.length = 2 ^ k) (t : Nat) (ht : 1 ≤ t) (i : Nat) (hi : i < 2 ^ k) : Lt64 ((bwA k x t).getD i p0).1 := by
  obtain ⟨s, rfl⟩ : ∃ s, t = s + 1 := ⟨t - 1, by omega⟩
  rw [bwA_succ]
  exact stg_lt _ _ _ _ _ _ (by rw [bwA_length, hx]; exact hi)

theorem big_U {M : Nat} (h : M ≤ 2 ^ 60) : M * UU ≤ 2 ^ 99 * UU := Nat.mul_le_mul_right _ (Nat.le_trans h (by decide))

theorem all_hold {k : Nat} {xs ys : List Int} (h1 : 1 ≤ k) (h2 : k ≤ 10) (hx : Digs 255 xs) (hy : Digs 255 ys) (lx : xs.length ≤ 512) (ly : ys.length ≤ 512) : AllHold k xs ys := by
  have hlen : (mid k xs ys).length = 2 ^ k := by rw [tms_length, fwd_length]
  have hrl : (rvs k (mid k xs ys)).length = 2 ^ k := by rw [rvs_length, hlen]
  have hkeep := mid_keep k 255 xs ys h1 h2 (by omega) hx hy
  have bd : ∀ t, t ≤ k → ∀ i, i < 2 ^ k → Finite ((bwA k (rvs k (mid k xs ys)) t).getD i p0).1.1 ∧ Finite ((bwA k (rvs k (mid k xs ys)) t).getD i p0).1.2 ∧ (V ((bwA k (rvs k (mid k xs ys)) t).getD i p0).1.1).natAbs ≤ 2 ^ 99 * UU ∧ (V ((bwA k (rvs k (mid k xs ys)) t).getD i p0).1.2).natAbs ≤ 2 ^ 99 * UU := fun t ht i hi => by
    have hb := bwA_bd h1 h2 hx hy lx ly t ht i hi
    have hs := big_U (sq_bd (k := k) (t := t) h1 (by omega)).2
    exact ⟨hb.f1, hb.f2, Nat.le_trans hb.b1 hs, Nat.le_trans hb.b2 hs⟩
  have up : ∀ {a : Nat}, a ≤ 2 ^ 99 * UU → a ≤ 2 ^ 100 * UU := fun h => Nat.le_trans h (Nat.mul_le_mul_right _ (by decide))
  refine ⟨fun t t1 t2 i hi => fw_holds h1 h2 hx t t1 t2 i hi, fun t t1 t2 i hi => fw_holds h1 h2 hy t t1 t2 i hi, fun i hi => ex_fits h1 h2 hy i hi, fun i hi => ?_, fun t t1 t2 i hi => ?_, fun i hi => ?_⟩
  · obtain ⟨f1, f2, hI⟩ := mid_inv h1 h2 hx hy lx ly i hi
    have e1 : (bwA k (rvs k (mid k xs ys)) 0).getD (rev k i) p0 = (mid k xs ys).getD i p0 := by
      have := rvs_get k (mid k xs ys) hlen (rev k i) (rev_lt k i)
      rw [rev_rev k i hi] at this
      exact this
    obtain ⟨_, _, b1, b2⟩ := bd 0 (by omega) (rev k i) (rev_lt k i)
    have hk := hkeep.any (rev k i)
    have e2 : (rvs k (mid k xs ys)).getD (rev k i) p0 = (mid k xs ys).getD i p0 := e1
    rw [e1] at b1 b2
    have he : ((mid k xs ys).getD i p0).2 ≤ 2 ^ 150 := by
      rw [← e2]; exact Int.le_trans hk.2.2 (by decide)
    exact holds_of (by omega) hI (tms_lt _ _ _ _ (by rw [fwd_length]; exact hi)) f1 f2 (up b1) (up b2) he
  · obtain ⟨f1, f2, b1, b2⟩ := bd t t2 i hi
    have hk := (bwA_keep k _ t h1 h2 t2 hkeep).any i
    exact holds_of (by omega) (bk_inv h1 h2 hx hy lx ly t t2 i hi) (bwA_lt hrl t t1 i hi) f1 f2 (up b1) (up b2) (Int.le_trans hk.2.2 (by decide))
  · obtain ⟨f1, f2, b1, b2⟩ := bd k (Nat.le_refl _) i hi
    have hI := bk_inv h1 h2 hx hy lx ly k (Nat.le_refl _) i hi
    have hk := (bwA_keep k _ k h1 h2 (Nat.le_refl _) hkeep).any i
    have e1 : (shRun k 255 xs ys).getD i p0 = dvd k ((bwA k (rvs k (mid k xs ys)) k).getD i p0) := by
      unfold shRun dvs
      rw [List.getD_eq_getElem?_getD, List.getElem?_map, List.getElem?_range (by rw [bws_length, rvs_length, tms_length, fwd_length]; exact hi)]
      rfl
    obtain ⟨q1, d1⟩ := Ft.quo_fine _ k h2 f1 (up b1)
    obtain ⟨q2, d2⟩ := Ft.quo_fine _ k h2 f2 (up b2)
    obtain ⟨p, hp⟩ : ∃ p, p = (bwA k (rvs k (mid k xs ys)) k).getD i p0 := ⟨_, rfl⟩
    rw [← hp] at e1 hI hk d1 d2 q1 q2 b1 b2
    obtain ⟨q, hq⟩ : ∃ q, q = (exB (turn (exM k xs ys) k) k).getD i q0 := ⟨_, rfl⟩
    rw [← hq] at hI ⊢
    rw [e1]
    have hn2 : 2 ^ k ≤ 1024 := Nat.le_trans (Nat.pow_le_pow_right (n := 2) (by omega) h2) (by decide)
    have hn1 : 1 ≤ 2 ^ k := Nat.one_le_two_pow
    have hU := Ft.UU_big
    have hpi : (2 : Int) ^ k = ((2 ^ k : Nat) : Int) := pow_int k
    have hsz : ∀ {v v' : Int}, (((2 ^ k : Nat) : Int) * v' - v).natAbs ≤ 2 ^ k → v.natAbs ≤ 2 ^ 99 * UU → v'.natAbs ≤ 2 ^ 100 * UU := fun {v v'} g1 g2 => by
      have a1 : (((2 ^ k : Nat) : Int) * v').natAbs = 2 ^ k * v'.natAbs := abs_scale _ _
      have a2 : v'.natAbs ≤ 2 ^ k * v'.natAbs := Nat.le_mul_of_pos_left _ hn1
      have a3 : 2 ^ 99 * UU + 1024 ≤ 2 ^ 100 * UU := by omega
      generalize 2 ^ k = n at *
      generalize n * v'.natAbs = y at *
      omega
    obtain ⟨e, he⟩ : ∃ e : Nat, p.2 = e := ⟨p.2.toNat, by have := hI.e0; omega⟩
    have hen : p.2.toNat = e := by rw [he, Int.toNat_natCast]
    have hdiv : (p.2 + (2 ^ k - 1)) / 2 ^ k + 1 = (((e + (2 ^ k - 1)) / 2 ^ k + 1 : Nat) : Int) := by
      rw [he, hpi]
      have : (e : Int) + (((2 ^ k : Nat) : Int) - 1) = ((e + (2 ^ k - 1) : Nat) : Int) := by omega
      rw [this, ← Int.natCast_ediv]
      rfl
    have hceil : e + 2 ^ k ≤ ((e + (2 ^ k - 1)) / 2 ^ k + 1) * 2 ^ k := by
      generalize 2 ^ k = n at *
      have h3 := Nat.div_add_mod (e + (n - 1)) n
      have h4 := Nat.mod_lt (e + (n - 1)) (show 0 < n by omega)
      rw [Nat.add_mul, Nat.one_mul, Nat.mul_comm ((e + (n - 1)) / n)]
      omega
    have hI1 := hI.re
    have hI2 := hI.im
    unfold Ip at hI1 hI2
    rw [hen] at hI1 hI2
    have g1 := div_part DD_pos d1 hI1 hceil
    have g2 := div_part DD_pos d2 hI2 hceil
    have hcast : ((2 ^ (124 * k + 62 * k + k) : Nat) : Int) = ((2 ^ (124 * k + 62 * k) : Nat) : Int) * ((2 ^ k : Nat) : Int) := by rw [Nat.pow_add, Int.natCast_mul]
    have hInv : Inv (2 ^ (124 * k + 62 * k + k)) (dvd k p) q := by
      refine ⟨?_, ?_, ?_⟩
      · show 0 ≤ (p.2 + (2 ^ k - 1)) / 2 ^ k + 1
        rw [hdiv]; exact Int.natCast_nonneg _
      · show (V (fquo p.1.1 (dbl ((2 ^ k : Nat) : Int))) * ((2 ^ (124 * k + 62 * k + k) : Nat) : Int) - q.1 * (UU : Int)).natAbs ≤ ((p.2 + (2 ^ k - 1)) / 2 ^ k + 1).toNat * DD * 2 ^ (124 * k + 62 * k + k)
        rw [hdiv, Int.toNat_natCast, hcast, Nat.pow_add 2 (124 * k + 62 * k) k]
        exact g1
      · show (V (fquo p.1.2 (dbl ((2 ^ k : Nat) : Int))) * ((2 ^ (124 * k + 62 * k + k) : Nat) : Int) - q.2 * (UU : Int)).natAbs ≤ ((p.2 + (2 ^ k - 1)) / 2 ^ k + 1).toNat * DD * 2 ^ (124 * k + 62 * k + k)
        rw [hdiv, Int.toNat_natCast, hcast, Nat.pow_add 2 (124 * k + 62 * k) k]
        exact g2
    have hkeep2 := shRun_keep k 255 xs ys h1 h2 (by omega) hx hy
    have herr : (dvd k p).2 ≤ 2 ^ 150 := by
      rw [← e1]
      exact (hkeep2 i (by rw [shRun_length]; exact hi)).2
    exact holds_of (by omega) hInv ⟨fquo_lt _ _, fquo_lt _ _⟩ q1 q2 (hsz d1 b1) (hsz d2 b2) herr
end Hp
end Go.Proofs.Ygctak
