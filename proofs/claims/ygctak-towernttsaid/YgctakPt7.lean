/-
  Walks: shadow.Divide.
-/
import Derived.Test.YgctakPt6
namespace Go.Proofs.Ygctak
open Go.RowKit
set_option linter.unusedVariables false
set_option linter.unusedSimpArgs false
attribute [local go_sem ↓] Go.wp_at_zero Go.wp_at_succ
attribute [local go_sem] Fl.run_store_complex Fl.run_store_float
namespace Sh
open Ac Fl

/-- The first i points by f, the others as they were. -/
def upTo (f : Nat → P) (x : List P) (i : Nat) : List P := (List.range x.length).map fun m => if m < i then f m else x.getD m p0
theorem upTo_length (f : Nat → P) (x : List P) (i : Nat) : (upTo f x i).length = x.length := by simp [upTo]
theorem upTo_zero (f : Nat → P) (x : List P) : upTo f x 0 = x := by
  have : (List.range x.length).map (fun m => if m < 0 then f m else x.getD m p0) = (List.range x.length).map (fun i => x.getD i p0) := List.map_congr_left fun i hi => by rw [if_neg (by omega)]
  unfold upTo
  rw [this, getD_range]
theorem upTo_get (f : Nat → P) (x : List P) (i m : Nat) (h : m < x.length) : (upTo f x i).getD m p0 = if m < i then f m else x.getD m p0 := by
  simp [upTo, List.getD_eq_getElem?_getD, h]
theorem upTo_here (f : Nat → P) (x : List P) (i : Nat) (h : i < x.length) : (upTo f x i).getD i p0 = x.getD i p0 := by rw [upTo_get f x i i h, if_neg (by omega)]
theorem upTo_set (f : Nat → P) (x : List P) (i : Nat) (h : i < x.length) : (upTo f x i).set i (f i) = upTo f x (i + 1) := by
  apply List.ext_getElem
  · simp [upTo]
  · intro m h1 h2
    rw [List.getElem_set]
    simp only [upTo, List.getElem_map, List.getElem_range]
    by_cases hm : i = m
    · subst hm; rw [if_pos rfl, if_pos (by omega)]
    · rw [if_neg hm]
      by_cases h3 : m < i
      · rw [if_pos h3, if_pos (by omega)]
      · rw [if_neg h3, if_neg (by omega)]
theorem upTo_all (f : Nat → P) (x : List P) : upTo f x x.length = (List.range x.length).map f := by
  unfold upTo
  refine List.map_congr_left fun m hm => ?_
  rw [if_pos (by simpa using hm)]
theorem set_getD (X : List P) (i : Nat) (p : P) (h : i < X.length) : (X.set i p).getD i p0 = p := by simp [List.getD_eq_getElem?_getD, h]

/-- A float by a float. -/
def fquo (x y : Nat) : Nat := (floatBits .quo .f64 x y).getD 0
/-- n = 2^k as a float has a mantissa. -/
theorem dbl_pow (k : Nat) (hk : k ≤ 10) : ∃ m j, Ieee.double.read (dbl ((2 ^ k : Nat) : Int)) = .number false m j ∧ m ≠ 0 := by
  have key : ∀ k, k < 11 → (match Ieee.double.read (dbl ((2 ^ k : Nat) : Int)) with | .number s m j => s == false && m != 0 | _ => false) = true := by
    intro n hn
    match n, hn with
    | 0, _ | 1, _ | 2, _ | 3, _ | 4, _ | 5, _ | 6, _ | 7, _ | 8, _ | 9, _ | 10, _ => decide +kernel
  have h := key k (by omega)
  split at h
  · rename_i s m j e
    simp at h
    obtain ⟨rfl, h2⟩ := h
    exact ⟨m, j, e, h2⟩
  · cases h
theorem quo_some (x k : Nat) (hk : k ≤ 10) (hx : Finite x) : floatBits .quo .f64 x (dbl ((2 ^ k : Nat) : Int)) = some (fquo x (dbl ((2 ^ k : Nat) : Int))) := by
  obtain ⟨s, m, i, hr⟩ := hx
  obtain ⟨m2, j, hr2, h0⟩ := dbl_pow k hk
  have : ∃ r, floatBits .quo .f64 x (dbl ((2 ^ k : Nat) : Int)) = some r := by
    show ∃ r, Ieee.double.div x (dbl ((2 ^ k : Nat) : Int)) = some r
    unfold Ieee.Format.div
    rw [hr, hr2]
    simp only [Ieee.Datum.quotient]
    rw [if_neg h0]
    exact ⟨_, rfl⟩
  obtain ⟨r, hr3⟩ := this
  unfold fquo
  rw [hr3]
  rfl

/-- A point of 2^k, divided. -/
def dvd (k : Nat) (p : P) : P := ((fquo p.1.1 (dbl ((2 ^ k : Nat) : Int)), fquo p.1.2 (dbl ((2 ^ k : Nat) : Int))), (p.2 + (2 ^ k - 1)) / 2 ^ k + 1)
def dvs (k : Nat) (x : List P) : List P := (List.range x.length).map fun i => dvd k (x.getD i p0)

set_option maxRecDepth 100000 in
set_option maxHeartbeats 1000000 in
theorem Divide_any (b tb k E : Nat) (x : List P) (w : World) (hk0 : 1 ≤ k) (hk : k ≤ 10) (hn : x.length = 2 ^ k) (hb : Blk w b tb (Pts x)) (hx : AllP E 150 x) :
    Calls Takg.prog 76 #[.slice (some ⟨b, 0, none⟩) (2 ^ k) (2 ^ k)] w fun e w' => e = .returned (.tuple #[]) ∧ Blk w' b tb (Pts (dvs k x)) ∧ Chg [b] w w' := by
  have hlev := fun W => level_any k W (by omega)
  have hn2 : 2 ^ k ≤ 1024 := Nat.pow_le_pow_right (n := 2) (by omega) hk
  have hn1 : 2 ≤ 2 ^ k := by
    have : 2 ^ 1 ≤ 2 ^ k := Nat.pow_le_pow_right (n := 2) (by omega) hk0
    omega
  have hquo := fun x hx => quo_some x k hk hx
  have hdv : ∀ i, i < x.length → dvd k (x.getD i p0) = ((fquo (x.getD i p0).1.1 (dbl ((2 ^ k : Nat) : Int)), fquo (x.getD i p0).1.2 (dbl ((2 ^ k : Nat) : Int))), ((x.getD i p0).2 + (((2 ^ k : Nat) : Int) - 1)) / 2 ^ k + 1) := fun i _ => by
    unfold dvd; rw [ipow]
  have hpw : IntKind.u64.wrap (2 ^ k) = ((2 ^ k : Nat) : Int) := by
    rw [← ipow, IntKind.wrap_u64]
    generalize 2 ^ k = A at *
    omega
  obtain ⟨n, en⟩ : ∃ n, n = 2 ^ k := ⟨_, rfl⟩
  rw [← en] at hn2 hn hlev hn1 hquo hdv hpw
  rw [← en]
  obtain ⟨q, hq⟩ : ∃ q, q = dbl (n : Int) := ⟨_, rfl⟩
  rw [← hq] at hquo hdv
  have HQ := hide hq
  have HL := hide hlev
  have HN := hide hn
  have HQU := hide hquo
  have HDV := hide hdv
  have HPW := hide hpw
  clear hlev hn hquo hdv hpw en hq
  go_enter Takg.func76, Takg.ntmps76
  go_upto_region 3 with (refine (HL.out _).mono ?_; rintro e w' ⟨rfl, rfl⟩)
  have hpw := HPW.out
  have hq2 : floatOfInt FloatKind.f64 (n : Int) = q := HQ.out.symm
  rw [hq2]
  clear hq2
  go_upto_region 4 with (first | (refine wpList_acc (by rfl) _ (by rfl) ((n : Int) - 1) (by rfl) (by omega) (by omega) ?_) | (refine wpList_newAcc (by rfl) (by rfl) (by rfl) _ _ (by rfl) ((n : Int) - 1) (by rfl) (fun _ => by rfl) (fun _ => by rfl) ?_; intro br w1 hbr hkr hc1))
  clear hpw
  go_wp2_with (first | (refine wpList_acc (by rfl) _ (by rfl) 1 (by rfl) (by omega) (by omega) ?_) | (refine wpList_newAcc (by rfl) (by rfl) (by rfl) _ _ (by rfl) 1 (by rfl) (fun _ => by rfl) (fun _ => by rfl) ?_; intro bo w2 hbo hko hc2))
  have lb := hb.lt
  have s1 := hc1.size
  have hb2 := hc2.blk (hc1.blk hb (by simp)) (by simp)
  have hkr2 := hc2.blk hkr (by simp)
  have gr : w'.heap.size ≤ br := by have := hbr.out; omega
  have go : w'.heap.size ≤ bo := by have := hbo.out; omega
  have nro : br ≠ bo := by have := hbo.out; have := hkr.lt; omega
  have hc : Chg [b] w' w2 := (hc1.trans hc2).mono (by simp)
  rw [← upTo_zero (fun i => dvd k (x.getD i p0)) x] at hb2
  obtain ⟨f, hf⟩ : ∃ f, f = fun i => dvd k (x.getD i p0) := ⟨_, rfl⟩
  rw [← hf] at hb2
  have HF := hide hf
  clear hc1 hc2 hb hkr hbr hbo s1 hf
  go_loopw [6] (fun v wr => ∃ i : Nat, v = .int .i64 i ∧ i ≤ n ∧ Blk wr b tb (Pts (upTo f x i)) ∧ Blk wr br 58 (W ((n : Int) - 1)) ∧ Blk wr bo 58 (W 1) ∧ Chg [b] w' wr) (fun v _ => n - (intOf v).toNat)
  case atStart => exact ⟨0, rfl, by omega, hb2, hkr2, hko, hc⟩
  case round =>
    clear hb2 hkr2 hko hc
    obtain ⟨i, rfl, hi, hbx, hkr, hko, hcr⟩ := hrel
    by_cases hil : i < n
    · have hxl := HN.out
      obtain ⟨hz, e0, e1⟩ := hx i (by omega)
      have hhere := upTo_here f x i (by omega)
      have hdvi := HDV.out i (by omega)
      have hset := upTo_set f x i (by omega)
      have hfi : f i = dvd k (x.getD i p0) := by rw [HF.out]
      rw [hfi, hdvi] at hset
      have hXl := upTo_length f x i
      obtain ⟨X, hX⟩ : ∃ X, X = upTo f x i := ⟨_, rfl⟩
      obtain ⟨z, hzz⟩ : ∃ z, z = (x.getD i p0).1 := ⟨_, rfl⟩
      obtain ⟨e, he⟩ : ∃ e, e = (x.getD i p0).2 := ⟨_, rfl⟩
      rw [← hX] at hhere hset hbx hXl
      have k0 := ptZ hbx i (by omega)
      rw [hhere] at k0
      rw [← hzz] at hz k0 hset
      rw [← he] at e0 e1 hset
      have hq1 := HQU.out z.1 hz.1.1
      have hq2 := HQU.out z.2 hz.2.1
      obtain ⟨z1, hz1⟩ : ∃ z1, z1 = fquo z.1 q := ⟨_, rfl⟩
      obtain ⟨z2, hz2⟩ : ∃ z2, z2 = fquo z.2 q := ⟨_, rfl⟩
      rw [← hz1] at hq1 hset
      rw [← hz2] at hq2 hset
      have R1 := fun w => run_float_arith (P := Takg.prog) w .quo 122 .f64 z.1 q z1 hq1
      have R2 := fun w => run_float_arith (P := Takg.prog) w .quo 122 .f64 z.2 q z2 hq2
      have f0 := hbx.frozen (i * 69) none
      have hZ := setZ hbx i (by omega) (z1, z2)
      rw [hhere, ← he] at hZ
      have HXL : Hid (X.length = n) := hXl.trans hxl
      have HSET := hide hset
      clear hxl hhere hdvi hset hfi hXl hX hzz he hq1 hq2 hz1 hz2
      go_upto_region 8 with fail
      go_cut [] (fun wc => Blk wc b tb (Pts (X.set i ((z1, z2), e))) ∧ Blk wc br 58 (W ((n : Int) - 1)) ∧ Blk wc bo 58 (W 1) ∧ Chg [b] w' wc)
      case first =>
        go_region
        all_goals (
          go_wp2_with fail
          go_meet
          exact ⟨hZ.drew, (hkr.set_ne _ (by simp; omega) _).drew, (hko.set_ne _ (by simp; omega) _).drew, (hcr.setCell _ (by simp) _).drew⟩)
      case rest =>
        clear hbx hkr hko hcr k0 f0 R1 R2 hZ
        obtain ⟨hbx, hkr, hko, hcr⟩ := hcut
        have hp := ptE hbx i (by rw [List.length_set, HXL.out]; omega)
        rw [set_getD X i _ (by rw [HXL.out]; omega)] at hp
        have HA := hide (Add_any b (i * 69 + 1) tb br 0 58 _ _ [] [] e ((n : Int) - 1) wc (by omega) hp (At.whole hkr))
        go_wp2_with fail
        refine HA.out.mono ?_
        rintro e' w3 ⟨rfl, hp3, hc3⟩
        have hkr3 := hc3.blk hkr (by simp; omega)
        have hko3 := hc3.blk hko (by simp; omega)
        have hcr3 := hcr.trans hc3
        obtain ⟨pre, hpre⟩ : ∃ l, l = Pts ((X.set i ((z1, z2), e)).take i) ++ [Value.complex FloatKind.f64 z1 z2] := ⟨_, rfl⟩
        obtain ⟨suf, hsuf⟩ : ∃ l, l = Pts ((X.set i ((z1, z2), e)).drop (i + 1)) := ⟨_, rfl⟩
        have HPRE := hide hpre
        have HSUF := hide hsuf
        rw [← hpre, ← hsuf] at hp3
        have hbig := half_big
        have hlt : e + ((n : Int) - 1) < half := by
          have e9 : (2 : Int) ^ 150 + 1024 < 2 ^ 200 := by decide
          omega
        have HDN := hide (fun W => down_any (e + ((n : Int) - 1)) k W (by omega) hlt (by omega) (by omega))
        clear HA hp hbx hkr hko hcr hc3 hpre hsuf hbig hlt
        go_wp2_with (refine wpList_loadAcc (by rfl) _ (by rfl) b (i * 69 + 1) tb pre suf (e + ((n : Int) - 1)) (by rfl) hp3 ?_)
        refine (HDN.out _).mono ?_
        rintro e' w4 ⟨rfl, hc4⟩
        have hp4 := hp3.chg hc4 (by simp)
        have hkr4 := hc4.blk hkr3 (by simp)
        have hko4 := hc4.blk hko3 (by simp)
        have hcr4 := hcr3.trans (hc4.mono (by simp))
        clear hp3 hkr3 hko3 hcr3 hc4 HDN
        obtain ⟨d, hd⟩ : ∃ d, d = (e + ((n : Int) - 1)) / 2 ^ k := ⟨_, rfl⟩
        have HDD := hide hd
        rw [← hd]
        clear hd
        go_upto_region 11 with (refine wpList_storeAcc (by rfl) _ _ (by rfl) (by rfl) b (i * 69 + 1) tb pre suf (W (e + ((n : Int) - 1))) d (W_length _) hp4 (by rfl) (by rfl) ?_; intro w5 hp5 hc5)
        have hkr5 := hc5.blk hkr4 (by simp; omega)
        have hko5 := hc5.blk hko4 (by simp; omega)
        have hcr5 := hcr4.trans hc5
        clear hp4 hkr4 hko4 hcr4 hc5
        have HA := hide (Add_any b (i * 69 + 1) tb bo 0 58 _ _ [] [] d 1 w5 (by omega) hp5 (At.whole hko5))
        go_wp2_with fail
        refine HA.out.mono ?_
        rintro e' w6 ⟨rfl, hp6, hc6⟩
        have hkr6 := hc6.blk hkr5 (by simp; omega)
        have hko6 := hc6.blk hko5 (by simp; omega)
        have hcr6 := hcr5.trans hc6
        rw [HPRE.out, HSUF.out, HDD.out] at hp6
        have hl6 : i < (X.set i ((z1, z2), e)).length := by rw [List.length_set, HXL.out]; omega
        have hb6 := unE (x := X.set i ((z1, z2), e)) i hl6 (z := (z1, z2)) hp6
        clear hl6
        rw [List.set_set, HSET.out] at hb6
        clear HA hp5 hp6 hkr5 hko5 hcr5 hc6
        go_wp2_with fail
        go_roundw
        case rel => exact ⟨i + 1, by go_num, by omega, hb6, hkr6, hko6, hcr6⟩
        case measure => simp [intOf]; omega
    · have hie : i = n := by omega
      rw [hie, ← HN.out, upTo_all] at hbx
      clear hie
      go_wp2_with fail
      go_end0
      refine ⟨rfl, ?_, hcr⟩
      unfold dvs
      rw [← HF.out]
      exact hbx
end Sh
end Go.Proofs.Ygctak
