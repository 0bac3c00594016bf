/-
  Walks: law.doubleLoop, sameInts.
-/
import Derived.Test.YgctakCx1
import Derived.Test.YgctakFt12
namespace Go.Proofs.Ygctak
open Go.RowKit
set_option linter.unusedVariables false
set_option linter.unusedSimpArgs false
attribute [local go_sem ↓] Go.wp_at_zero Go.wp_at_succ
namespace Cx
open Ac Fl Sh Ft

/-- A row of int64. -/
def I64 (f : Nat → Int) (n : Nat) : List Value := (List.range n).map fun m => .int .i64 (f m)
theorem I64_length (f : Nat → Int) (n : Nat) : (I64 f n).length = n := by simp [I64]
theorem I64_get (f : Nat → Int) (n m : Nat) (h : m < n) : (I64 f n)[m]? = some (.int .i64 (f m)) := by simp [I64, h]
theorem I64_congr {f g : Nat → Int} {n : Nat} (h : ∀ m, m < n → f m = g m) : I64 f n = I64 g n := by
  unfold I64
  exact List.map_congr_left fun m hm => by rw [h m (by simpa using hm)]
theorem I64_set (f : Nat → Int) (n i : Nat) (v : Int) : (I64 f n).set i (.int .i64 v) = I64 (fun m => if m = i then v else f m) n := by
  apply List.ext_getElem
  · simp [I64]
  · intro m h1 h2
    rw [List.getElem_set]
    simp only [I64, List.getElem_map, List.getElem_range]
    by_cases hm : i = m
    · subst hm; simp
    · rw [if_neg hm, if_neg (Ne.symm hm)]

/-- The double loop: i rows and j terms of the next. -/
def dl (xs ys : List Int) (i j m : Nat) : Int := sm (fun p => sm (fun q => if p + q = m then dg xs p * dg ys q else 0) ys.length) i + sm (fun q => if i + q = m then dg xs i * dg ys q else 0) j
theorem dl_zero (xs ys : List Int) (m : Nat) : dl xs ys 0 0 m = 0 := by simp [dl, sm]
theorem dl_step (xs ys : List Int) (i j m : Nat) : dl xs ys i (j + 1) m = dl xs ys i j m + (if i + j = m then dg xs i * dg ys j else 0) := by
  unfold dl; simp only [sm]; omega
theorem dl_row (xs ys : List Int) (i m : Nat) : dl xs ys i ys.length m = dl xs ys (i + 1) 0 m := by
  unfold dl; simp only [sm]; omega
theorem dg_byte {xs : List Int} (h : Byte xs) (m : Nat) : 0 ≤ dg xs m ∧ dg xs m ≤ 255 := by
  unfold dg
  by_cases hm : m < xs.length
  · exact h m hm
  · rw [List.getD_eq_getElem?_getD, List.getElem?_eq_none (by omega)]; simp
theorem dl_bd {xs ys : List Int} (hx : Byte xs) (hy : Byte ys) (i j m : Nat) (hi : i ≤ 512) (hj : j ≤ 512) (ly : ys.length ≤ 512) : (dl xs ys i j m).natAbs ≤ 20000000000 := by
  have t : ∀ p q, (if p + q = m then dg xs p * dg ys q else 0 : Int).natAbs ≤ 65025 := fun p q => by
    split
    · have a := dg_byte hx p
      have b := dg_byte hy q
      have h1 := Int.mul_nonneg a.1 b.1
      have h2 := Int.mul_le_mul a.2 b.2 b.1 (by omega)
      omega
    · simp
  have a1 : (sm (fun p => sm (fun q => if p + q = m then dg xs p * dg ys q else 0) ys.length) i).natAbs ≤ i * (ys.length * 65025) := sm_bound fun p _ => sm_bound fun q _ => t p q
  have a2 : (sm (fun q => if i + q = m then dg xs i * dg ys q else 0) j).natAbs ≤ j * 65025 := sm_bound fun q _ => t i q
  have a3 : i * (ys.length * 65025) ≤ 512 * (512 * 65025) := Nat.mul_le_mul hi (Nat.mul_le_mul_right _ ly)
  have a4 : j * 65025 ≤ 512 * 65025 := Nat.mul_le_mul_right _ hj
  unfold dl
  omega

theorem info2 : (Takg.prog.info? 2).map (fun i => (i.zero, i.size, i.bytes)) = some (some (.int .i64 0), 1, 8) := by kernel_rfl

set_option maxHeartbeats 1000000 in
theorem doubleLoop_any (b1 o1 c1 b2 o2 c2 : Nat) (xs ys : List Int) (w : World) (l1 : 1 ≤ xs.length) (l2 : 1 ≤ ys.length) (m1 : xs.length ≤ 512) (m2 : ys.length ≤ 512) (g1 : Dig w b1 o1 xs) (g2 : Dig w b2 o2 ys) (hx : Byte xs) (hy : Byte ys) :
    Calls Takg.prog 82 #[.slice (some ⟨b1, o1, none⟩) xs.length c1, .slice (some ⟨b2, o2, none⟩) ys.length c2] w fun e w' =>
      ∃ b, e = .returned (.slice (some ⟨b, 0, none⟩) (xs.length + ys.length - 1) (xs.length + ys.length - 1)) ∧ Blk w' b 2 (I64 (dl xs ys xs.length 0) (xs.length + ys.length - 1)) ∧ Chg [] w w' := by
  have HG1 := hide g1
  have HG2 := hide g2
  have HX := hide hx
  have HY := hide hy
  have lt1 := g1.lt
  have lt2 := g2.lt
  have HRW := hide (dl_row xs ys)
  have HST := hide (dl_step xs ys)
  have HBD := hide (fun i j m hi hj => dl_bd hx hy i j m hi hj m2)
  obtain ⟨n1, hn1⟩ : ∃ n, n = xs.length := ⟨_, rfl⟩
  obtain ⟨n2, hn2⟩ : ∃ n, n = ys.length := ⟨_, rfl⟩
  rw [← hn1, ← hn2]
  rw [← hn1] at l1 m1
  rw [← hn2] at l2 m2 HRW
  have HN1 := hide hn1
  have HN2 := hide hn2
  obtain ⟨n, hn⟩ : ∃ n, n = n1 + n2 - 1 := ⟨_, rfl⟩
  rw [← hn]
  have HN := hide hn
  have hnn : n ≤ 1023 := by omega
  have hmk := make_run (P := Takg.prog) 28 2 (.int .i64 0) 8 n rfl Takg.underlying28 info2 (by omega) (by omega)
  have e0 : (n1 : Int) + n2 - 1 = (n : Int) := by omega
  have z1 : ((n1 : Int) == 0) = false := by rw [beq_eq_false_iff_ne]; omega
  have z2 : ((n2 : Int) == 0) = false := by rw [beq_eq_false_iff_ne]; omega
  clear hn hn1 hn2 g1 g2 hx hy
  go_enter Takg.func82, Takg.ntmps82
  go_wp2_with fail
  clear hmk e0
  obtain ⟨b, hb⟩ : ∃ b, b = w.heap.size := ⟨_, rfl⟩
  have hbn := Blk.newRep w n (Value.int .i64 0) 2
  have hch := (Chg.refl [] w).alloc (.cells (Array.replicate n (Value.int .i64 0)) 2)
  have er : List.replicate n (Value.int .i64 0) = I64 (dl xs ys 0 0) n := by
    apply List.ext_getElem
    · simp [I64]
    · intro i h1 h2; simp [I64, dl_zero]
  rw [er] at hbn
  rw [← hb] at hbn lt1 lt2 ⊢
  have HB := hide hb
  have D1 := hide (hch.dig HG1.out (by simp))
  have D2 := hide (hch.dig HG2.out (by simp))
  clear hb er HG1 HG2
  generalize w.alloc (.cells (Array.replicate n (Value.int .i64 0)) 2) = w1 at *
  go_loopw [6] (fun i wr => ∃ i' : Nat, i = .int .i64 i' ∧ i' ≤ n1 ∧ Blk wr b 2 (I64 (dl xs ys i' 0) n) ∧ Hid (Dig wr b1 o1 xs) ∧ Hid (Dig wr b2 o2 ys) ∧ Chg [] w wr) (fun i _ => n1 - (intOf i).toNat)
  case atStart => exact ⟨0, rfl, by omega, hbn, D1, D2, hch⟩
  case round =>
    clear hbn D1 D2 hch
    obtain ⟨i, rfl, hi, hbk, D1, D2, hc⟩ := hrel
    by_cases hlt : i < n1
    · go_wp2_with fail
      go_loopw [7] (fun j wr => ∃ j' : Nat, j = .int .i64 j' ∧ j' ≤ n2 ∧ Blk wr b 2 (I64 (dl xs ys i j') n) ∧ Hid (Dig wr b1 o1 xs) ∧ Hid (Dig wr b2 o2 ys) ∧ Chg [] w wr) (fun j _ => n2 - (intOf j).toNat)
      case atStart => exact ⟨0, rfl, by omega, hbk, D1, D2, hc⟩
      case round =>
        clear hbk D1 D2 hc
        obtain ⟨j, rfl, hj, hbk, D1, D2, hc⟩ := hrel
        by_cases hjl : j < n2
        · have hij : i + j < n := by have := HN.out; omega
          obtain ⟨u, hu⟩ : ∃ u, u = dg xs i := ⟨_, rfl⟩
          obtain ⟨v, hv⟩ : ∃ v, v = dg ys j := ⟨_, rfl⟩
          obtain ⟨c, hc0⟩ : ∃ c, c = dl xs ys i j (i + j) := ⟨_, rfl⟩
          have bu := dg_byte HX.out i
          have bv := dg_byte HY.out j
          have bd1 := HBD.out i j (i + j) (by omega) (by omega)
          have bd2 := HBD.out i (j + 1) (i + j) (by omega) (by omega)
          have hs := HST.out i j (i + j)
          rw [if_pos rfl] at hs
          rw [hs] at bd2
          rw [← hc0] at bd1 bd2
          rw [← hu] at bu bd2
          rw [← hv] at bv bd2
          have k0 := hbk.cell _ _ (I64_get _ n (i + j) hij)
          rw [← hc0] at k0
          have f0 := hbk.frozen (i + j) none
          have k1 := D1.out.cell i (by rw [← HN1.out]; exact hlt)
          have k2 := D2.out.cell j (by rw [← HN2.out]; exact hjl)
          have hu' : xs.getD i 0 = u := hu.symm
          have hv' : ys.getD j 0 = v := hv.symm
          rw [hu'] at k1
          rw [hv'] at k2
          have w1' : IntKind.i64.wrap ((i : Int) + j) = ((i + j : Nat) : Int) := by rw [IntKind.wrap_i64]; omega
          have w2' : wrap64 (u * v) = u * v := by
            have h1 := Int.mul_nonneg bu.1 bv.1
            have h2 := Int.mul_le_mul bu.2 bv.2 bv.1 (by omega)
            unfold wrap64; omega
          have w3' : wrap64 (c + u * v) = c + u * v := by
            unfold wrap64; omega
          have hnext := hbk.set (i + j) (.int .i64 (c + u * v))
          rw [I64_set, I64_congr (g := dl xs ys i (j + 1)) (fun m _ => by
            rw [HST.out, hc0, hu, hv]
            by_cases hm : m = i + j
            · subst hm; rw [if_pos rfl, if_pos rfl]
            · rw [if_neg hm, if_neg (Ne.symm hm)]; omega)] at hnext
          have d1 := hide (D1.out.setNe ⟨b, i + j, none⟩ (by simp; omega) (.int .i64 (c + u * v)))
          have d2 := hide (D2.out.setNe ⟨b, i + j, none⟩ (by simp; omega) (.int .i64 (c + u * v)))
          have hcn := hc.setNew ⟨b, i + j, none⟩ (by have := HB.out; simp; omega) (.int .i64 (c + u * v))
          have HW : Hid (wrap64 (c + wrap64 (u * v)) = c + u * v) := by unfold Hid; rw [w2', w3']
          have tn : ((i : Int) + (j : Int)).toNat = i + j := by omega
          have tn2 : (((i + j : Nat) : Int)).toNat = i + j := by omega
          clear hu hv hc0 hu' hv' hs bd1 bd2 w2' w3'
          go_wp2_with fail
          go_region
          go_wp2_with fail
          go_roundw
          case rel =>
            rw [HW.out]
            exact ⟨j + 1, by go_num, by omega, hnext.drew, d1.out.drew, d2.out.drew, hcn.drew⟩
          case measure => simp [intOf]; omega
        · have hje : j = n2 := by omega
          subst hje
          go_wp2_with fail
          go_roundw
          case rel =>
            refine ⟨i + 1, by go_num, by omega, ?_, D1, D2, hc⟩
            rw [← I64_congr (fun m _ => HRW.out i m)]
            exact hbk
          case measure => simp [intOf]; omega
    · have hin : i = n1 := by omega
      subst hin
      go_wp2_with fail
      go_ret
      exact ⟨b, rfl, HN1.out ▸ hbk, hc⟩
end Cx
end Go.Proofs.Ygctak
