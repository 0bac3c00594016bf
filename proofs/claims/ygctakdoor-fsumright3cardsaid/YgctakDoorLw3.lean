/-
  Walks: law.floats, FsumRight, FsumRight2, FsumRight3.
-/
import Derived.Test.YgctakDoorLw2
namespace Go.Proofs.YgctakDoor
open Go.RowKit
set_option linter.unusedVariables false
set_option linter.unusedSimpArgs false
attribute [local go_sem ↓] Go.wp_at_zero Go.wp_at_succ
attribute [local go_sem] Shw.run_store_float
namespace Lw
open Ac Rn Fl Bt Shw Rd Fb

/-- The first i doubles laid. -/
def laidTo (zs : List Nat) (n i : Nat) : List Value := (List.range n).map fun j => if j < i then .float .f64 (zs.getD j 0) else .float .f64 0
theorem laidTo_length (zs : List Nat) (n i : Nat) : (laidTo zs n i).length = n := by simp [laidTo]
theorem laidTo_get (zs : List Nat) (n i j : Nat) (h : j < n) : (laidTo zs n i)[j]? = some (if j < i then .float .f64 (zs.getD j 0) else .float .f64 0) := by simp [laidTo, h]
theorem laidTo_zero (zs : List Nat) (n : Nat) : laidTo zs n 0 = List.replicate n (.float .f64 0) := by
  apply List.ext_getElem
  · simp [laidTo]
  · intro i h1 h2; simp [laidTo]
theorem laidTo_set (zs : List Nat) (n i : Nat) : (laidTo zs n i).set i (.float .f64 (zs.getD i 0)) = laidTo zs n (i + 1) := by
  apply List.ext_getElem
  · simp [laidTo]
  · intro m h1 h2
    rw [List.getElem_set]
    simp only [laidTo, List.getElem_map, List.getElem_range]
    by_cases hm : i = m
    · subst hm; rw [if_pos rfl, if_pos (by omega)]
    · rw [if_neg hm]
      by_cases h3 : m < i
      · rw [if_pos h3, if_pos (by omega)]
      · rw [if_neg h3, if_neg (by omega)]

set_option maxHeartbeats 1000000 in
theorem floats_any (bx cap : Nat) (zs : List Nat) (w : World) (hn : zs.length ≤ 3) (hbx : bx < w.heap.size) (hx : ∀ j, j < zs.length → w.cell? ⟨bx, j, none⟩ = some (.int .u64 (zs.getD j 0 : Nat))) :
    Calls Takg.prog 6 #[.slice (some ⟨bx, 0, none⟩) zs.length cap, .int .i64 1024] w fun e w' => ∃ b, e = .returned (.slice (some ⟨b, 0, none⟩) zs.length zs.length) ∧ Row w' b zs ∧ Chg [] w w' := by
  obtain ⟨n, hn0⟩ : ∃ n, n = zs.length := ⟨_, rfl⟩
  have HX := hide hx
  rw [← hn0] at hn HX ⊢
  have HNN := hide hn0
  have hmk := fun W : World => make_run2 (P := Takg.prog) 27 33 (.float .f64 0) 8 n n rfl Takg.underlying27 info33 (by omega) (by omega) (by omega) W
  have HF := hide f64_any
  clear hn0 hx
  go_enter Takg.func6, Takg.ntmps6
  go_wp2_with fail
  clear hmk
  obtain ⟨b, hb⟩ : ∃ b, b = w.heap.size := ⟨_, rfl⟩
  have hbn := Blk.newRep w n (Value.float .f64 0) 33
  have hch := (Chg.refl [] w).alloc (.cells (Array.replicate n (Value.float .f64 0)) 33)
  rw [← laidTo_zero zs n] at hbn
  rw [← hb] at hbn hbx ⊢
  have HB := hide hb
  have HX2 : Hid (∀ j, j < n → (w.alloc (.cells (Array.replicate n (Value.float .f64 0)) 33)).cell? ⟨bx, j, none⟩ = some (.int .u64 (zs.getD j 0 : Nat))) := fun j hj => by
    rw [World.cell?_of_block (w := w) (hch.block bx (by omega) (by simp))]; exact HX.out j hj
  clear hb HX
  generalize w.alloc (.cells (Array.replicate n (Value.float .f64 0)) 33) = w1 at *
  go_loopw [6] (fun i wr => ∃ i' : Nat, i = .int .i64 i' ∧ i' ≤ n ∧ Blk wr b 33 (laidTo zs n i') ∧ Hid (∀ j, j < n → wr.cell? ⟨bx, j, none⟩ = some (.int .u64 (zs.getD j 0 : Nat))) ∧ Chg [] w wr) (fun i _ => n - (intOf i).toNat)
  case atStart => exact ⟨0, rfl, by omega, hbn, HX2, hch⟩
  case round =>
    clear hbn HX2 hch
    obtain ⟨i, rfl, hi, hbk, HX, hc⟩ := hrel
    by_cases hlt : i < n
    · have k0 := HX.out i hlt
      have k1 := hbk.cell i _ (laidTo_get zs n i i hlt)
      have f0 := hbk.frozen i none
      have hnext := hbk.set i (.float .f64 (zs.getD i 0))
      rw [laidTo_set] at hnext
      have HX3 : Hid (∀ j, j < n → (wr.setCell ⟨b, i, none⟩ (.float .f64 (zs.getD i 0))).cell? ⟨bx, j, none⟩ = some (.int .u64 (zs.getD j 0 : Nat))) := fun j hj => by
        rw [World.cell?_of_block (w := wr) (((Chg.refl [b] wr).setCell ⟨b, i, none⟩ (by simp) _).block bx (by have := hc.size; have := HB.out; omega) (by simp; omega))]
        exact HX.out j hj
      have hc3 : Chg [] w (wr.setCell ⟨b, i, none⟩ (.float .f64 (zs.getD i 0))) := hc.setNew _ (by have := HB.out; simp; omega) _
      generalize zs.getD i 0 = x at *
      rw [if_neg (by omega)] at k1
      have HFX := hide (fun W : World => HF.out x W)
      rw [Int.toNat_natCast] at HFX
      clear HX hbk hc
      go_wp2_with fail
      refine (HFX.out _).mono ?_
      rintro e w' ⟨rfl, rfl⟩
      go_wp2_with fail
      go_roundw
      case rel => exact ⟨i + 1, by go_num, by omega, hnext, HX3, hc3⟩
      case measure => simp [intOf]; omega
    · have hin : i = n := by omega
      subst hin
      have hrow : Row wr b zs := ⟨hbk.lt, fun j hj => by
        have := hbk.cell j _ (laidTo_get zs i i j (by have := HNN.out; omega))
        rw [if_pos (by have := HNN.out; omega)] at this
        exact this⟩
      have HR := hide hrow
      clear hrow hbk HX
      go_wp2_with fail
      go_ret
      exact ⟨b, rfl, HR.out, hc⟩

/-- What the sum of the terms must be. -/
def Good (zs : List Nat) : Prop := finV (growAll (zs.map V)).reverse = RN (tot zs) ∧ (tot zs = 0 → growAll (zs.map V) = [])

theorem Good.is {zs : List Nat} (h : Good zs) {r : Nat} (h1 : Finite r) (h2 : r < 2 ^ 64) (h3 : growAll (zs.map V) = [] → r = 0) (h4 : V r = finV (growAll (zs.map V)).reverse) : Is r (tot zs) :=
  ⟨h1, h2, by rw [h4, h.1], fun h5 => h3 (h.2 h5)⟩

set_option maxRecDepth 100000 in
set_option maxHeartbeats 2000000 in
theorem FsumRight_any (bx cap : Nat) (zs : List Nat) (w : World) (hn : zs.length ≤ 3) (hz : ∀ x ∈ zs, x < 2 ^ 64) (hbx : bx < w.heap.size) (hx : ∀ j, j < zs.length → w.cell? ⟨bx, j, none⟩ = some (.int .u64 (zs.getD j 0 : Nat)))
    (hg : (∀ x ∈ zs, Dbl 1000 x) → Good zs ∧ (tot zs).natAbs ≤ 2 ^ 2096) (ht : Tab w) :
    Calls Takg.prog 5 #[.slice (some ⟨bx, 0, none⟩) zs.length cap] w fun e w' => e = .returned (.bool true) ∧ Chg [] w w' := by
  have HFL := hide (floats_any bx cap zs w hn hbx hx)
  have HAD := hide (fun b W hr => admitted_any b zs.length zs W hn hr hz)
  have HAT := hide (fun b W hr hd => accTotal_any b zs.length zs W hn hr hd)
  obtain ⟨Y, hY⟩ : ∃ Y, Hid (Y = tot zs * 2 ^ 1074) := ⟨_, hide rfl⟩
  rw [← hY.out] at HAT
  have HFS := hide (fun b W hr hd => Fsum_any b zs.length zs W hn hr hd)
  have HSF := hide (fun b W hr hd => sumFsum_any b zs.length zs W hn hr hd)
  have HEX := hide (fun b W hr hd => Exact_any b zs.length zs W hn hr hd)
  have HG := hide hg
  have HT := hide ht
  have HSM := hide same_any
  have HGI : Hid (Good zs → ∀ {r : Nat}, Finite r → r < 2 ^ 64 → (growAll (zs.map V) = [] → r = 0) → V r = finV (growAll (zs.map V)).reverse → Is r (tot zs)) := fun h _ => h.is
  generalize zs.length = n at *
  clear hx hbx hz hg ht
  go_enter Takg.func5, Takg.ntmps5
  go_wp2_with fail
  refine HFL.out.mono ?_
  rintro e w1 ⟨b, rfl, hrow, hc1⟩
  have HR := hide hrow
  clear hrow HFL
  go_wp2_with fail
  refine (HAD.out _ _ HR.out).mono ?_
  rintro e w2 ⟨he, rfl⟩
  rcases he with rfl | ⟨rfl, hd⟩
  · go_wp2_with fail
    go_ret
    exact ⟨rfl, hc1⟩
  · obtain ⟨hgood, hbd⟩ := HG.out hd
    have HD := hide hd
    have HGD := hide hgood
    have HBD := hide hbd
    clear hd hgood hbd HG HAD
    go_wp2_with fail
    refine (HAT.out _ _ HR.out HD.out).mono ?_
    rintro e w3 ⟨rfl, hc3⟩
    have HR3 : Hid (Row w3 b zs) := HR.out.chg hc3 (by simp)
    have hc13 : Chg [] w w3 := hc1.trans hc3
    clear hc1 hc3 HR HAT
    obtain ⟨S, hS⟩ : ∃ S, S = tot zs := ⟨_, rfl⟩
    rw [← hS] at HBD HEX HGI hY
    clear hS
    go_wp2_with (refine wpList_newAcc (by rfl) (by rfl) (by rfl) _ _ (by rfl) Y (by rfl) (fun _ => by rfl) (fun _ => by rfl) ?_; intro b4 w4 hb4 hk4 hc4)
    have hc14 : Chg [] w w4 := hc13.trans hc4
    have HR4 : Hid (Row w4 b zs) := HR3.out.chg hc4 (by simp)
    have hkA := At.whole hk4
    rw [hY.out] at hkA
    have HRD := hide (Round_any b4 0 31 [] [] S w4 HBD.out hkA (HT.out.chg hc14 (by simp)))
    clear hkA
    clear hc13 hc4 HR3 hk4 hb4
    refine HRD.out.mono ?_
    rintro e w5 ⟨r, rfl, hri, hc5⟩
    have HI := hide hri
    have hc15 : Chg [] w w5 := hc14.trans hc5
    have HR5 : Hid (Row w5 b zs) := HR4.out.chg hc5 (by simp)
    clear hri hc14 hc5 HR4 HRD
    go_wp2_with fail
    refine (HFS.out _ _ HR5.out HD.out).mono ?_
    rintro e w6 ⟨r1, rfl, f1, f2, f3, f4, hc6⟩
    have e1 := (HGI.out HGD.out f1 f2 f3 f4).unique HI.out
    subst e1
    have hc16 : Chg [] w w6 := hc15.trans hc6
    have HR6 : Hid (Row w6 b zs) := HR5.out.chg hc6 (by simp)
    clear f1 f2 f3 f4 hc15 hc6 HR5 HFS
    go_wp2_with fail
    refine (HSM.out r1 _).mono ?_
    rintro e w7 ⟨rfl, rfl⟩
    go_wp2_with fail
    refine (HSF.out _ _ HR6.out HD.out).mono ?_
    rintro e w8 ⟨r2, rfl, f1, f2, f3, f4, hc8⟩
    have e2 := (HGI.out HGD.out f1 f2 f3 f4).unique HI.out
    subst e2
    have hc18 : Chg [] w w8 := hc16.trans hc8
    have HR8 : Hid (Row w8 b zs) := HR6.out.chg hc8 (by simp)
    clear f1 f2 f3 f4 hc16 hc8 HR6 HSF
    go_wp2_with fail
    refine (HSM.out r2 _).mono ?_
    rintro e w9 ⟨rfl, rfl⟩
    go_wp2_with fail
    refine (HEX.out _ _ HR8.out HD.out HBD.out (HT.out.chg hc18 (by simp))).mono ?_
    rintro e w10 ⟨r3, rfl, hi3, hc10⟩
    have e3 := hi3.unique HI.out
    subst e3
    have hc20 : Chg [] w w10 := hc18.trans hc10
    clear hi3 hc18 hc10 HR8 HEX
    go_wp2_with fail
    refine (HSM.out r3 _).mono ?_
    rintro e w11 ⟨rfl, rfl⟩
    go_wp2_with fail
    go_ret
    exact ⟨rfl, hc20⟩

set_option exponentiation.threshold 5000 in
theorem tot_bd (zs : List Nat) (hn : zs.length ≤ 3) (hd : ∀ x ∈ zs, Dbl 1000 x) : (tot zs).natAbs ≤ 2 ^ 2096 := by
  have key : ∀ (l : List Nat), (∀ x ∈ l, Dbl 1000 x) → (tot l).natAbs ≤ l.length * 2 ^ 2074 := by
    intro l
    induction l with
    | nil => intro _; simp [tot]
    | cons x l ih =>
      intro h
      have h1 := ih (fun y hy => h y (List.mem_cons_of_mem _ hy))
      have h2 : (V x).natAbs ≤ 2 ^ (1000 + 1074) := (h x List.mem_cons_self).bd
      rw [show 1000 + 1074 = 2074 from rfl] at h2
      have e : tot (x :: l) = V x + tot l := by simp [tot]
      rw [e, List.length_cons, Nat.add_mul, Nat.one_mul]
      generalize l.length * 2 ^ 2074 = A at *
      generalize 2 ^ 2074 = B at *
      omega
  have h1 := key zs hd
  have h2 : zs.length * 2 ^ 2074 ≤ 3 * 2 ^ 2074 := Nat.mul_le_mul_right _ hn
  have h3 : 2 ^ 2096 = 2 ^ 22 * 2 ^ 2074 := pow_split 2096 22 2074 (by omega)
  rw [h3]
  generalize 2 ^ 2074 = B at *
  generalize zs.length * B = C at *
  omega

theorem good2 (a b : Nat) (hd : ∀ x ∈ [a, b], Dbl 1000 x) : Good [a, b] := by
  have ha := (hd a (by simp)).F
  have hb := (hd b (by simp)).F
  have e : tot [a, b] = V b + V a := by simp [tot]; omega
  obtain ⟨h1, h2, _⟩ := fsum2 (V a) (V b) ha hb
  refine ⟨?_, ?_⟩
  · rw [e]; exact h1
  · rw [e]; exact h2
theorem good3 (a b c : Nat) (hd : ∀ x ∈ [a, b, c], Dbl 1000 x) : Good [a, b, c] := by
  have ha := (hd a (by simp)).F
  have hb := (hd b (by simp)).F
  have hc := (hd c (by simp)).F
  have e : tot [a, b, c] = V c + V b + V a := by simp [tot]; omega
  obtain ⟨h1, h2, _⟩ := fsum3 (V a) (V b) (V c) ha hb hc
  refine ⟨?_, ?_⟩
  · rw [e]; exact h1
  · rw [e]; exact h2

theorem FsumRight2_any (a b : Nat) (w : World) (ha : a < 2 ^ 64) (hb : b < 2 ^ 64) (ht : Tab w) : Calls Takg.prog 3 #[.int .u64 a, .int .u64 b] w fun e w' => e = .returned (.bool true) ∧ Chg [] w w' := by
  have hz : ∀ x ∈ [a, b], x < 2 ^ 64 := by intro x hx; simp at hx; omega
  have HF := hide (fun W b0 h1 h2 h3 => FsumRight_any b0 2 [a, b] W (by simp) hz h1 h2 (fun hd => ⟨good2 a b hd, tot_bd _ (by simp) hd⟩) h3)
  have HT := hide ht
  clear hz ht ha hb
  go_enter Takg.func3, Takg.ntmps3
  go_wp2_with fail
  have hk := Blk.new w [Value.int .u64 a, Value.int .u64 b] 22
  have hc := (Chg.refl [] w).alloc (.cells #[Value.int .u64 a, Value.int .u64 b] 22)
  refine (HF.out _ w.heap.size hk.lt ?_ (HT.out.chg hc (by simp))).mono ?_
  · intro j hj
    have hj2 : j = 0 ∨ j = 1 := by simp at hj; omega
    rcases hj2 with rfl | rfl
    · exact hk.cell 0 _ rfl
    · exact hk.cell 1 _ rfl
  · rintro e w2 ⟨rfl, hc2⟩
    go_wp2_with fail
    go_ret
    exact ⟨rfl, hc.trans hc2⟩
theorem FsumRight3_any (a b c : Nat) (w : World) (ha : a < 2 ^ 64) (hb : b < 2 ^ 64) (hc : c < 2 ^ 64) (ht : Tab w) : Calls Takg.prog 4 #[.int .u64 a, .int .u64 b, .int .u64 c] w fun e w' => e = .returned (.bool true) ∧ Chg [] w w' := by
  have hz : ∀ x ∈ [a, b, c], x < 2 ^ 64 := by intro x hx; simp at hx; omega
  have HF := hide (fun W b0 h1 h2 h3 => FsumRight_any b0 3 [a, b, c] W (by simp) hz h1 h2 (fun hd => ⟨good3 a b c hd, tot_bd _ (by simp) hd⟩) h3)
  have HT := hide ht
  clear hz ht ha hb hc
  go_enter Takg.func4, Takg.ntmps4
  go_wp2_with fail
  have hk := Blk.new w [Value.int .u64 a, Value.int .u64 b, Value.int .u64 c] 22
  have hc := (Chg.refl [] w).alloc (.cells #[Value.int .u64 a, Value.int .u64 b, Value.int .u64 c] 22)
  refine (HF.out _ w.heap.size hk.lt ?_ (HT.out.chg hc (by simp))).mono ?_
  · intro j hj
    have hj2 : j = 0 ∨ j = 1 ∨ j = 2 := by simp at hj; omega
    rcases hj2 with rfl | rfl | rfl
    · exact hk.cell 0 _ rfl
    · exact hk.cell 1 _ rfl
    · exact hk.cell 2 _ rfl
  · rintro e w2 ⟨rfl, hc2⟩
    go_wp2_with fail
    go_ret
    exact ⟨rfl, hc.trans hc2⟩
end Lw
end Go.Proofs.YgctakDoor
