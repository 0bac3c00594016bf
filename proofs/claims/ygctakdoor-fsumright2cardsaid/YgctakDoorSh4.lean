/-
  Walks: shew.refused, shew.Fsum, sum.refused, sum.Fsum.
-/
import Derived.Test.YgctakDoorSh3
import Derived.Laws.MakeOwn
namespace Go.Proofs.YgctakDoor
open Go.RowKit
set_option linter.unusedVariables false
set_option linter.unusedSimpArgs false
attribute [local go_sem ↓] Go.wp_at_zero Go.wp_at_succ
namespace Shw
open Ac Rn Fl

theorem madeCells_one (z : Value) (n : Nat) : madeCells #[z] n = Array.replicate n z := by
  apply Array.ext
  · simp [madeCells]
  · intro i h1 h2
    simp [madeCells, Nat.mod_one]

theorem make_run2 {P : Program} (t e : TypeId) (z : Value) (bytes l n : Nat) (hz : z.cells = #[z]) (ht : P.underlying t = some (.slice e))
    (hi : (P.info? e).map (fun i => (i.zero, i.size, i.bytes)) = some (some z, 1, bytes)) (hl : l ≤ n) (hn : bytes * n ≤ 281474976710656) (h63 : n ≤ 9223372036854775807) (w : World) :
    (Instr.makeSlice t (.int .i64 l) (.int .i64 n)).run P w = .ok (.slice (some ⟨w.heap.size, 0, none⟩) l n) (w.alloc (.cells (Array.replicate n z) e)) := by
  cases hie : P.info? e with
  | none => rw [hie] at hi; cases hi
  | some i =>
    rw [hie] at hi
    simp at hi
    obtain ⟨h1, h2, h3⟩ := hi
    rw [run_make w t e i z ht hie h1 .i64 .i64 l n (by omega) (by omega) (by rw [h3]; omega) (by omega)]
    rw [h2, hz, Int.toNat_natCast, Int.toNat_natCast, Nat.mul_one, madeCells_one]

theorem _root_.Go.Proofs.YgctakDoor.Blk.newRep (w : World) (n : Nat) (z : Value) (t : TypeId) : Blk (w.alloc (.cells (Array.replicate n z) t)) w.heap.size t (List.replicate n z) := by
  have := Blk.new w (List.replicate n z) t
  simpa using this

/-- The least and the greatest admitted double. -/
theorem big_pos : Finite 9110782046170513408 ∧ V 9110782046170513408 = 2 ^ 2074 := by
  have := V_word false (2022 * 2 ^ 52 + 2 ^ 52) (by omega)
  have e : Ieee.double.word false (2022 * 2 ^ 52 + 2 ^ 52) = 9110782046170513408 := rfl
  rw [e] at this
  refine ⟨this.1, ?_⟩
  rw [this.2]
  rw [valR_kept 2022 (2 ^ 52) (by omega) (by omega), ← pow_split 2074 52 2022 (by omega)]
  simp only [Bool.false_eq_true, if_false]
  exact Fl.ipow 2074
theorem big_neg : Finite 18334154083025289216 ∧ V 18334154083025289216 = -2 ^ 2074 := by
  have := V_word true (2022 * 2 ^ 52 + 2 ^ 52) (by omega)
  have e : Ieee.double.word true (2022 * 2 ^ 52 + 2 ^ 52) = 18334154083025289216 := rfl
  rw [e] at this
  refine ⟨this.1, ?_⟩
  rw [this.2]
  rw [valR_kept 2022 (2 ^ 52) (by omega) (by omega), ← pow_split 2074 52 2022 (by omega)]
  simp only [if_true]
  exact congrArg Neg.neg (Fl.ipow 2074)

/-- A row of doubles in a block. -/
def Row (w : World) (b : Nat) (xs : List Nat) : Prop := b < w.heap.size ∧ ∀ j, j < xs.length → w.cell? ⟨b, j, none⟩ = some (.float .f64 (xs.getD j 0))
theorem Row.lt {w : World} {b : Nat} {xs : List Nat} (h : Row w b xs) : b < w.heap.size := h.1
theorem Row.chg {w w2 : World} {b : Nat} {xs : List Nat} (h : Row w b xs) {S : List Nat} (hc : Chg S w w2) (hn : b ∉ S) : Row w2 b xs :=
  ⟨Nat.lt_of_lt_of_le h.1 hc.size, fun j hj => by rw [World.cell?_of_block (w := w) (hc.block b h.1 hn)]; exact h.2 j hj⟩

theorem test_x {x : Nat} (h : Dbl 1000 x) : (FloatKind.f64.format.order x x != some .eq) = false ∧ (FloatKind.f64.format.order x 9110782046170513408 == some .gt) = false ∧ (FloatKind.f64.format.order x 18334154083025289216 == some .lt) = false := by
  have hb := h.bd
  rw [show 1000 + 1074 = 2074 from rfl] at hb
  have e := Fl.ipow 2074
  refine ⟨?_, ?_, ?_⟩
  · show (!(FloatKind.f64.format.order x x == some .eq)) = _
    rw [eq_V h.fin h.fin]; simp
  · rw [gt_V h.fin big_pos.1, big_pos.2, ← e, decide_eq_false]
    generalize 2 ^ 2074 = A at *
    omega
  · rw [lt_V h.fin big_neg.1, big_neg.2, ← e, decide_eq_false]
    generalize 2 ^ 2074 = A at *
    omega

set_option maxHeartbeats 1000000 in
theorem refused_any (b cap : Nat) (xs : List Nat) (w : World) (hn : xs.length ≤ 3) (hr : Row w b xs) (hd : ∀ x ∈ xs, Dbl 1000 x) :
    Calls Takg.prog 26 #[.slice (some ⟨b, 0, none⟩) xs.length cap] w fun e w' => e = .returned (.bool false) ∧ w' = w := by
  have hD : ∀ j, j < xs.length → Dbl 1000 (xs.getD j 0) := fun j hj => by
    apply hd
    rw [List.getD_eq_getElem?_getD, List.getElem?_eq_getElem hj]
    exact List.getElem_mem _
  have HR := hide hr.2
  have HD := hide hD
  generalize xs.length = n at *
  clear hD hd hr
  go_enter Takg.func26, Takg.ntmps26
  go_wp2_with fail
  go_loop [3] (fun i => ∃ i' : Nat, i = .int .i64 i' ∧ i' ≤ n) (fun i => n - (intOf i).toNat)
  case atStart => exact ⟨0, rfl, by omega⟩
  case round =>
    obtain ⟨i, rfl, hi⟩ := hrel
    by_cases hlt : i < n
    · have hc := HR.out i hlt
      obtain ⟨t1, t2, t3⟩ := test_x (HD.out i hlt)
      generalize xs.getD i 0 = x at *
      go_wp2_with fail
      go_round
      case rel => exact ⟨i + 1, by go_num, by omega⟩
      case measure => simp [intOf]; omega
    · have hin : i = n := by omega
      subst hin
      go_wp2_with fail
      go_ret
      exact ⟨rfl, rfl⟩
set_option maxHeartbeats 1000000 in
theorem refusedS_any (b cap : Nat) (xs : List Nat) (w : World) (hn : xs.length ≤ 3) (hr : Row w b xs) (hd : ∀ x ∈ xs, Dbl 1000 x) :
    Calls Takg.prog 30 #[.slice (some ⟨b, 0, none⟩) xs.length cap] w fun e w' => e = .returned (.bool false) ∧ w' = w := by
  have hD : ∀ j, j < xs.length → Dbl 1000 (xs.getD j 0) := fun j hj => by
    apply hd
    rw [List.getD_eq_getElem?_getD, List.getElem?_eq_getElem hj]
    exact List.getElem_mem _
  have HR := hide hr.2
  have HD := hide hD
  generalize xs.length = n at *
  clear hD hd hr
  go_enter Takg.func30, Takg.ntmps30
  go_wp2_with fail
  go_loop [3] (fun i => ∃ i' : Nat, i = .int .i64 i' ∧ i' ≤ n) (fun i => n - (intOf i).toNat)
  case atStart => exact ⟨0, rfl, by omega⟩
  case round =>
    obtain ⟨i, rfl, hi⟩ := hrel
    by_cases hlt : i < n
    · have hc := HR.out i hlt
      obtain ⟨t1, t2, t3⟩ := test_x (HD.out i hlt)
      generalize xs.getD i 0 = x at *
      go_wp2_with fail
      go_round
      case rel => exact ⟨i + 1, by go_num, by omega⟩
      case measure => simp [intOf]; omega
    · have hin : i = n := by omega
      subst hin
      go_wp2_with fail
      go_ret
      exact ⟨rfl, rfl⟩

/-- All of them grown. -/
def growAll (vs : List Int) : List Int := vs.foldl growV []
theorem growAll_next (xs : List Nat) (i : Nat) (h : i < xs.length) : growAll ((xs.take (i + 1)).map V) = growV (growAll ((xs.take i).map V)) (V (xs.getD i 0)) := by
  unfold growAll
  rw [List.take_succ_eq_append_getElem h, List.map_append, List.foldl_append, List.getD_eq_getElem?_getD, List.getElem?_eq_getElem h]
  rfl

set_option maxHeartbeats 1000000 in
theorem Fsum_any (b cap : Nat) (xs : List Nat) (w : World) (hn : xs.length ≤ 3) (hr : Row w b xs) (hd : ∀ x ∈ xs, Dbl 1000 x) :
    Calls Takg.prog 11 #[.slice (some ⟨b, 0, none⟩) xs.length cap] w fun e w' => ∃ r, e = .returned (.float .f64 r) ∧ Finite r ∧ r < 2 ^ 64 ∧ (growAll (xs.map V) = [] → r = 0) ∧ V r = finV (growAll (xs.map V)).reverse ∧ Chg [] w w' := by
  have HRF := hide (refused_any b cap xs w hn hr hd)
  have hD : ∀ j, j < xs.length → Dbl 1000 (xs.getD j 0) := fun j hj => by
    apply hd
    rw [List.getD_eq_getElem?_getD, List.getElem?_eq_getElem hj]
    exact List.getElem_mem _
  have HD := hide hD
  have HN := hide (fun i hi => growAll_next xs i hi)
  obtain ⟨G, hG⟩ : ∃ G, Hid (G = growAll (xs.map V)) := ⟨_, hide rfl⟩
  have hG2 := hG
  unfold Hid at hG2
  rw [← hG2]
  have HT : Hid (xs.take xs.length = xs) := by unfold Hid; exact List.take_of_length_le (Nat.le_refl _)
  obtain ⟨n, hn0⟩ : ∃ n, n = xs.length := ⟨_, rfl⟩
  rw [← hn0] at hn HRF HD HN ⊢
  have HNN := hide hn0
  obtain ⟨Z, hZ⟩ : ∃ Z, Z = Array.replicate 1025 (Value.float .f64 0) := ⟨_, rfl⟩
  have hmk : ∀ W : World, (Instr.makeSlice 27 (.int .i64 0) (.int .i64 1025)).run Takg.prog W = .ok (.slice (some ⟨W.heap.size, 0, none⟩) 0 1025) (W.alloc (.cells Z 33)) := fun W => by
    rw [hZ]; exact make_run2 (P := Takg.prog) 27 33 (.float .f64 0) 8 0 1025 rfl Takg.underlying27 info33 (by omega) (by omega) (by omega) W
  have HZ := hide hZ
  have hb0 := hr.lt
  have HROW := hide hr
  clear hZ hn0 hD hd hr hG2
  go_enter Takg.func11, Takg.ntmps11
  go_wp2_with fail
  refine HRF.out.mono ?_
  rintro e w' ⟨rfl, rfl⟩
  go_wp2_with fail
  obtain ⟨bp, hbp⟩ : ∃ b, b = w'.heap.size := ⟨_, rfl⟩
  have hbn := Blk.newRep w' 1025 (Value.float .f64 0) 33
  rw [← HZ.out] at hbn
  have hch := (Chg.refl [] w').alloc (.cells Z 33)
  have hrow := HROW.out.chg hch (by simp)
  rw [← hbp] at hbn hb0 ⊢
  have HBP := hide hbp
  clear hbp
  generalize w'.alloc (.cells Z 33) = w1 at *
  have hcl : (List.replicate 1025 (Value.float .f64 0)).length = 1025 := List.length_replicate
  generalize List.replicate 1025 (Value.float .f64 0) = cs0 at *
  go_loopw [3, 4] (fun s i wr => ∃ (i' : Nat) (qs : List Nat) (cs : List Value), s = .slice (some ⟨bp, 0, none⟩) qs.length 1025 ∧ i = .int .i64 i' ∧ i' ≤ n ∧ qs.length ≤ i' ∧ cs.length = 1025 ∧ Hid (Pre cs qs) ∧ Hid (qs.map V = growAll ((xs.take i').map V)) ∧ Hid (∀ q ∈ qs, Dbl (1000 + 2 * i') q) ∧ Blk wr bp 33 cs ∧ Hid (Row wr b xs) ∧ Chg [] w' wr) (fun _ i _ => n - (intOf i).toNat)
  case atStart => exact ⟨0, [], cs0, by simp, rfl, by omega, by simp, hcl, (fun j hj => by simp at hj), (by unfold Hid; simp [growAll]), (fun q hq => by cases hq), hbn, hrow, hch⟩
  case round =>
    clear hbn hrow hch hcl
    obtain ⟨i, qs, cs, rfl, rfl, hi, hq, hlen, HPRE, HEQ, HQ, hbk, HRW, hc⟩ := hrel
    by_cases hlt : i < n
    · have hcell := HRW.out.2 i (by have := HNN.out; omega)
      obtain ⟨x, hx⟩ : ∃ x, x = xs.getD i 0 := ⟨_, rfl⟩
      have hxD := HD.out i hlt
      have hnx := HN.out i hlt
      rw [← hx] at hcell hxD hnx
      have HG := hide (fun W hW => Grow_any (1000 + 2 * i) bp 1025 qs cs x W (by omega) (by omega) hlen (by omega) (by omega) HPRE.out hW HQ.out (hxD.mono (by omega)))
      have HNX := hide hnx
      obtain ⟨m, hm⟩ : ∃ m, m = qs.length := ⟨_, rfl⟩
      rw [← hm] at HG hq ⊢
      have HM := hide hm
      clear hx hxD hnx hm
      go_wp2_with fail
      refine (HG.out _ hbk).mono ?_
      rintro e w2 ⟨qs2, cs2, rfl, hl2, hlen2, hpre2, heq2, hq2, hbk2, hc2⟩
      have HPRE2 := hide hpre2
      have HEQ2 := hide heq2
      have HQ2 := hide hq2
      have hc3 : Chg [] w' w2 := ((hc.mono (T := [bp]) (by simp)).trans hc2).drop (fun k hk => by simp at hk; subst hk; right; rw [HBP.out]; exact Nat.le_refl _)
      have HRW2 : Hid (Row w2 b xs) := HRW.out.chg hc2 (by simp; omega)
      clear hpre2 heq2 hq2 HG hc2 hbk hc hcell
      obtain ⟨m2, hm2⟩ : ∃ m, m = qs2.length := ⟨_, rfl⟩
      rw [← hm2] at hl2 ⊢
      have HM2 := hide hm2
      clear hm2
      go_wp2_with fail
      go_roundw
      case rel =>
        refine ⟨i + 1, qs2, cs2, by rw [HM2.out], by go_num, by omega, by have := HM2.out; omega, hlen2, HPRE2, ?_, ?_, hbk2, HRW2, hc3⟩
        · unfold Hid; rw [HNX.out, ← HEQ.out]; exact HEQ2.out
        · exact fun q hq' => (HQ2.out q hq').mono (by omega)
      case measure => simp [intOf]; omega
    · have hin : i = n := by omega
      subst hin
      have heq := HEQ.out
      rw [HNN.out, HT.out, ← hG.out] at heq
      have HF := hide (Finish_any (1000 + 2 * i) bp 1025 qs cs wr (by omega) (by omega) (by omega) HPRE.out hbk HQ.out)
      rw [heq] at HF
      have HNIL : Hid (G = [] → qs = []) := fun h => by rw [h] at heq; exact List.map_eq_nil_iff.1 heq
      obtain ⟨m, hm⟩ : ∃ m, m = qs.length := ⟨_, rfl⟩
      rw [← hm] at HF ⊢
      clear heq hm HEQ
      go_wp2_with fail
      refine HF.out.mono ?_
      rintro e w2 ⟨r, rfl, hrf, hrl, hr0, hrv, rfl⟩
      have HR0 := hide hr0
      have HRV := hide hrv
      clear hr0 hrv HF
      go_wp2_with fail
      go_ret
      exact ⟨r, rfl, hrf, hrl, fun h => HR0.out (HNIL.out h), HRV.out, hc⟩
end Shw
end Go.Proofs.YgctakDoor
