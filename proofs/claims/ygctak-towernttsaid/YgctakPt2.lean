/-
  Stage, plainly: the points behind it, and half way.
-/
import Derived.Test.YgctakPt1
namespace Go.Proofs.Ygctak
open Go.RowKit
set_option linter.unusedVariables false
set_option linter.unusedSimpArgs false
namespace Sh
open Ac Fl

/-- Point i behind the stage of so many halves. -/
def bf (x : List P) (T : List (Nat × Nat)) (half step : Nat) (own : Int) (i : Nat) : P :=
  let r := T.getD (i % half * step) (0, 0)
  if i % (2 * half) < half then
    (cadd (x.getD i p0).1 (cmul (x.getD (i + half) p0).1 r), joi (x.getD i p0).2 (x.getD (i + half) p0).2 (pla r) own)
  else
    (csub (x.getD (i - half) p0).1 (cmul (x.getD i p0).1 r), joi (x.getD (i - half) p0).2 (x.getD i p0).2 (pla r) own)
def mix (x : List P) (T : List (Nat × Nat)) (half step : Nat) (own : Int) (j s i : Nat) : P :=
  if i % half < j ∨ (i % half = j ∧ i < s) then bf x T half step own i else x.getD i p0
def stL (x : List P) (T : List (Nat × Nat)) (half step : Nat) (own : Int) (j s : Nat) : List P := (List.range x.length).map (mix x T half step own j s)
/-- Stage. -/
def stg (x : List P) (T : List (Nat × Nat)) (half step : Nat) (own : Int) : List P := (List.range x.length).map (bf x T half step own)

theorem stL_length (x : List P) (T : List (Nat × Nat)) (half step : Nat) (own : Int) (j s : Nat) : (stL x T half step own j s).length = x.length := by simp [stL]
theorem stg_length (x : List P) (T : List (Nat × Nat)) (half step : Nat) (own : Int) : (stg x T half step own).length = x.length := by simp [stg]
theorem stL_get (x : List P) (T : List (Nat × Nat)) (half step : Nat) (own : Int) (j s i : Nat) (h : i < x.length) : (stL x T half step own j s).getD i p0 = mix x T half step own j s i := by
  simp [stL, List.getD_eq_getElem?_getD, h]
theorem getD_range (x : List P) : (List.range x.length).map (fun i => x.getD i p0) = x := by
  apply List.ext_getElem
  · simp
  · intro i h1 h2
    simp [List.getD_eq_getElem?_getD, h2]
theorem stL_start (x : List P) (T : List (Nat × Nat)) (half step : Nat) (own : Int) : stL x T half step own 0 0 = x := by
  have : (List.range x.length).map (mix x T half step own 0 0) = (List.range x.length).map (fun i => x.getD i p0) := List.map_congr_left fun i hi => by
    unfold mix
    rw [if_neg (by omega)]
  unfold stL
  rw [this, getD_range]
theorem stL_next (x : List P) (T : List (Nat × Nat)) (half step : Nat) (own : Int) (j s : Nat) (h : x.length ≤ s) : stL x T half step own j s = stL x T half step own (j + 1) (j + 1) := by
  unfold stL
  refine List.map_congr_left fun i hi => ?_
  have hi : i < x.length := by simpa using hi
  unfold mix
  have hm : i % half ≤ i := Nat.mod_le _ _
  by_cases h1 : i % half ≤ j
  · rw [if_pos (by omega), if_pos (by omega)]
  · rw [if_neg (by omega), if_neg (by omega)]
theorem stL_end (x : List P) (T : List (Nat × Nat)) (half step : Nat) (own : Int) (s : Nat) (h0 : 0 < half) : stL x T half step own half s = stg x T half step own := by
  unfold stL stg
  refine List.map_congr_left fun i hi => ?_
  unfold mix
  rw [if_pos (Or.inl (Nat.mod_lt _ h0))]

theorem mod_two {half j c : Nat} (hj : j < half) : (c * (2 * half) + j) % half = j ∧ (c * (2 * half) + j + half) % half = j ∧ (c * (2 * half) + j) % (2 * half) = j ∧ (c * (2 * half) + j + half) % (2 * half) = j + half := by
  have e1 : c * (2 * half) = half * (2 * c) := by rw [Nat.mul_comm 2 half, Nat.mul_comm c, Nat.mul_assoc, Nat.mul_comm 2 c]
  refine ⟨?_, ?_, ?_, ?_⟩
  · rw [e1, Nat.mul_add_mod, Nat.mod_eq_of_lt hj]
  · rw [Nat.add_mod_right, e1, Nat.mul_add_mod, Nat.mod_eq_of_lt hj]
  · rw [Nat.mul_comm, Nat.mul_add_mod, Nat.mod_eq_of_lt (by omega)]
  · rw [Nat.mul_comm, Nat.add_assoc, Nat.mul_add_mod, Nat.mod_eq_of_lt (by omega)]

theorem stL_here (x : List P) (T : List (Nat × Nat)) (half step : Nat) (own : Int) (j c : Nat) (hj : j < half) (h : c * (2 * half) + j + half < x.length) :
    (stL x T half step own j (c * (2 * half) + j)).getD (c * (2 * half) + j) p0 = x.getD (c * (2 * half) + j) p0 ∧
    (stL x T half step own j (c * (2 * half) + j)).getD (c * (2 * half) + j + half) p0 = x.getD (c * (2 * half) + j + half) p0 := by
  obtain ⟨m1, m2, _, _⟩ := mod_two (c := c) hj
  rw [stL_get _ _ _ _ _ _ _ _ (by omega), stL_get _ _ _ _ _ _ _ _ (by omega)]
  unfold mix
  rw [m1, m2, if_neg (by omega), if_neg (by omega)]
  exact ⟨rfl, rfl⟩

theorem stL_step (x : List P) (T : List (Nat × Nat)) (half step : Nat) (own : Int) (j c : Nat) (hj : j < half) (h : c * (2 * half) + j + half < x.length) :
    ((stL x T half step own j (c * (2 * half) + j)).set (c * (2 * half) + j) (bf x T half step own (c * (2 * half) + j))).set (c * (2 * half) + j + half) (bf x T half step own (c * (2 * half) + j + half))
      = stL x T half step own j ((c + 1) * (2 * half) + j) := by
  obtain ⟨m1, m2, _, _⟩ := mod_two (c := c) hj
  have e2 : (c + 1) * (2 * half) + j = c * (2 * half) + j + 2 * half := by rw [Nat.add_mul]; omega
  apply List.ext_getElem
  · simp [stL_length]
  · intro i h1 h2
    rw [List.getElem_set, List.getElem_set]
    have hi : i < x.length := by simpa [stL_length] using h2
    simp only [stL, List.getElem_map, List.getElem_range]
    generalize hs : c * (2 * half) + j = s at *
    rw [e2]
    by_cases i1 : s + half = i
    · subst i1
      rw [if_pos rfl]
      unfold mix
      rw [m2, if_pos (by omega)]
    · rw [if_neg i1]
      by_cases i2 : s = i
      · subst i2
        rw [if_pos rfl]
        unfold mix
        rw [m1, if_pos (by omega)]
      · rw [if_neg i2]
        unfold mix
        by_cases hm : i % half = j
        · have d1 := Nat.div_add_mod i half
          have d2 := Nat.div_add_mod s half
          rw [hm] at d1
          rw [m1] at d2
          by_cases hlo : i < s
          · rw [if_pos (by omega), if_pos (by omega)]
          · have hhi : ¬ i < s + 2 * half := by
              intro hlt
              have g1 : half * (s / half) ≤ half * (i / half) := by omega
              have g2 : half * (i / half) < half * (s / half + 2) := by rw [Nat.mul_add]; omega
              have g3 := Nat.le_of_mul_le_mul_left g1 (by omega)
              have g4 := Nat.lt_of_mul_lt_mul_left g2
              have : i / half = s / half ∨ i / half = s / half + 1 := by omega
              rcases this with e | e
              · rw [e] at d1; omega
              · rw [e, Nat.mul_add] at d1; omega
            rw [if_neg (by omega), if_neg (by omega)]
        · by_cases hl : i % half < j
          · rw [if_pos (by omega), if_pos (by omega)]
          · rw [if_neg (by omega), if_neg (by omega)]

theorem bf_lo (x : List P) (T : List (Nat × Nat)) (half step : Nat) (own : Int) (j c : Nat) (hj : j < half) :
    bf x T half step own (c * (2 * half) + j) = (cadd (x.getD (c * (2 * half) + j) p0).1 (cmul (x.getD (c * (2 * half) + j + half) p0).1 (T.getD (j * step) (0, 0))),
      joi (x.getD (c * (2 * half) + j) p0).2 (x.getD (c * (2 * half) + j + half) p0).2 (pla (T.getD (j * step) (0, 0))) own) := by
  obtain ⟨m1, m2, m3, m4⟩ := mod_two (c := c) hj
  unfold bf
  simp only
  rw [m1, m3, if_pos hj]
theorem bf_hi (x : List P) (T : List (Nat × Nat)) (half step : Nat) (own : Int) (j c : Nat) (hj : j < half) :
    bf x T half step own (c * (2 * half) + j + half) = (csub (x.getD (c * (2 * half) + j) p0).1 (cmul (x.getD (c * (2 * half) + j + half) p0).1 (T.getD (j * step) (0, 0))),
      joi (x.getD (c * (2 * half) + j) p0).2 (x.getD (c * (2 * half) + j + half) p0).2 (pla (T.getD (j * step) (0, 0))) own) := by
  obtain ⟨m1, m2, m3, m4⟩ := mod_two (c := c) hj
  unfold bf
  simp only
  rw [m2, m4, if_neg (by omega), Nat.add_sub_cancel]

/-- Every point: its float finite, at most 2^E, its bound a number up to 2^B. -/
def AllP (E B : Nat) (x : List P) : Prop := ∀ i, i < x.length → Fc E (x.getD i p0).1 ∧ 0 ≤ (x.getD i p0).2 ∧ (x.getD i p0).2 ≤ 2 ^ B
end Sh
end Go.Proofs.Ygctak
