/-
  exactStage, plainly; accumulators within rows of exact points.
-/
import Derived.Test.YgctakHo6
import Derived.Test.YgctakHo7
import Derived.Test.YgctakNtt2
namespace Go.Proofs.Ygctak
open Go.RowKit
set_option linter.unusedVariables false
set_option linter.unusedSimpArgs false
attribute [local go_sem ↓] Go.wp_at_zero Go.wp_at_succ
namespace Ex
open Ac Fl Sh

/-- An exact point by a root. -/
def mulq (v r : Q) : Q := (v.1 * r.1 + v.2 * -r.2, v.1 * r.2 + v.2 * r.1)
def addq (u m : Q) : Q := (u.1 * 2 ^ 62 + m.1, u.2 * 2 ^ 62 + m.2)
def subq (u m : Q) : Q := (u.1 * 2 ^ 62 + -m.1, u.2 * 2 ^ 62 + -m.2)
def est (x : Nat → Q) (r : Nat → Q) (half i : Nat) : Q :=
  if i % (2 * half) < half then addq (x i) (mulq (x (i + half)) (r (i % half))) else subq (x (i - half)) (mulq (x i) (r (i % half)))
/-- The lower point of the pair. -/
def lo (half i : Nat) : Nat := if i % (2 * half) < half then i else i - half
def esU (x : List Q) (r : Nat → Q) (half p : Nat) : List Q := (List.range x.length).map fun i => if lo half i < p then est (x.getD · q0) r half i else x.getD i q0
def esL (x : List Q) (r : Nat → Q) (half : Nat) : List Q := (List.range x.length).map fun i => est (x.getD · q0) r half i

theorem esU_length (x : List Q) (r : Nat → Q) (half p : Nat) : (esU x r half p).length = x.length := by simp [esU]
theorem esL_length (x : List Q) (r : Nat → Q) (half : Nat) : (esL x r half).length = x.length := by simp [esL]
theorem esU_get (x : List Q) (r : Nat → Q) (half p i : Nat) (h : i < x.length) : (esU x r half p).getD i q0 = if lo half i < p then est (x.getD · q0) r half i else x.getD i q0 := by
  simp only [esU, List.getD_eq_getElem?_getD, List.getElem?_map, List.getElem?_range h, Option.map_some, Option.getD_some]
theorem esL_get (x : List Q) (r : Nat → Q) (half i : Nat) (h : i < x.length) : (esL x r half).getD i q0 = est (x.getD · q0) r half i := by
  simp only [esL, List.getD_eq_getElem?_getD, List.getElem?_map, List.getElem?_range h, Option.map_some, Option.getD_some]
theorem qext {x y : List Q} (hl : x.length = y.length) (h : ∀ i, i < x.length → x.getD i q0 = y.getD i q0) : x = y := by
  apply List.ext_getElem hl
  intro i h1 h2
  have := h i h1
  rw [List.getD_eq_getElem?_getD, List.getD_eq_getElem?_getD, List.getElem?_eq_getElem h1, List.getElem?_eq_getElem h2] at this
  exact this
theorem esU_zero (x : List Q) (r : Nat → Q) (half : Nat) : esU x r half 0 = x := qext (esU_length _ _ _ _) fun i hi => by
  rw [esU_length] at hi
  rw [esU_get _ _ _ _ _ hi, if_neg (by omega)]
theorem esU_end (x : List Q) (r : Nat → Q) (half p : Nat) (h : x.length ≤ p) : esU x r half p = esL x r half := qext (by rw [esU_length, esL_length]) fun i hi => by
  rw [esU_length] at hi
  rw [esU_get _ _ _ _ _ hi, esL_get _ _ _ _ hi, if_pos]
  unfold lo; split <;> omega
/-- A point above: nothing to do. -/
theorem esU_skip (x : List Q) (r : Nat → Q) (half p : Nat) (h0 : 0 < half) (h : ¬ p % (2 * half) < half) : esU x r half (p + 1) = esU x r half p := qext (by rw [esU_length, esU_length]) fun i hi => by
  rw [esU_length] at hi
  rw [esU_get _ _ _ _ _ hi, esU_get _ _ _ _ _ hi]
  have : lo half i ≠ p := by
    unfold lo
    split
    · intro e; subst e; omega
    · intro e
      rename_i h2
      apply h
      rw [← e]
      have h3 := Nat.div_add_mod i (2 * half)
      have h4 : i - half = i % (2 * half) - half + 2 * half * (i / (2 * half)) := by
        have := Nat.mod_lt i (show 0 < 2 * half by omega)
        omega
      rw [h4, Nat.add_mul_mod_self_left]
      have := Nat.mod_lt i (show 0 < 2 * half by omega)
      rw [Nat.mod_eq_of_lt (by omega)]
      omega
  by_cases e : lo half i < p
  · rw [if_pos e, if_pos (by omega)]
  · rw [if_neg e, if_neg (by omega)]
theorem pair_mod (p half : Nat) (h0 : 0 < half) (h : p % (2 * half) < half) : ¬ (p + half) % (2 * half) < half ∧ (p + half) % half = p % half := by
  have h3 := Nat.div_add_mod p (2 * half)
  have h4 : p + half = p % (2 * half) + half + 2 * half * (p / (2 * half)) := by omega
  constructor
  · rw [h4, Nat.add_mul_mod_self_left, Nat.mod_eq_of_lt (by omega)]; omega
  · rw [Nat.add_mod_right]
/-- A pair is done. -/
theorem esU_next (x : List Q) (r : Nat → Q) (half p : Nat) (h0 : 0 < half) (h : p % (2 * half) < half) (hp : p + half < x.length) :
    ((esU x r half p).set p (addq (x.getD p q0) (mulq (x.getD (p + half) q0) (r (p % half))))).set (p + half) (subq (x.getD p q0) (mulq (x.getD (p + half) q0) (r (p % half)))) = esU x r half (p + 1) := by
  obtain ⟨m1, m2⟩ := pair_mod p half h0 h
  refine qext (by simp [esU_length]) fun i hi => ?_
  have hi : i < x.length := by simpa [esU_length] using hi
  rw [qget_set _ _ _ _ (by simpa [esU_length] using hi), esU_get _ _ _ _ _ hi]
  by_cases e1 : p + half = i
  · subst e1
    rw [if_pos rfl, if_pos (by unfold lo; rw [if_neg m1]; omega)]
    unfold est
    rw [if_neg m1, m2, show p + half - half = p by omega]
  · rw [if_neg e1, qget_set _ _ _ _ (by rw [esU_length]; exact hi), esU_get _ _ _ _ _ hi]
    by_cases e2 : p = i
    · subst e2
      rw [if_pos rfl, if_pos (by unfold lo; rw [if_pos h]; omega)]
      unfold est
      rw [if_pos h]
    · rw [if_neg e2]
      have : lo half i ≠ p := by
        unfold lo
        split
        · exact Ne.symm e2
        · intro e
          rename_i h2
          have := Nat.mod_le i (2 * half)
          omega
      by_cases e : lo half i < p
      · rw [if_pos e, if_pos (by omega)]
      · rw [if_neg e, if_neg (by omega)]
/-- The pair is still as it was. -/
theorem esU_here (x : List Q) (r : Nat → Q) (half p : Nat) (h0 : 0 < half) (h : p % (2 * half) < half) (hp : p + half < x.length) :
    (esU x r half p).getD p q0 = x.getD p q0 ∧ (esU x r half p).getD (p + half) q0 = x.getD (p + half) q0 := by
  obtain ⟨m1, m2⟩ := pair_mod p half h0 h
  constructor
  · rw [esU_get _ _ _ _ _ (by omega), if_neg (by unfold lo; rw [if_pos h]; omega)]
  · rw [esU_get _ _ _ _ _ hp, if_neg (by unfold lo; rw [if_neg m1]; omega)]

/-! ### calls on a part of a point -/
theorem rowShl (b t i n : Nat) (y : List Q) (w : World) (hi : i < y.length) (hn : n ≤ 65535) (hB : Blk w b t (Cs y)) :
    Calls Takg.prog 30 #[.pointer (some ⟨b, i * 136, none⟩), .int .u16 n] w fun e w' => e = .returned (.tuple #[]) ∧ Blk w' b t (Cs (y.set i ((y.getD i q0).1 * 2 ^ n, (y.getD i q0).2))) ∧ Chg [b] w w' :=
  (Shl_any b (i * 136) t _ _ _ n w hn (cre hB i hi)).mono fun e w' ⟨he, ha, hc⟩ => ⟨he, unre i hi ha, hc⟩
theorem rowShlI (b t i n : Nat) (y : List Q) (w : World) (hi : i < y.length) (hn : n ≤ 65535) (hB : Blk w b t (Cs y)) :
    Calls Takg.prog 30 #[.pointer (some ⟨b, i * 136 + 68, none⟩), .int .u16 n] w fun e w' => e = .returned (.tuple #[]) ∧ Blk w' b t (Cs (y.set i ((y.getD i q0).1, (y.getD i q0).2 * 2 ^ n))) ∧ Chg [b] w w' :=
  (Shl_any b (i * 136 + 68) t _ _ _ n w hn (cim hB i hi)).mono fun e w' ⟨he, ha, hc⟩ => ⟨he, unim i hi ha, hc⟩
theorem rowAdd (b t i b2 : Nat) (v : Int) (y : List Q) (w : World) (hi : i < y.length) (hne : b ≠ b2) (h2 : Blk w b2 58 (W v)) (hB : Blk w b t (Cs y)) :
    Calls Takg.prog 66 #[.pointer (some ⟨b, i * 136, none⟩), .pointer (some ⟨b2, 0, none⟩)] w fun e w' => e = .returned (.tuple #[]) ∧ Blk w' b t (Cs (y.set i ((y.getD i q0).1 + v, (y.getD i q0).2))) ∧ Chg [b] w w' :=
  (Add_any b (i * 136) t b2 0 58 _ _ [] [] _ v w hne (cre hB i hi) (At.whole h2)).mono fun e w' ⟨he, ha, hc⟩ => ⟨he, unre i hi ha, hc⟩
theorem rowAddI (b t i b2 : Nat) (v : Int) (y : List Q) (w : World) (hi : i < y.length) (hne : b ≠ b2) (h2 : Blk w b2 58 (W v)) (hB : Blk w b t (Cs y)) :
    Calls Takg.prog 66 #[.pointer (some ⟨b, i * 136 + 68, none⟩), .pointer (some ⟨b2, 0, none⟩)] w fun e w' => e = .returned (.tuple #[]) ∧ Blk w' b t (Cs (y.set i ((y.getD i q0).1, (y.getD i q0).2 + v))) ∧ Chg [b] w w' :=
  (Add_any b (i * 136 + 68) t b2 0 58 _ _ [] [] _ v w hne (cim hB i hi) (At.whole h2)).mono fun e w' ⟨he, ha, hc⟩ => ⟨he, unim i hi ha, hc⟩
end Ex
end Go.Proofs.Ygctak
