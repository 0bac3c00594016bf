/-
  The points stay finite, the bounds stay small: no Go in sight.
-/
import Derived.Test.YgctakPt8
namespace Go.Proofs.Ygctak
open Go.RowKit
set_option linter.unusedVariables false
set_option linter.unusedSimpArgs false
namespace Fl
theorem read_neg {x : Nat} {s : Bool} {m : Nat} {p : Int} (h : Ieee.double.read x = .number s m p) : Ieee.double.read (fneg x) = .number (!s) m p := by
  have e1 : fneg x % 2 ^ 63 = x % 2 ^ 63 := by
    show (x ^^^ 2 ^ 63) % 2 ^ 63 = _
    rw [Nat.xor_mod_two_pow, Nat.mod_self, Nat.xor_zero]
  have e2 : fneg x / 2 ^ 63 % 2 = 1 - x / 2 ^ 63 % 2 := by
    show (x ^^^ 2 ^ 63) / 2 ^ 63 % 2 = _
    rw [Nat.xor_div_two_pow, Nat.div_self (by decide)]
    have : (x / 2 ^ 63 ^^^ 1) % 2 ^ 1 = _ := Nat.xor_mod_two_pow
    rw [show (2 : Nat) ^ 1 = 2 from rfl] at this
    rw [this]
    have h2 : x / 2 ^ 63 % 2 = 0 ∨ x / 2 ^ 63 % 2 = 1 := by omega
    rcases h2 with h2 | h2 <;> rw [h2] <;> rfl
  have hs : Ieee.double.signWeight = 2 ^ 63 := rfl
  unfold Ieee.Format.read at h ⊢
  simp only [hs] at h ⊢
  rw [e1, e2]
  have hb : (1 - x / 2 ^ 63 % 2 == 1) = !(x / 2 ^ 63 % 2 == 1) := by
    have h2 : x / 2 ^ 63 % 2 = 0 ∨ x / 2 ^ 63 % 2 = 1 := by omega
    rcases h2 with h2 | h2 <;> rw [h2] <;> rfl
  rw [hb]
  generalize (x / 2 ^ 63 % 2 == 1) = c at *
  split at h
  · rename_i h1
    rw [if_pos h1]
    cases h; rfl
  · rename_i h1
    rw [if_neg h1]
    split at h
    · rename_i h2
      rw [if_pos h2]
      cases h; rfl
    · split at h <;> cases h
theorem fneg_fin {E x : Nat} (h : Fin E x) : Fin E (fneg x) := by
  obtain ⟨⟨s, m, p, hr⟩, hv⟩ := h
  have hn := read_neg hr
  refine ⟨⟨_, _, _, hn⟩, ?_⟩
  have hp := read_place hr
  have v1 := V_of hr (p + 1074).toNat (by omega)
  have v2 := V_of hn (p + 1074).toNat (by omega)
  rw [v1] at hv
  rw [v2]
  have a1 := sg_abs s (m * 2 ^ (p + 1074).toNat)
  have a2 := sg_abs (!s) (m * 2 ^ (p + 1074).toNat)
  unfold sg at a1 a2
  rw [a1] at hv
  rw [a2]
  exact hv
/-- tw.Conj. -/
def conj (z : Nat × Nat) : Nat × Nat := (z.1, fneg z.2)
theorem conj_fin {E : Nat} {z : Nat × Nat} (h : Fc E z) : Fc E (conj z) := ⟨h.1, fneg_fin h.2⟩
theorem AllC.conj {E : Nat} {T : List (Nat × Nat)} (h : AllC E T) : AllC E (T.map conj) := fun z hz => by
  rw [List.mem_map] at hz
  obtain ⟨y, hy, rfl⟩ := hz
  exact conj_fin (h y hy)
theorem zero_fin (E : Nat) : Fc E (0, 0) := by
  have f : Finite 0 := ⟨false, 0, -1074, by decide⟩
  have v : V 0 = 0 := by decide
  exact ⟨⟨f, by rw [v]; exact Nat.zero_le _⟩, ⟨f, by rw [v]; exact Nat.zero_le _⟩⟩
theorem AllC.any {E : Nat} {T : List (Nat × Nat)} (h : AllC E T) (i : Nat) : Fc E (T.getD i (0, 0)) := by
  by_cases hi : i < T.length
  · exact h.get i hi
  · rw [List.getD_eq_getElem?_getD, List.getElem?_eq_none (by omega)]; exact zero_fin E
end Fl
namespace Sh
open Ac Fl
theorem AllP.any {E B : Nat} {x : List P} (h : AllP E B x) (i : Nat) : Fc E (x.getD i p0).1 ∧ 0 ≤ (x.getD i p0).2 ∧ (x.getD i p0).2 ≤ 2 ^ B := by
  by_cases hi : i < x.length
  · exact h i hi
  · rw [List.getD_eq_getElem?_getD, List.getElem?_eq_none (by omega)]
    exact ⟨zero_fin E, Int.le_refl _, Int.le_of_lt (Ac.pow_pos B)⟩
theorem AllP.of_map {E B : Nat} {n : Nat} {f : Nat → P} (h : ∀ i, i < n → Fc E (f i).1 ∧ 0 ≤ (f i).2 ∧ (f i).2 ≤ 2 ^ B) : AllP E B ((List.range n).map f) := fun i hi => by
  have hi2 : i < n := by simpa using hi
  have : ((List.range n).map f).getD i p0 = f i := by simp [List.getD_eq_getElem?_getD, hi2]
  rw [this]; exact h i hi2
theorem AllP.set {E B : Nat} {x : List P} (h : AllP E B x) (i : Nat) (p : P) (hp : Fc E p.1 ∧ 0 ≤ p.2 ∧ p.2 ≤ 2 ^ B) : AllP E B (x.set i p) := fun m hm => by
  rw [List.length_set] at hm
  rw [List.getD_eq_getElem?_getD, List.getElem?_set]
  split
  · split
    · exact hp
    · rename_i h1; omega
  · have := h m hm
    rw [List.getD_eq_getElem?_getD] at this
    exact this
theorem AllP.mono {E B E' B' : Nat} {x : List P} (h : AllP E B x) (he : E ≤ E') (hb : B ≤ B') : AllP E' B' x := fun i hi => by
  obtain ⟨h1, h2, h3⟩ := h i hi
  refine ⟨h1.mono he, h2, Int.le_trans h3 ?_⟩
  rw [← ipow, ← ipow]
  exact Int.ofNat_le.2 (Nat.pow_le_pow_right (by omega) hb)
theorem AllP.swp {E B : Nat} {x : List P} (h : AllP E B x) (i j : Nat) : AllP E B (swp x i j) := (h.set i _ (h.any j)).set j _ (h.any i)
theorem AllP.rvL {E B : Nat} (k : Nat) : ∀ (f i : Nat) {x : List P}, AllP E B x → AllP E B (rvL k f i x) := by
  intro f
  induction f with
  | zero => intro i x h; exact h
  | succ f ih =>
    intro i x h
    unfold Sh.rvL
    apply ih
    split
    · exact h.swp _ _
    · exact h
theorem AllP.rvs {E B : Nat} {x : List P} (h : AllP E B x) (k : Nat) : AllP E B (rvs k x) := AllP.rvL k _ _ h

theorem spr_bd {v : Int} (h : 0 ≤ v) : 0 ≤ spr v ∧ spr v ≤ 2 * v + 1 := by unfold spr; omega
theorem joi_bd {u v own : Int} {B : Nat} (pl : Bool) (u0 : 0 ≤ u) (u1 : u ≤ 2 ^ B) (v0 : 0 ≤ v) (v1 : v ≤ 2 ^ B) (o0 : 0 ≤ own) (o1 : own + 1 ≤ 2 ^ B) : 0 ≤ joi u v pl own ∧ joi u v pl own ≤ 2 ^ (B + 2) := by
  obtain ⟨s0, s1⟩ := spr_bd v0
  have e : (2 : Int) ^ (B + 2) = 2 ^ B * 4 := by rw [Int.pow_add]; rfl
  rw [e]
  unfold joi
  generalize (2 : Int) ^ B = A at *
  cases pl <;> simp <;> omega

theorem stg_keep {E B F : Nat} {x : List P} {T : List (Nat × Nat)} (half step : Nat) (own : Int) (hx : AllP E B x) (hT : AllC F T) (hE : E + F + 2 ≤ 1023) (o0 : 0 ≤ own) (o1 : own + 1 ≤ 2 ^ B) : AllP (E + F + 2) (B + 2) (stg x T half step own) := by
  refine AllP.of_map fun i hi => ?_
  unfold bf
  simp only
  have hr := hT.any (i % half * step)
  generalize T.getD (i % half * step) (0, 0) = r at *
  split
  · obtain ⟨a1, a2, a3⟩ := hx.any i
    obtain ⟨c1, c2, c3⟩ := hx.any (i + half)
    have hm := (cmul_fin c1 hr (by omega)).2
    exact ⟨(cadd_fin (a1.mono (show E ≤ E + F + 1 by omega)) hm (by omega)).2, joi_bd _ a2 a3 c2 c3 o0 o1⟩
  · obtain ⟨a1, a2, a3⟩ := hx.any (i - half)
    obtain ⟨c1, c2, c3⟩ := hx.any i
    have hm := (cmul_fin c1 hr (by omega)).2
    exact ⟨(csub_fin (a1.mono (show E ≤ E + F + 1 by omega)) hm (by omega)).2, joi_bd _ a2 a3 c2 c3 o0 o1⟩

theorem tms_keep {E F B : Nat} {x y : List P} (m : Nat) (hx : AllP E B x) (hy : AllP F B y) (hE : E + F + 1 ≤ 1023) (hm : m ≤ 130561) (hB : 80 ≤ B) : AllP (E + F + 1) (B + 20) (tms x y m) := by
  refine AllP.of_map fun i hi => ?_
  obtain ⟨a1, a2, a3⟩ := hx.any i
  obtain ⟨c1, c2, c3⟩ := hy.any i
  refine ⟨(cmul_fin a1 c1 hE).2, ?_⟩
  unfold tmf ter
  simp only
  generalize (x.getD i p0).2 = u at *
  generalize (y.getD i p0).2 = v at *
  have h0 : 0 ≤ (u + v) * (m : Int) := Int.mul_nonneg (by omega) (by omega)
  have h1 : (u + v) * (m : Int) ≤ (2 ^ B + 2 ^ B) * 130561 := Int.mul_le_mul (by omega) (by omega) (by omega) (by have := Ac.pow_pos B; omega)
  have hmm : (m : Int) * (m : Int) = ((m * m : Nat) : Int) := by simp
  have hm2 : m * m ≤ 17046174721 := Nat.le_trans (Nat.mul_le_mul hm hm) (by omega)
  obtain ⟨s0, s1⟩ := spr_bd h0
  rw [hmm]
  have e : (2 : Int) ^ (B + 20) = 2 ^ B * 1048576 := by rw [Int.pow_add]; rfl
  have e2 : (2 : Int) ^ 80 ≤ 2 ^ B := by rw [← ipow, ← ipow]; exact Int.ofNat_le.2 (Nat.pow_le_pow_right (by omega) hB)
  rw [e]
  generalize (2 : Int) ^ B = A at *
  generalize (u + v) * (m : Int) = q at *
  generalize m * m = mm at *
  constructor <;> omega

theorem start_keep {d : Nat} (ds : List Int) (n : Nat) (hd : d ≤ 255) (h : Digs d ds) : AllP 8 80 (start ds n) := by
  refine AllP.of_map fun i hi => ?_
  split
  · rename_i h1
    refine ⟨⟨?_, (zero_fin 8).2⟩, Int.le_refl _, Int.le_of_lt (Ac.pow_pos 80)⟩
    have hb := h i h1.2
    have key : ∀ v : Nat, v < 256 → (match Ieee.double.read (dbl (v : Int)) with | .number _ m p => decide (m * 2 ^ (p + 1074).toNat ≤ 2 ^ (8 + 1074)) | _ => false) = true := by decide +kernel
    obtain ⟨v, hv⟩ : ∃ v : Nat, ds.getD i 0 = v := ⟨(ds.getD i 0).toNat, by omega⟩
    show Fin 8 (dbl (ds.getD i 0))
    rw [hv]
    have hk := key v (by omega)
    split at hk
    · rename_i s m p hr
      rw [decide_eq_true_eq] at hk
      refine ⟨⟨_, _, _, hr⟩, ?_⟩
      have hp := read_place hr
      rw [V_of hr (p + 1074).toNat (by omega)]
      have a1 := sg_abs s (m * 2 ^ (p + 1074).toNat)
      unfold sg at a1
      rw [a1]
      exact hk
    · cases hk
  · exact ⟨zero_fin 8, Int.le_refl _, Int.le_of_lt (Ac.pow_pos 80)⟩

theorem dvs_keep {E B k : Nat} {x : List P} (h : AllP E B x) (hk : k ≤ 10) (hB : 12 ≤ B) (hB2 : B ≤ 140) : AllE 150 (dvs k x) := fun i hi => by
  have hi2 : i < x.length := by simpa [dvs] using hi
  have e : (dvs k x).getD i p0 = dvd k (x.getD i p0) := by simp [dvs, List.getD_eq_getElem?_getD, hi2]
  rw [e]
  obtain ⟨_, h2, h3⟩ := h.any i
  unfold dvd
  simp only
  generalize (x.getD i p0).2 = u at *
  have p0 : (1 : Int) ≤ 2 ^ k := by have := Ac.pow_pos k; omega
  have p1 : (2 : Int) ^ k ≤ 1024 := by
    rw [← ipow]
    have : 2 ^ k ≤ 2 ^ 10 := Nat.pow_le_pow_right (by omega) hk
    omega
  have e2 : (2 : Int) ^ B ≤ 2 ^ 140 := by rw [← ipow, ← ipow]; exact Int.ofNat_le.2 (Nat.pow_le_pow_right (by omega) hB2)
  have e3 : (2 : Int) ^ 140 * 1024 = 2 ^ 150 := by decide
  have d0 : 0 ≤ (u + (2 ^ k - 1)) / 2 ^ k := Int.ediv_nonneg (by omega) (by omega)
  have d1 : (u + (2 ^ k - 1)) / 2 ^ k ≤ u + (2 ^ k - 1) := Int.ediv_le_self _ (by omega)
  generalize (u + (2 ^ k - 1)) / 2 ^ k = q at *
  generalize (2 : Int) ^ k = K at *
  generalize (2 : Int) ^ B = A at *
  have : (2 : Int) ^ 140 + 2000 ≤ 2 ^ 150 := by decide
  constructor <;> omega
end Sh
end Go.Proofs.Ygctak
