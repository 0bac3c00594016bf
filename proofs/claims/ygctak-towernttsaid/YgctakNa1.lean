/-
  Naturals in base 256: their digits; nat.trim, mschool.strip, nat.Normal.
-/
import Derived.Test.YgctakRows
import Derived.Test.YgctakMem2
import Derived.WalkLawsBesides
import Derived.RegionTactic
import Derived.BigRegion
import Derived.Deep.RegionWith
import Derived.Deep.DrawnRows
import Derived.Deep.DeepCutAuto
import Derived.Deep.CutBlock
import Derived.Laws.Pointers
import Derived.Laws.Externs
import Derived.Laws.Cover3
import Derived.ChangeKeysEq
import Derived.BigQuiet
import Derived.Deep.RegionHeld3
namespace Go.Proofs.Ygctak
open Go.RowKit
set_option linter.unusedVariables false
set_option linter.unusedSimpArgs false
attribute [local go_sem ↓] Go.wp_at_zero Go.wp_at_succ
namespace Na

/-- s == nil. -/
theorem eql_nil (t e : TypeId) (a : Option Addr) (l c : Nat) (h : Takg.prog.underlying t = some (.slice e)) (w : World) : (binOp .eql t (.slice a l c) (.slice none 0 0)).run Takg.prog w = .ok (.bool a.isNone) w := by
  simp only [binOp]
  simp [run_equal_slice_nil w t e a l c h]

/-- Digit j of v. -/
def dgt (v j : Nat) : Nat := v / 256 ^ j % 256
/-- How many digits v has. -/
def dlen (v : Nat) : Nat := if v = 0 then 0 else v.log2 / 8 + 1
theorem p256 (n : Nat) : 256 ^ n = 2 ^ (8 * n) := by rw [Nat.pow_mul]
theorem pos256 (n : Nat) : 0 < 256 ^ n := Nat.pow_pos (by decide)
theorem dlen_zero : dlen 0 = 0 := rfl
theorem dlen_pos {v : Nat} (h : 0 < v) : 0 < dlen v := by unfold dlen; rw [if_neg (by omega)]; omega
theorem dlen_lt (v : Nat) : v < 256 ^ dlen v := by
  unfold dlen
  by_cases h : v = 0
  · subst h; decide
  · rw [if_neg h, p256]
    exact Nat.lt_of_lt_of_le Nat.lt_log2_self (Nat.pow_le_pow_right (by omega) (by omega))
theorem dlen_ge {v : Nat} (h : 0 < v) : 256 ^ (dlen v - 1) ≤ v := by
  unfold dlen
  rw [if_neg (by omega), Nat.add_sub_cancel, p256]
  exact Nat.le_trans (Nat.pow_le_pow_right (by omega) (by omega)) (Nat.log2_self_le (by omega))
theorem dlen_le {v n : Nat} (h : v < 256 ^ n) : dlen v ≤ n := by
  rcases Nat.lt_or_ge n (dlen v) with h1 | h1
  · exfalso
    have hv : 0 < v := by
      rcases Nat.eq_zero_or_pos v with h0 | h0
      · subst h0; rw [dlen_zero] at h1; omega
      · exact h0
    have h2 := dlen_ge hv
    have h3 : 256 ^ n ≤ 256 ^ (dlen v - 1) := Nat.pow_le_pow_right (by decide) (by omega)
    omega
  · exact h1
theorem dgt_lt (v j : Nat) : dgt v j < 256 := Nat.mod_lt _ (by decide)
theorem dgt_top {v : Nat} (h : 0 < v) : dgt v (dlen v - 1) ≠ 0 := by
  have h1 := dlen_ge h
  have h2 := dlen_lt v
  have h3 := dlen_pos h
  unfold dgt
  have e : 256 ^ dlen v = 256 * 256 ^ (dlen v - 1) := by rw [← Nat.pow_succ']; congr 1; omega
  rw [e] at h2
  have h4 : v / 256 ^ (dlen v - 1) < 256 := Nat.div_lt_of_lt_mul (by rw [Nat.mul_comm]; exact h2)
  have h5 : 1 ≤ v / 256 ^ (dlen v - 1) := (Nat.one_le_div_iff (pos256 _)).2 h1
  rw [Nat.mod_eq_of_lt h4]
  omega
theorem dgt_above {v j : Nat} (h : dlen v ≤ j) : dgt v j = 0 := by
  unfold dgt
  have : v < 256 ^ j := Nat.lt_of_lt_of_le (dlen_lt v) (Nat.pow_le_pow_right (by decide) h)
  rw [Nat.div_eq_of_lt this]

/-- The digits of v, n of them, lie there. -/
structure Row8 (w : World) (b off n v : Nat) : Prop where
  lt : b < w.heap.size
  cell : ∀ j, j < n → w.cell? ⟨b, off + j, none⟩ = some (.int .u8 (dgt v j : Nat))
theorem Row8.chg {S : List Nat} {w w2 : World} {b off n v : Nat} (h : Row8 w b off n v) (hc : Chg S w w2) (hn : b ∉ S) : Row8 w2 b off n v :=
  ⟨Nat.lt_of_lt_of_le h.lt hc.size, fun j hj => (hc.cell b _ h.lt hn).trans (h.cell j hj)⟩
theorem Row8.less {w : World} {b off n m v : Nat} (h : Row8 w b off n v) (hm : m ≤ n) : Row8 w b off m v := ⟨h.lt, fun j hj => h.cell j (by omega)⟩
/-- A slice of bytes of that value. -/
def Op8 (w : World) (a : Option Addr) (n v : Nat) : Prop := n = 0 ∨ ∃ b off, a = some ⟨b, off, none⟩ ∧ Row8 w b off n v
theorem Op8.chg {w w2 : World} {a : Option Addr} {n v : Nat} (h : Op8 w a n v) (hc : Chg [] w w2) : Op8 w2 a n v := by
  rcases h with h | ⟨b, off, h1, h2⟩
  · exact .inl h
  · exact .inr ⟨b, off, h1, h2.chg hc (by simp)⟩
/-- The slice without the zeros at the top. -/
def trA (a : Option Addr) (v : Nat) : Option Addr := if v = 0 then none else a

set_option maxHeartbeats 1000000 in
theorem trim_any (a : Option Addr) (n cap v : Nat) (w : World) (hn : n ≤ cap) (hc : cap ≤ 9223372036854775807) (hv : v < 256 ^ n) (h : Op8 w a n v) :
    Calls Takg.prog 85 #[.slice a n cap] w fun e w' => e = .returned (.slice (trA a v) (dlen v) (dlen v)) ∧ w' = w := by
  have hdl := dlen_le hv
  obtain ⟨L, hL⟩ : ∃ L, L = dlen v := ⟨_, rfl⟩
  have H0 : Hid (v = 0 ↔ L = 0) := by
    unfold Hid
    rw [hL]
    constructor
    · intro h; subst h; rfl
    · intro h
      rcases Nat.eq_zero_or_pos v with h0 | h0
      · exact h0
      · have := dlen_pos h0; omega
  have HT : Hid (0 < L → dgt v (L - 1) ≠ 0) := fun h => by
    rw [hL] at h ⊢
    exact dgt_top (by
      rcases Nat.eq_zero_or_pos v with h0 | h0
      · subst h0; rw [dlen_zero] at h; omega
      · exact h0)
  have HA : Hid (∀ j, L ≤ j → dgt v j = 0) := fun j hj => dgt_above (by rw [← hL]; exact hj)
  rw [← hL] at hdl ⊢
  have HO := hide h
  clear hL h hv
  go_enter Takg.func85, Takg.ntmps85
  go_wp2_with fail
  go_loop [3] (fun x => ∃ m : Nat, x = .int .i64 m ∧ L ≤ m ∧ m ≤ n) (fun x => (intOf x).toNat)
  case atStart => exact ⟨n, rfl, hdl, by omega⟩
  case round =>
    obtain ⟨m, rfl, m1, m2⟩ := hrel
    by_cases hm0 : 0 < m
    · obtain ⟨b, off, ha, hr⟩ : ∃ b off, a = some ⟨b, off, none⟩ ∧ Row8 w b off n v := by
        rcases HO.out with h | h
        · omega
        · exact h
      subst ha
      obtain ⟨q, rfl⟩ : ∃ q, m = q + 1 := ⟨m - 1, by omega⟩
      have hcell := hr.cell q (by omega)
      have e1 : ((q + 1 : Nat) : Int) - 1 = (q : Int) := by omega
      by_cases hlt : L < q + 1
      · have hz := HA.out q (by omega)
        rw [hz] at hcell
        clear hz
        go_wp2_with fail
        go_round
        case rel => exact ⟨q, by go_num, by omega, by omega⟩
        case measure => simp [intOf]
      · have hLe : L = q + 1 := by omega
        have hnz := HT.out (by omega)
        rw [hLe, Nat.add_sub_cancel] at hnz
        have hvz : ¬ v = 0 := fun h => by have := H0.out.1 h; omega
        have HTR : Hid (trA (some ⟨b, off, none⟩) v = some ⟨b, off, none⟩) := by unfold Hid trA; rw [if_neg hvz]
        obtain ⟨d, hd⟩ : ∃ d, d = dgt v q := ⟨_, rfl⟩
        rw [← hd] at hcell hnz
        have hne : (((d : Nat) : Int) == 0) = false := by rw [beq_eq_false_iff_ne]; omega
        have HLE := hide hLe
        clear hd hvz hLe hlt m1 hnz
        go_wp2_with fail
        go_ret
        exact ⟨by rw [HTR.out, HLE.out]; rfl, rfl⟩
    · have hm : m = 0 := by omega
      subst hm
      have hL0 : L = 0 := by omega
      have HTR : Hid (trA a v = none) := by unfold Hid trA; rw [if_pos (H0.out.2 hL0)]
      have HL0 := hide hL0
      clear hL0 m1 hm0
      go_wp2_with fail
      go_ret
      exact ⟨by rw [HTR.out, HL0.out]; rfl, rfl⟩
set_option maxHeartbeats 1000000 in
theorem strip_any (a : Option Addr) (n cap v : Nat) (w : World) (hn : n ≤ cap) (hc : cap ≤ 9223372036854775807) (hv : v < 256 ^ n) (h : Op8 w a n v) :
    Calls Takg.prog 120 #[.slice a n cap] w fun e w' => e = .returned (.slice (trA a v) (dlen v) (dlen v)) ∧ w' = w := by
  have hdl := dlen_le hv
  obtain ⟨L, hL⟩ : ∃ L, L = dlen v := ⟨_, rfl⟩
  have H0 : Hid (v = 0 ↔ L = 0) := by
    unfold Hid
    rw [hL]
    constructor
    · intro h; subst h; rfl
    · intro h
      rcases Nat.eq_zero_or_pos v with h0 | h0
      · exact h0
      · have := dlen_pos h0; omega
  have HT : Hid (0 < L → dgt v (L - 1) ≠ 0) := fun h => by
    rw [hL] at h ⊢
    exact dgt_top (by
      rcases Nat.eq_zero_or_pos v with h0 | h0
      · subst h0; rw [dlen_zero] at h; omega
      · exact h0)
  have HA : Hid (∀ j, L ≤ j → dgt v j = 0) := fun j hj => dgt_above (by rw [← hL]; exact hj)
  rw [← hL] at hdl ⊢
  have HO := hide h
  clear hL h hv
  go_enter Takg.func120, Takg.ntmps120
  go_wp2_with fail
  go_loop [3] (fun x => ∃ m : Nat, x = .int .i64 m ∧ L ≤ m ∧ m ≤ n) (fun x => (intOf x).toNat)
  case atStart => exact ⟨n, rfl, hdl, by omega⟩
  case round =>
    obtain ⟨m, rfl, m1, m2⟩ := hrel
    by_cases hm0 : 0 < m
    · obtain ⟨b, off, ha, hr⟩ : ∃ b off, a = some ⟨b, off, none⟩ ∧ Row8 w b off n v := by
        rcases HO.out with h | h
        · omega
        · exact h
      subst ha
      obtain ⟨q, rfl⟩ : ∃ q, m = q + 1 := ⟨m - 1, by omega⟩
      have hcell := hr.cell q (by omega)
      have e1 : ((q + 1 : Nat) : Int) - 1 = (q : Int) := by omega
      by_cases hlt : L < q + 1
      · have hz := HA.out q (by omega)
        rw [hz] at hcell
        clear hz
        go_wp2_with fail
        go_round
        case rel => exact ⟨q, by go_num, by omega, by omega⟩
        case measure => simp [intOf]
      · have hLe : L = q + 1 := by omega
        have hnz := HT.out (by omega)
        rw [hLe, Nat.add_sub_cancel] at hnz
        have hvz : ¬ v = 0 := fun h => by have := H0.out.1 h; omega
        have HTR : Hid (trA (some ⟨b, off, none⟩) v = some ⟨b, off, none⟩) := by unfold Hid trA; rw [if_neg hvz]
        obtain ⟨d, hd⟩ : ∃ d, d = dgt v q := ⟨_, rfl⟩
        rw [← hd] at hcell hnz
        have hne : (((d : Nat) : Int) == 0) = false := by rw [beq_eq_false_iff_ne]; omega
        have HLE := hide hLe
        clear hd hvz hLe hlt m1 hnz
        go_wp2_with fail
        go_ret
        exact ⟨by rw [HTR.out, HLE.out]; rfl, rfl⟩
    · have hm : m = 0 := by omega
      subst hm
      have hL0 : L = 0 := by omega
      have HTR : Hid (trA a v = none) := by unfold Hid trA; rw [if_pos (H0.out.2 hL0)]
      have HL0 := hide hL0
      clear hL0 m1 hm0
      go_wp2_with fail
      go_ret
      exact ⟨by rw [HTR.out, HL0.out]; rfl, rfl⟩

/-- A number on a stack: nil for zero, else its own digits, in memory from 0 on. -/
structure Ent (w : World) (a : Option Addr) (v : Nat) : Prop where
  nil : v = 0 → a = none
  som : 0 < v → ∃ b, a = some ⟨b, 0, none⟩ ∧ Row8 w b 0 (dlen v) v
  blk : ∀ b, a = some ⟨b, 0, none⟩ → ∃ t cs, Blk w b t cs
theorem Ent.op {w : World} {a : Option Addr} {v : Nat} (h : Ent w a v) : Op8 w a (dlen v) v := by
  rcases Nat.eq_zero_or_pos v with h0 | h0
  · subst h0; exact .inl rfl
  · obtain ⟨b, h1, h2⟩ := h.som h0
    exact .inr ⟨b, 0, h1, h2⟩
theorem Ent.chg {S : List Nat} {w w2 : World} {a : Option Addr} {v : Nat} (h : Ent w a v) (hc : Chg S w w2) (hn : ∀ b, a = some ⟨b, 0, none⟩ → b ∉ S) : Ent w2 a v :=
  ⟨h.nil, fun h0 => by
    obtain ⟨b, h1, h2⟩ := h.som h0
    exact ⟨b, h1, h2.chg hc (hn b h1)⟩, fun b hb => by
    obtain ⟨t, cs, hk⟩ := h.blk b hb
    exact ⟨t, cs, hc.blk hk (hn b hb)⟩⟩
theorem Ent.tr {w : World} {a : Option Addr} {v : Nat} (h : Ent w a v) : trA a v = a := by
  unfold trA
  by_cases h0 : v = 0
  · rw [if_pos h0, h.nil h0]
  · rw [if_neg h0]

theorem Normal_any (a : Option Addr) (v : Nat) (w : World) (hl : dlen v ≤ 5000) (h : Ent w a v) :
    Calls Takg.prog 146 #[.slice a (dlen v) (dlen v)] w fun e w' => e = .returned (.bool true) ∧ w' = w := by
  have E := eql_nil 83 5 a (dlen v) (dlen v) Takg.underlying83
  rcases Nat.eq_zero_or_pos v with h0 | h0
  · subst h0
    have := h.nil rfl
    subst this
    rw [dlen_zero] at E ⊢
    have E2 : ∀ w, (binOp .eql 83 (.slice none 0 0) (.slice none 0 0)).run Takg.prog w = .ok (.bool true) w := E
    clear E h
    go_enter Takg.func146, Takg.ntmps146
    go_wp2_with fail
    go_ret
    exact ⟨rfl, rfl⟩
  · obtain ⟨b, rfl, hr⟩ := h.som h0
    have hp := dlen_pos h0
    have ht := dgt_top h0
    obtain ⟨L, hL⟩ : ∃ L, L = dlen v := ⟨_, rfl⟩
    rw [← hL] at E hp ht hl hr ⊢
    obtain ⟨q, rfl⟩ : ∃ q, L = q + 1 := ⟨L - 1, by omega⟩
    have hcell := hr.cell q (by omega)
    rw [Nat.add_sub_cancel] at ht
    obtain ⟨d, hd⟩ : ∃ d, d = dgt v q := ⟨_, rfl⟩
    rw [← hd] at hcell ht
    rw [Nat.zero_add] at hcell
    have hne : (((d : Nat) : Int) == 0) = false := by rw [beq_eq_false_iff_ne]; omega
    have hne2 : (((d : Nat) : Int) != 0) = true := by rw [bne, hne]; rfl
    have e1 : ((q + 1 : Nat) : Int) - 1 = (q : Int) := by omega
    have E2 : ∀ w, (binOp .eql 83 (.slice (some ⟨b, 0, none⟩) (q + 1) (q + 1)) (.slice none 0 0)).run Takg.prog w = .ok (.bool false) w := E
    clear E h hr hd ht hL
    go_enter Takg.func146, Takg.ntmps146
    go_wp2_with fail
    go_ret
    exact ⟨rfl, rfl⟩
end Na
end Go.Proofs.Ygctak
