/-
  nat.Carry.
-/
import Derived.Test.YgctakNa5
namespace Go.Proofs.Ygctak
open Go.RowKit
set_option linter.unusedVariables false
set_option linter.unusedSimpArgs false
attribute [local go_sem ↓] Go.wp_at_zero Go.wp_at_succ
namespace Na

/-- f 0 + f 1 * 256 + .., n terms. -/
def cval (f : Nat → Nat) : Nat → Nat
  | 0 => 0
  | n + 1 => cval f n + f n * 256 ^ n
/-- What is carried into place i. -/
def ov (f : Nat → Nat) (i : Nat) : Nat := cval f i / 256 ^ i
theorem ov_next (f : Nat → Nat) (i : Nat) : ov f (i + 1) = (ov f i + f i) / 256 := by
  unfold ov
  rw [cval, Nat.pow_succ, ← Nat.div_div_eq_div_mul, Nat.add_mul_div_right _ _ (pos256 i)]
theorem cval_more (f : Nat → Nat) (n : Nat) : ∀ d, (∀ j, n ≤ j → f j = 0) → cval f (n + d) = cval f n
  | 0, _ => rfl
  | d + 1, h => by rw [← Nat.add_assoc, cval, cval_more f n d h, h (n + d) (by omega), Nat.zero_mul, Nat.add_zero]
theorem cval_split (f : Nat → Nat) (i : Nat) : ∀ d, ∃ q, cval f (i + 1 + d) = cval f i + f i * 256 ^ i + q * 256 ^ (i + 1)
  | 0 => ⟨0, by rw [Nat.add_zero, cval]; omega⟩
  | d + 1 => by
    obtain ⟨q, hq⟩ := cval_split f i d
    refine ⟨q + f (i + 1 + d) * 256 ^ d, ?_⟩
    rw [← Nat.add_assoc, cval, hq, Nat.add_mul, Nat.mul_assoc, ← Nat.pow_add, show d + (i + 1) = i + 1 + d by omega]
    omega
theorem cval_dgt (f : Nat → Nat) (i d : Nat) : dgt (cval f (i + 1 + d)) i = (ov f i + f i) % 256 := by
  obtain ⟨q, hq⟩ := cval_split f i d
  unfold dgt ov
  rw [hq, Nat.pow_succ]
  have e : cval f i + f i * 256 ^ i + q * (256 ^ i * 256) = cval f i + (f i + q * 256) * 256 ^ i := by rw [Nat.add_mul]; grind
  rw [e, Nat.add_mul_div_right _ _ (pos256 i)]
  omega
theorem ov_le (f : Nat → Nat) (h : ∀ j, f j ≤ 2 ^ 40) : ∀ i, ov f i ≤ 2 ^ 40
  | 0 => by simp [ov, cval]
  | i + 1 => by
    have := ov_le f h i
    have := h i
    rw [ov_next]
    omega
theorem cval_lt (f : Nat → Nat) (h : ∀ j, f j ≤ 2 ^ 40) (n : Nat) : cval f n < 256 ^ (n + 8) := by
  have h1 := ov_le f h n
  unfold ov at h1
  have h2 := Nat.div_add_mod (cval f n) (256 ^ n)
  have h3 := Nat.mod_lt (cval f n) (pos256 n)
  rw [Nat.pow_add]
  have h4 : 256 ^ n * (cval f n / 256 ^ n) ≤ 256 ^ n * 2 ^ 40 := Nat.mul_le_mul_left _ h1
  have h5 : 256 ^ n * 256 ^ 8 = 256 ^ n * 2 ^ 40 + 256 ^ n * (2 ^ 64 - 2 ^ 40) := by rw [← Nat.mul_add]
  have h6 : 256 ^ n ≤ 256 ^ n * (2 ^ 64 - 2 ^ 40) := Nat.le_mul_of_pos_right _ (by decide)
  omega

/-- A row of int64. -/
structure Row64 (w : World) (b n : Nat) (f : Nat → Nat) : Prop where
  lt : b < w.heap.size
  cell : ∀ j, j < n → w.cell? ⟨b, j, none⟩ = some (.int .i64 (f j : Nat))
theorem Row64.chg {w w2 : World} {b n : Nat} {f : Nat → Nat} (h : Row64 w b n f) (hc : Chg [] w w2) : Row64 w2 b n f :=
  ⟨Nat.lt_of_lt_of_le h.lt hc.size, fun j hj => (hc.cell b _ h.lt (by simp)).trans (h.cell j hj)⟩
def Op64 (w : World) (a : Option Addr) (n : Nat) (f : Nat → Nat) : Prop := n = 0 ∨ ∃ b, a = some ⟨b, 0, none⟩ ∧ Row64 w b n f
theorem Op64.chg {w w2 : World} {a : Option Addr} {n : Nat} {f : Nat → Nat} (h : Op64 w a n f) (hc : Chg [] w w2) : Op64 w2 a n f := by
  rcases h with h | ⟨b, h1, h2⟩
  · exact .inl h
  · exact .inr ⟨b, h1, h2.chg hc⟩

set_option maxHeartbeats 1000000 in
theorem Carry_any (a : Option Addr) (n : Nat) (f : Nat → Nat) (w : World) (hn : n ≤ 5000) (hf : ∀ j, f j ≤ 2 ^ 40) (hz : ∀ j, n ≤ j → f j = 0) (h : Op64 w a n f) :
    Calls Takg.prog 86 #[.slice a n n] w fun e w' => ∃ a', e = .returned (.tuple #[.slice a' (dlen (cval f n)) (dlen (cval f n)), .bool true]) ∧ New w w' a' (cval f n) ∧ Chg [] w w' := by
  have P1 := hide h
  have HF := hide hf
  have HZ := hide hz
  obtain ⟨v, hv⟩ : ∃ v, v = cval f n := ⟨_, rfl⟩
  have hlt := cval_lt f hf n
  have HDG : Hid (∀ i, i < n + 8 → dgt v i = (ov f i + f i) % 256) := fun i hi => by
    have := cval_dgt f i (n + 8 - (i + 1))
    rw [show i + 1 + (n + 8 - (i + 1)) = n + 8 by omega, cval_more f n 8 hz, ← hv] at this
    exact this
  rw [← hv] at hlt ⊢
  have HOV := hide (fun i => ov_le f hf i)
  have HTR := hide (fun b W (hW : Op8 W (some ⟨b, 0, none⟩) (n + 8) v) => trim_any (some ⟨b, 0, none⟩) (n + 8) (n + 8) v W (by omega) (by omega) hlt hW)
  have HLT := hide hlt
  clear hv hlt hf hz h
  have hmk := make_run (P := Takg.prog) 83 5 (.int .u8 0) 1 (n + 8) rfl Takg.underlying83 info5 (by omega) (by omega)
  rw [show ((n + 8 : Nat) : Int) = (n : Int) + 8 by omega] at hmk
  go_enter Takg.func86, Takg.ntmps86
  go_wp2_with fail
  go_loop [4] (fun x => ∃ i : Nat, x = .int .i64 i ∧ i ≤ n) (fun x => n - (intOf x).toNat)
  case atStart => exact ⟨0, rfl, by omega⟩
  case round =>
    obtain ⟨i, rfl, hi⟩ := hrel
    by_cases hil : i < n
    · obtain ⟨b, rfl, r1⟩ : ∃ b, a = some ⟨b, 0, none⟩ ∧ Row64 w b n f := by
        rcases P1.out with h | h
        · omega
        · exact h
      have k1 := r1.cell i hil
      have hb := HF.out i
      obtain ⟨d, hd⟩ : ∃ d, d = f i := ⟨_, rfl⟩
      rw [← hd] at k1 hb
      have q1 : decide ((d : Int) < 0) = false := decide_eq_false (by omega)
      have q2 : decide ((36028797018963968 : Int) ≤ (d : Int)) = false := decide_eq_false (by omega)
      clear hd r1
      go_wp2_with fail
      go_round
      case rel => exact ⟨i + 1, by go_num, by omega⟩
      case measure => simp [intOf]; omega
    · go_upto_region 7 with fail
      clear hmk
      obtain ⟨g, hg⟩ : ∃ g, g = w.heap.size := ⟨_, rfl⟩
      have hbn := Blk.newRep w (n + 8) (Value.int .u8 0) 5
      have hch := (Chg.refl [] w).alloc (.cells (Array.replicate (n + 8) (Value.int .u8 0)) 5)
      rw [← hg] at hbn ⊢
      have gg : w.heap.size ≤ g := by omega
      clear hg
      generalize w.alloc (.cells (Array.replicate (n + 8) (Value.int .u8 0)) 5) = w4 at *
      have e0 : List.replicate (n + 8) (Value.int .u8 0) = R8 (n + 8) (fun m => if m < 0 then dgt v m else 0) := by
        rw [R8_rep]; exact R8_congr fun j _ => by rw [if_neg (by omega)]
      rw [e0] at hbn
      clear e0
      go_wp2_with fail
      go_loopw [6, 7] (fun u x wr => ∃ i c : Nat, u = .int .i64 c ∧ x = .int .i64 i ∧ i ≤ n + 8 ∧ c ≤ 2 ^ 40 ∧ Hid (c = ov f i) ∧ Blk wr g 5 (R8 (n + 8) fun m => if m < i then dgt v m else 0) ∧ Chg [] w wr) (fun _ x _ => n + 8 - (intOf x).toNat)
      case atStart => exact ⟨0, 0, rfl, rfl, by omega, by omega, by unfold Hid; simp [ov, cval], hbn, hch⟩
      case round =>
        clear hbn hch hil hi
        obtain ⟨i, c, rfl, rfl, hi, hc1, HC, kb, cw⟩ := hrel
        have o1 := P1.out.chg cw
        by_cases hil : i < n + 8
        · have hdg := HDG.out i hil
          rw [← HC.out] at hdg
          have hnx := ov_next f i
          rw [← HC.out] at hnx
          have hov := HOV.out (i + 1)
          have hb := HF.out i
          have kc := R8_cell kb i hil
          rw [if_neg (by omega)] at kc
          have fz := kb.frozen i none
          have V0 := R8_setB kb i (dgt v i)
          have e1 : R8 (n + 8) (fun m => if m = i then dgt v i else if m < i then dgt v m else 0) = R8 (n + 8) (fun m => if m < i + 1 then dgt v m else 0) := R8_congr fun m _ => by
            by_cases e : m = i
            · subst e; rw [if_pos rfl, if_pos (by omega)]
            · rw [if_neg e]
              by_cases e2 : m < i
              · rw [if_pos e2, if_pos (by omega)]
              · rw [if_neg e2, if_neg (by omega)]
          rw [e1] at V0
          obtain ⟨d, hd⟩ : ∃ d, d = f i := ⟨_, rfl⟩
          obtain ⟨ds, hds⟩ : ∃ d, d = dgt v i := ⟨_, rfl⟩
          obtain ⟨nb, hnb⟩ : ∃ d, d = ov f (i + 1) := ⟨_, rfl⟩
          rw [← hd] at hdg hnx hb
          rw [← hds] at hdg V0
          rw [← hnb] at hnx hov
          have HC2 := hide hnb
          have V4 := cw.setNew ⟨g, i, none⟩ gg (.int .u8 (ds : Nat))
          have q1 : IntKind.u8.wrap ((c : Int) + (d : Int)) = (ds : Int) := by rw [IntKind.wrap_u8]; omega
          have q2 : ((c : Int) + (d : Int)) / 256 = (nb : Int) := by omega
          have hd0 : n ≤ i → d = 0 := fun h => by rw [hd]; exact HZ.out i h
          have HD0 := hide hd0
          by_cases him : i < n
          · obtain ⟨b, rfl, r1⟩ : ∃ b, a = some ⟨b, 0, none⟩ ∧ Row64 wr b n f := by
              rcases o1 with h | h
              · omega
              · exact h
            have k1 := r1.cell i him
            rw [← hd] at k1
            clear hd hds hnb hdg hnx e1 o1 r1 kb hd0
            go_wp2_with fail
            go_roundw
            case rel => exact ⟨i + 1, nb, by go_num, by go_num, by omega, hov, HC2, V0, V4⟩
            case measure => simp [intOf]; omega
          · have hdz := HD0.out (by omega)
            subst hdz
            have q3 : IntKind.u8.wrap (c : Int) = (ds : Int) := by simpa using q1
            have q4 : (c : Int) / 256 = (nb : Int) := by simpa using q2
            clear hd hds hnb hdg hnx e1 o1 kb hd0 q1 q2
            go_wp2_with fail
            go_roundw
            case rel => exact ⟨i + 1, nb, by go_num, by go_num, by omega, hov, HC2, V0, V4⟩
            case measure => simp [intOf]; omega
        · have hie : i = n + 8 := by omega
          subst hie
          have hrow : Row8 wr g 0 (n + 8) v := R8_row kb fun j hj => by rw [if_pos hj]
          have HKB := hide kb
          clear kb o1
          go_wp2_with fail
          refine (HTR.out g _ (.inr ⟨g, 0, rfl, hrow⟩)).mono ?_
          rintro e w5 ⟨rfl, rfl⟩
          go_wp2_with fail
          refine bodyPost_ret (results2 rfl _ _ _) rfl ?_
          exact ⟨_, rfl, New.row gg hrow HLT.out HKB.out, cw⟩
end Na
end Go.Proofs.Ygctak
