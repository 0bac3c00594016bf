/-
  nat.Sub.
-/
import Derived.Test.YgctakNa4
namespace Go.Proofs.Ygctak
open Go.RowKit
set_option linter.unusedVariables false
set_option linter.unusedSimpArgs false
attribute [local go_sem ↓] Go.wp_at_zero Go.wp_at_succ
namespace Na

theorem results2 {fn : Func} {t u : Tmp} (h : fn.results = #[.tmp t, .tmp u]) (tmps : Array Value) (P : Program) (w : World) :
    (results fn tmps).run P w = .ok (.tuple #[tmps.getD t undef, tmps.getD u undef]) w := by
  simp [results, h]

def bw (x y i : Nat) : Nat := if x % 256 ^ i < y % 256 ^ i then 1 else 0
theorem bw_zero (x y : Nat) : bw x y 0 = 0 := by simp [bw, Nat.mod_one]
theorem bw_le (x y i : Nat) : bw x y i ≤ 1 := by unfold bw; split <;> omega
theorem bw_step (x y i : Nat) (h : y ≤ x) : bw x y (i + 1) = (if dgt x i < dgt y i + bw x y i then 1 else 0) ∧ dgt (x - y) i = (dgt x i + 512 - dgt y i - bw x y i) % 256 := by
  have hp := pos256 i
  have hx := Nat.mod_lt x hp
  have hy := Nat.mod_lt y hp
  constructor
  · unfold bw dgt
    rw [Nat.pow_succ, Nat.mod_mul, Nat.mod_mul]
    generalize x / 256 ^ i % 256 = dx
    generalize y / 256 ^ i % 256 = dy
    generalize 256 ^ i = P at *
    generalize x % P = xr at *
    generalize y % P = yr at *
    have key : (xr + P * dx < yr + P * dy) ↔ dx < dy + (if xr < yr then 1 else 0) := by
      rcases Nat.lt_trichotomy dx dy with h1 | h1 | h1
      · have := Nat.mul_le_mul_left P (show dx + 1 ≤ dy by omega)
        rw [Nat.mul_add] at this
        constructor
        · intro _; omega
        · intro _; omega
      · subst h1
        constructor
        · intro h2; rw [if_pos (by omega)]; omega
        · intro h2
          by_cases h3 : xr < yr
          · omega
          · rw [if_neg h3] at h2; omega
      · have := Nat.mul_le_mul_left P (show dy + 1 ≤ dx by omega)
        rw [Nat.mul_add] at this
        constructor
        · intro h2; omega
        · intro h2
          split at h2 <;> omega
    by_cases h3 : xr + P * dx < yr + P * dy
    · rw [if_pos h3, if_pos (key.1 h3)]
    · rw [if_neg h3, if_neg (fun h4 => h3 (key.2 h4))]
  · unfold bw dgt
    have hdx := Nat.div_add_mod x (256 ^ i)
    have hdy := Nat.div_add_mod y (256 ^ i)
    have hq : (x - y) / 256 ^ i = x / 256 ^ i - y / 256 ^ i - (if x % 256 ^ i < y % 256 ^ i then 1 else 0) := by
      generalize 256 ^ i = P at *
      generalize hX : x / P = X at *
      generalize hY : y / P = Y at *
      generalize x % P = xr at *
      generalize y % P = yr at *
      by_cases h3 : xr < yr
      · rw [if_pos h3]
        have hXY : Y + 1 ≤ X := by
          rcases Nat.lt_or_ge Y X with h4 | h4
          · exact h4
          · have := Nat.mul_le_mul_left P h4; omega
        obtain ⟨d, rfl⟩ : ∃ d, X = Y + 1 + d := ⟨X - (Y + 1), by omega⟩
        have e : x - y = (P + xr - yr) + P * d := by
          rw [Nat.mul_add, Nat.mul_add, Nat.mul_one] at hdx
          omega
        rw [e, Nat.add_mul_div_left _ _ hp, Nat.div_eq_of_lt (by omega)]
        omega
      · rw [if_neg h3]
        have hXY : Y ≤ X := by
          rcases Nat.lt_or_ge X Y with h4 | h4
          · have := Nat.mul_le_mul_left P (show X + 1 ≤ Y by omega)
            rw [Nat.mul_add] at this
            omega
          · exact h4
        obtain ⟨d, rfl⟩ : ∃ d, X = Y + d := ⟨X - Y, by omega⟩
        have e : x - y = (xr - yr) + P * d := by
          rw [Nat.mul_add] at hdx
          omega
        rw [e, Nat.add_mul_div_left _ _ hp, Nat.div_eq_of_lt (by omega)]
        omega
    rw [hq]
    have hle : y / 256 ^ i + (if x % 256 ^ i < y % 256 ^ i then 1 else 0) ≤ x / 256 ^ i := by
      generalize 256 ^ i = P at *
      generalize x / P = X at *
      generalize y / P = Y at *
      generalize x % P = xr at *
      generalize y % P = yr at *
      split
      · rcases Nat.lt_or_ge Y X with h4 | h4
        · omega
        · have := Nat.mul_le_mul_left P h4; omega
      · rcases Nat.lt_or_ge X Y with h4 | h4
        · have := Nat.mul_le_mul_left P (show X + 1 ≤ Y by omega)
          rw [Nat.mul_add] at this
          omega
        · omega
    generalize x / 256 ^ i = X at *
    generalize y / 256 ^ i = Y at *
    generalize hb : (if x % 256 ^ i < y % 256 ^ i then 1 else 0) = b at *
    have hb1 : b ≤ 1 := by rw [← hb]; split <;> omega
    clear hq hdx hdy hb
    omega

/-- x is not below y. -/
def geB (x y : Nat) : Bool := decide (y ≤ x)

set_option maxHeartbeats 1000000 in
theorem Sub_any (a1 a2 : Option Addr) (x y : Nat) (w : World) (l1 : dlen x ≤ 5000) (l2 : dlen y ≤ 5000) (h1 : Ent w a1 x) (h2 : Ent w a2 y) :
    Calls Takg.prog 123 #[.slice a1 (dlen x) (dlen x), .slice a2 (dlen y) (dlen y)] w fun e w' => ∃ a', e = .returned (.tuple #[.slice a' (dlen (x - y)) (dlen (x - y)), .bool (geB x y)]) ∧ New w w' a' (x - y) ∧ Chg [] w w' := by
  have t1 := trim_any a1 (dlen x) (dlen x) x w (by omega) (by omega) (dlen_lt x) h1.op
  have t2 := trim_any a2 (dlen y) (dlen y) y w (by omega) (by omega) (dlen_lt y) h2.op
  rw [h1.tr] at t1
  rw [h2.tr] at t2
  have T1 := hide t1
  have T2 := hide t2
  have P1 := hide h1.op
  have P2 := hide h2.op
  have HC := hide (Cmp_any a1 a2 x y w l1 l2 h1 h2)
  clear t1 t2 h1 h2
  by_cases hxy : y ≤ x
  · have hcn : decide (cmpN x y < 0) = false := by
      rw [decide_eq_false_iff_not]; unfold cmpN; rw [if_neg (by omega)]; split <;> omega
    have hle : dlen y ≤ dlen x := by
      rcases Nat.lt_or_ge (dlen x) (dlen y) with h | h
      · have := dlen_mono h; omega
      · exact h
    have HD : Hid (geB x y = true) := decide_eq_true hxy
    have HST := hide (fun i => bw_step x y i hxy)
    obtain ⟨L, hL⟩ : ∃ L, L = dlen x := ⟨_, rfl⟩
    obtain ⟨M, hM⟩ : ∃ M, M = dlen y := ⟨_, rfl⟩
    have hX := dlen_lt x
    have ce2 : x - y < 256 ^ dlen x := by omega
    rw [← hL] at l1 hle P1 T1 HC hX ce2 ⊢
    rw [← hM] at l2 hle P2 T2 HC ⊢
    have HTR := hide (fun a W (hW : Op8 W a L (x - y)) => trim_any a L L (x - y) W (by omega) (by omega) ce2 hW)
    have HCE2 := hide ce2
    have HYA : Hid (∀ j, M ≤ j → dgt y j = 0) := fun j hj => dgt_above (by omega)
    clear hL hM hX ce2 hxy
    have hmk := make_run (P := Takg.prog) 83 5 (.int .u8 0) 1 L rfl Takg.underlying83 info5 (by omega) (by omega)
    go_enter Takg.func123, Takg.ntmps123
    go_wp2_with fail
    refine T1.out.mono ?_
    rintro e w1 ⟨rfl, rfl⟩
    go_wp2_with fail
    refine T2.out.mono ?_
    rintro e w2 ⟨rfl, rfl⟩
    go_wp2_with fail
    refine HC.out.mono ?_
    rintro e w3 ⟨rfl, hc3⟩
    go_upto_region 5 with fail
    clear hmk T1 T2 HC hcn
    obtain ⟨g, hg⟩ : ∃ g, g = w3.heap.size := ⟨_, rfl⟩
    have hbn := Blk.newRep w3 L (Value.int .u8 0) 5
    have hch := hc3.alloc (.cells (Array.replicate L (Value.int .u8 0)) 5)
    rw [← hg] at hbn ⊢
    have gg : w2.heap.size ≤ g := by have := hc3.size; omega
    clear hg hc3
    generalize w3.alloc (.cells (Array.replicate L (Value.int .u8 0)) 5) = w4 at *
    have e0 : List.replicate L (Value.int .u8 0) = R8 L (fun m => if m < 0 then dgt (x - y) m else 0) := by
      rw [R8_rep]; exact R8_congr fun j _ => by rw [if_neg (by omega)]
    rw [e0] at hbn
    clear e0
    go_wp2_with fail
    go_loopw [7, 8] (fun u v wr => ∃ i c : Nat, u = .int .u16 c ∧ v = .int .i64 i ∧ i ≤ L ∧ c ≤ 1 ∧ Hid (c = bw x y i) ∧ Blk wr g 5 (R8 L fun m => if m < i then dgt (x - y) m else 0) ∧ Chg [] w2 wr) (fun _ v _ => L - (intOf v).toNat)
    case atStart => exact ⟨0, 0, rfl, rfl, by omega, by omega, by unfold Hid; rw [bw_zero], hbn, hch⟩
    case round =>
      clear hbn hch
      obtain ⟨i, c, rfl, rfl, hi, hc1, HC, kb, cw⟩ := hrel
      have o1 := P1.out.chg cw
      have o2 := P2.out.chg cw
      by_cases hil : i < L
      · obtain ⟨b1, f1, rfl, r1⟩ : ∃ b off, a1 = some ⟨b, off, none⟩ ∧ Row8 wr b off L x := by
          rcases o1 with h | h
          · omega
          · exact h
        have k1 := r1.cell i hil
        have z1 := dgt_lt x i
        have z2 := dgt_lt y i
        obtain ⟨st1, st2⟩ := HST.out i
        rw [← HC.out] at st1 st2
        have kc := R8_cell kb i (by omega)
        rw [if_neg (by omega)] at kc
        have fz := kb.frozen i none
        have V0 := R8_setB kb i (dgt (x - y) i)
        have e1 : R8 L (fun m => if m = i then dgt (x - y) i else if m < i then dgt (x - y) m else 0) = R8 L (fun m => if m < i + 1 then dgt (x - y) m else 0) := R8_congr fun m _ => by
          by_cases e : m = i
          · subst e; rw [if_pos rfl, if_pos (by omega)]
          · rw [if_neg e]
            by_cases e2 : m < i
            · rw [if_pos e2, if_pos (by omega)]
            · rw [if_neg e2, if_neg (by omega)]
        rw [e1] at V0
        obtain ⟨d1, hd1⟩ : ∃ d, d = dgt x i := ⟨_, rfl⟩
        obtain ⟨d2, hd2⟩ : ∃ d, d = dgt y i := ⟨_, rfl⟩
        obtain ⟨ds, hds⟩ : ∃ d, d = dgt (x - y) i := ⟨_, rfl⟩
        obtain ⟨nb, hnb⟩ : ∃ d, d = bw x y (i + 1) := ⟨_, rfl⟩
        rw [← hd1] at k1 z1 st1 st2
        rw [← hd2] at z2 st1 st2
        rw [← hds] at st2 V0
        rw [← hnb] at st1
        have V4 := cw.setNew ⟨g, i, none⟩ gg (.int .u8 (ds : Nat))
        have HC2 := hide hnb
        have hnb1 : nb ≤ 1 := by rw [hnb]; exact bw_le _ _ _
        obtain ⟨D1, hD1⟩ : ∃ D, D = (d1 + 65536 - c) % 65536 := ⟨_, rfl⟩
        obtain ⟨D, hD⟩ : ∃ D, D = (D1 + 65536 - d2) % 65536 := ⟨_, rfl⟩
        have q1 : IntKind.u16.wrap ((d1 : Int) - (c : Int)) = (D1 : Int) := by rw [IntKind.wrap_u16]; omega
        have q2 : IntKind.u16.wrap ((D1 : Int) - (d2 : Int)) = (D : Int) := by rw [IntKind.wrap_u16]; omega
        have q3 : IntKind.u8.wrap (D : Int) = (ds : Int) := by rw [IntKind.wrap_u8]; omega
        have q4 : (D : Int) / 32768 = (nb : Int) := by
          split at st1 <;> omega
        have bD1 : D1 < 65536 := by omega
        have bD : D < 65536 := by omega
        have hd20 : M ≤ i → d2 = 0 := fun h => by rw [hd2]; exact HYA.out i h
        have HD20 := hide hd20
        have hDD : d2 = 0 → D = D1 := fun h => by omega
        have HDD := hide hDD
        by_cases him : i < M
        · obtain ⟨b2, f2, rfl, r2⟩ : ∃ b off, a2 = some ⟨b, off, none⟩ ∧ Row8 wr b off M y := by
            rcases o2 with h | h
            · omega
            · exact h
          have k2 := r2.cell i him
          rw [← hd2] at k2
          clear hd1 hd2 hds st1 st2 hd20 e1 o1 r1 r2 kb HYA hnb hD1 hD hDD
          go_wp2_with fail
          go_roundw
          case rel => exact ⟨i + 1, nb, by go_num, by go_num, by omega, hnb1, HC2, V0, V4⟩
          case measure => simp [intOf]; omega
        · have hd0 := HD20.out (by omega)
          have hdd := HDD.out hd0
          subst hdd
          clear hd1 hd2 hds st1 st2 hd20 e1 o1 o2 r1 kb HYA hnb hD1 hD hDD hd0 q2
          go_wp2_with fail
          go_roundw
          case rel => exact ⟨i + 1, nb, by go_num, by go_num, by omega, hnb1, HC2, V0, V4⟩
          case measure => simp [intOf]; omega
      · have hie : i = L := by omega
        subst hie
        have hrow : Row8 wr g 0 i (x - y) := R8_row kb fun j hj => by rw [if_pos hj]
        have HKB := hide kb
        clear kb o1 o2
        go_wp2_with fail
        refine (HTR.out (some ⟨g, 0, none⟩) _ (.inr ⟨g, 0, rfl, hrow⟩)).mono ?_
        rintro e w5 ⟨rfl, rfl⟩
        go_wp2_with fail
        refine bodyPost_ret (results2 rfl _ _ _) rfl ?_
        rw [HD.out]
        exact ⟨_, rfl, New.row gg hrow HCE2.out HKB.out, cw⟩
  · have hcn : decide (cmpN x y < 0) = true := by
      rw [decide_eq_true_iff]; unfold cmpN; rw [if_pos (by omega)]; decide
    have HV : Hid (x - y = 0) := by unfold Hid; omega
    have HD : Hid (geB x y = false) := decide_eq_false hxy
    clear hxy
    go_enter Takg.func123, Takg.ntmps123
    go_wp2_with fail
    refine T1.out.mono ?_
    rintro e w1 ⟨rfl, rfl⟩
    go_wp2_with fail
    refine T2.out.mono ?_
    rintro e w2 ⟨rfl, rfl⟩
    go_wp2_with fail
    refine HC.out.mono ?_
    rintro e w3 ⟨rfl, hc3⟩
    go_wp2_with fail
    refine bodyPost_ret (results2 rfl _ _ _) rfl ?_
    rw [HD.out, HV.out]
    exact ⟨none, rfl, New.zero _ _, hc3⟩
end Na
end Go.Proofs.Ygctak
