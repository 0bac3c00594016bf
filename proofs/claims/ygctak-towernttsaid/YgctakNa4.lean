/-
  nat.Add.
-/
import Derived.Test.YgctakNa3
namespace Go.Proofs.Ygctak
open Go.RowKit
set_option linter.unusedVariables false
set_option linter.unusedSimpArgs false
attribute [local go_sem ↓] Go.wp_at_zero Go.wp_at_succ
namespace Na

/-- A row of bytes. -/
def R8 (n : Nat) (f : Nat → Nat) : List Value := (List.range n).map fun j => .int .u8 (f j : Nat)
theorem R8_length (n : Nat) (f : Nat → Nat) : (R8 n f).length = n := by simp [R8]
theorem R8_get (n : Nat) (f : Nat → Nat) (j : Nat) (h : j < n) : (R8 n f)[j]? = some (.int .u8 (f j : Nat)) := by simp [R8, h]
theorem R8_congr {n : Nat} {f g : Nat → Nat} (h : ∀ j, j < n → f j = g j) : R8 n f = R8 n g := List.map_congr_left fun j hj => by rw [h j (by simpa using hj)]
theorem R8_set (n : Nat) (f : Nat → Nat) (i v : Nat) : (R8 n f).set i (.int .u8 (v : Nat)) = R8 n (fun m => if m = i then v else f m) := by
  apply List.ext_getElem
  · simp [R8]
  · intro m h1 h2
    rw [List.getElem_set]
    simp only [R8, List.getElem_map, List.getElem_range]
    by_cases e : i = m
    · rw [if_pos e, if_pos e.symm]
    · rw [if_neg e, if_neg (Ne.symm e)]
theorem R8_rep (n : Nat) : List.replicate n (Value.int .u8 0) = R8 n fun _ => 0 := by
  unfold R8
  apply List.ext_getElem
  · simp
  · intro m h1 h2; simp
theorem R8_setB {w : World} {b t n : Nat} {f : Nat → Nat} (h : Blk w b t (R8 n f)) (i v : Nat) : Blk (w.setCell ⟨b, i, none⟩ (.int .u8 (v : Nat))) b t (R8 n fun m => if m = i then v else f m) := by
  have := h.set i (.int .u8 (v : Nat))
  rw [R8_set] at this
  exact this
theorem R8_cell {w : World} {b t n : Nat} {f : Nat → Nat} (h : Blk w b t (R8 n f)) (i : Nat) (hi : i < n) : w.cell? ⟨b, i, none⟩ = some (.int .u8 (f i : Nat)) := h.cell i _ (R8_get n f i hi)
theorem R8_row {w : World} {b t n v : Nat} {f : Nat → Nat} (h : Blk w b t (R8 n f)) (hf : ∀ j, j < n → f j = dgt v j) : Row8 w b 0 n v := ⟨h.lt, fun j hj => by
  have := R8_cell h j hj
  rw [hf j hj] at this
  rwa [Nat.zero_add]⟩
theorem New.row {w w' : World} {b n v : Nat} (hb : w.heap.size ≤ b) (h : Row8 w' b 0 n v) (hv : v < 256 ^ n) {t : Nat} {cs : List Value} (hk : Blk w' b t cs) : New w w' (trA (some ⟨b, 0, none⟩) v) v := by
  unfold trA
  refine ⟨⟨fun h0 => by rw [if_pos h0], fun h0 => ⟨b, by rw [if_neg (by omega)], h.less (dlen_le hv)⟩, fun b' hb' => ⟨t, cs, by
    split at hb'
    · cases hb'
    · simp only [Option.some.injEq, Addr.mk.injEq] at hb'
      rw [← hb'.1]; exact hk⟩⟩, fun b' hb' => ?_⟩
  split at hb'
  · cases hb'
  · simp only [Option.some.injEq, Addr.mk.injEq] at hb'
    omega

def cr (x y i : Nat) : Nat := (x % 256 ^ i + y % 256 ^ i) / 256 ^ i
theorem cr_zero (x y : Nat) : cr x y 0 = 0 := by simp [cr, Nat.mod_one]
theorem cr_le (x y i : Nat) : cr x y i ≤ 1 := by
  unfold cr
  have h1 := Nat.mod_lt x (pos256 i)
  have h2 := Nat.mod_lt y (pos256 i)
  have : (x % 256 ^ i + y % 256 ^ i) / 256 ^ i < 2 := Nat.div_lt_of_lt_mul (by omega)
  omega
theorem cr_step (x y i : Nat) : cr x y (i + 1) = (dgt x i + cr x y i + dgt y i) / 256 ∧ dgt (x + y) i = (dgt x i + cr x y i + dgt y i) % 256 := by
  have hp := pos256 i
  constructor
  · unfold cr dgt
    rw [Nat.pow_succ, Nat.mod_mul, Nat.mod_mul, ← Nat.div_div_eq_div_mul]
    congr 1
    have e : x % 256 ^ i + 256 ^ i * (x / 256 ^ i % 256) + (y % 256 ^ i + 256 ^ i * (y / 256 ^ i % 256)) = x % 256 ^ i + y % 256 ^ i + 256 ^ i * (x / 256 ^ i % 256 + y / 256 ^ i % 256) := by rw [Nat.mul_add]; omega
    rw [e, Nat.add_mul_div_left _ _ hp]
    omega
  · unfold cr dgt
    have e : (x + y) / 256 ^ i = x / 256 ^ i + y / 256 ^ i + (x % 256 ^ i + y % 256 ^ i) / 256 ^ i := by
      have h1 := Nat.div_add_mod x (256 ^ i)
      have h2 := Nat.div_add_mod y (256 ^ i)
      have : x + y = x % 256 ^ i + y % 256 ^ i + 256 ^ i * (x / 256 ^ i + y / 256 ^ i) := by rw [Nat.mul_add]; omega
      rw [this, Nat.add_mul_div_left _ _ hp]
      omega
    rw [e]
    omega
theorem cr_end {x y n : Nat} (hx : x < 256 ^ n) (hy : y < 256 ^ n) : cr x y n = dgt (x + y) n ∧ x + y < 256 ^ (n + 1) := by
  have e1 : cr x y n = (x + y) / 256 ^ n := by unfold cr; rw [Nat.mod_eq_of_lt hx, Nat.mod_eq_of_lt hy]
  have h2 := cr_le x y n
  rw [e1] at h2
  refine ⟨by rw [e1]; unfold dgt; rw [Nat.mod_eq_of_lt (by omega)], ?_⟩
  rw [Nat.pow_succ]
  omega

set_option maxHeartbeats 1000000 in
theorem Add_any (a1 a2 : Option Addr) (x y : Nat) (w : World) (l1 : dlen x ≤ 5000) (l2 : dlen y ≤ 5000) (h1 : Ent w a1 x) (h2 : Ent w a2 y) :
    Calls Takg.prog 122 #[.slice a1 (dlen x) (dlen x), .slice a2 (dlen y) (dlen y)] w fun e w' => ∃ a', e = .returned (.slice a' (dlen (x + y)) (dlen (x + y))) ∧ New w w' a' (x + y) ∧ Chg [] w w' := by
  have t1 := trim_any a1 (dlen x) (dlen x) x w (by omega) (by omega) (dlen_lt x) h1.op
  have t2 := trim_any a2 (dlen y) (dlen y) y w (by omega) (by omega) (dlen_lt y) h2.op
  rw [h1.tr] at t1
  rw [h2.tr] at t2
  have T1 := hide t1
  have T2 := hide t2
  have O1 := hide h1.op
  have O2 := hide h2.op
  clear t1 t2 h1 h2
  go_enter Takg.func122, Takg.ntmps122
  go_wp2_with fail
  refine T1.out.mono ?_
  rintro e w1 ⟨rfl, rfl⟩
  go_wp2_with fail
  refine T2.out.mono ?_
  rintro e w2 ⟨rfl, rfl⟩
  go_upto_if 17 with fail
  go_cut [0, 1] (fun p q wc => ∃ A1 A2 X Y, p = .slice A1 (dlen X) (dlen X) ∧ q = .slice A2 (dlen Y) (dlen Y) ∧ dlen X ≤ 5000 ∧ dlen Y ≤ dlen X ∧ Hid (X + Y = x + y) ∧ Hid (Op8 wc A1 (dlen X) X) ∧ Hid (Op8 wc A2 (dlen Y) Y) ∧ w2 = wc)
  case first =>
    by_cases hlt : dlen x < dlen y
    · have hd : decide (dlen x < dlen y) = true := decide_eq_true hlt
      go_wp2_with fail
      go_meet
      exact ⟨a2, a1, y, x, rfl, rfl, l2, by omega, Nat.add_comm y x, O2, O1, rfl⟩
    · have hd : decide (dlen x < dlen y) = false := decide_eq_false hlt
      go_wp2_with fail
      go_meet
      exact ⟨a1, a2, x, y, rfl, rfl, l1, by omega, rfl, O1, O2, rfl⟩
  case rest =>
    obtain ⟨A1, A2, X, Y, rfl, rfl, lX, hle, HXY, P1, P2, hww⟩ := hcut
    subst hww
    obtain ⟨L, hL⟩ : ∃ L, L = dlen X := ⟨_, rfl⟩
    obtain ⟨M, hM⟩ : ∃ M, M = dlen Y := ⟨_, rfl⟩
    have hX := dlen_lt X
    have hY := dlen_lt Y
    rw [← hL] at lX hle P1 hX ⊢
    rw [← hM] at hle P2 hY ⊢
    have hY2 : Y < 256 ^ L := Nat.lt_of_lt_of_le hY (Nat.pow_le_pow_right (by decide) hle)
    obtain ⟨ce1, ce2⟩ := cr_end hX hY2
    have HCE1 := hide ce1
    have HTR := hide (fun b W (hW : Op8 W (some ⟨b, 0, none⟩) (L + 1) (X + Y)) => trim_any (some ⟨b, 0, none⟩) (L + 1) (L + 1) (X + Y) W (by omega) (by omega) ce2 hW)
    have HCE2 := hide ce2
    have HYA : Hid (∀ j, M ≤ j → dgt Y j = 0) := fun j hj => dgt_above (by omega)
    clear hL hM hX hY hY2 ce1 ce2 T1 T2 O1 O2
    have hmk := make_run (P := Takg.prog) 83 5 (.int .u8 0) 1 (L + 1) rfl Takg.underlying83 info5 (by omega) (by omega)
    rw [show ((L + 1 : Nat) : Int) = (L : Int) + 1 by omega] at hmk
    go_upto_region 5 with fail
    clear hmk
    obtain ⟨g, hg⟩ : ∃ g, g = w2.heap.size := ⟨_, rfl⟩
    have hbn := Blk.newRep w2 (L + 1) (Value.int .u8 0) 5
    have hch := (Chg.refl [] w2).alloc (.cells (Array.replicate (L + 1) (Value.int .u8 0)) 5)
    rw [← hg] at hbn ⊢
    have gg : w2.heap.size ≤ g := by omega
    clear hg
    generalize w2.alloc (.cells (Array.replicate (L + 1) (Value.int .u8 0)) 5) = w3 at *
    have e0 : List.replicate (L + 1) (Value.int .u8 0) = R8 (L + 1) (fun m => if m < 0 then dgt (X + Y) m else 0) := by
      rw [R8_rep]; exact R8_congr fun j _ => by rw [if_neg (by omega)]
    rw [e0] at hbn
    clear e0
    go_wp2_with fail
    go_loopw [6, 7] (fun u v wr => ∃ i c : Nat, u = .int .u16 c ∧ v = .int .i64 i ∧ i ≤ L ∧ c ≤ 1 ∧ Hid (c = cr X Y i) ∧ Blk wr g 5 (R8 (L + 1) fun m => if m < i then dgt (X + Y) m else 0) ∧ Chg [] w2 wr) (fun _ v _ => L - (intOf v).toNat)
    case atStart => exact ⟨0, 0, rfl, rfl, by omega, by omega, by unfold Hid; rw [cr_zero], hbn, hch⟩
    case round =>
      clear hbn hch
      obtain ⟨i, c, rfl, rfl, hi, hc1, HC, kb, cw⟩ := hrel
      have o1 := P1.out.chg cw
      have o2 := P2.out.chg cw
      by_cases hil : i < L
      · obtain ⟨b1, f1, rfl, r1⟩ : ∃ b off, A1 = some ⟨b, off, none⟩ ∧ Row8 wr b off L X := by
          rcases o1 with h | h
          · omega
          · exact h
        have k1 := r1.cell i hil
        have z1 := dgt_lt X i
        have z2 := dgt_lt Y i
        obtain ⟨st1, st2⟩ := cr_step X Y i
        rw [← HC.out] at st1 st2
        have kc := R8_cell kb i (by omega)
        rw [if_neg (by omega)] at kc
        have fz := kb.frozen i none
        have V0 := R8_setB kb i (dgt (X + Y) i)
        have e1 : R8 (L + 1) (fun m => if m = i then dgt (X + Y) i else if m < i then dgt (X + Y) m else 0) = R8 (L + 1) (fun m => if m < i + 1 then dgt (X + Y) m else 0) := R8_congr fun m _ => by
          by_cases e : m = i
          · subst e; rw [if_pos rfl, if_pos (by omega)]
          · rw [if_neg e]
            by_cases e2 : m < i
            · rw [if_pos e2, if_pos (by omega)]
            · rw [if_neg e2, if_neg (by omega)]
        rw [e1] at V0
        obtain ⟨d1, hd1⟩ : ∃ d, d = dgt X i := ⟨_, rfl⟩
        obtain ⟨d2, hd2⟩ : ∃ d, d = dgt Y i := ⟨_, rfl⟩
        obtain ⟨ds, hds⟩ : ∃ d, d = dgt (X + Y) i := ⟨_, rfl⟩
        rw [← hd1] at k1 z1 st1 st2
        rw [← hd2] at z2 st1 st2
        rw [← hds] at st2 V0
        have V4 := cw.setNew ⟨g, i, none⟩ gg (.int .u8 (ds : Nat))
        have HC2 : Hid ((d1 + c + d2) / 256 = cr X Y (i + 1)) := st1.symm
        have hsu : IntKind.u8.wrap ((d1 : Int) + (c : Int) + (d2 : Int)) = (ds : Int) := by rw [IntKind.wrap_u8, st2]; omega
        have hd20 : M ≤ i → d2 = 0 := fun h => by rw [hd2]; exact HYA.out i h
        have HD20 := hide hd20
        by_cases him : i < M
        · obtain ⟨b2, f2, rfl, r2⟩ : ∃ b off, A2 = some ⟨b, off, none⟩ ∧ Row8 wr b off M Y := by
            rcases o2 with h | h
            · omega
            · exact h
          have k2 := r2.cell i him
          rw [← hd2] at k2
          clear hd1 hd2 hds st1 st2 hd20 e1 o1 r1 r2 kb HYA
          go_wp2_with fail
          go_roundw
          case rel => exact ⟨i + 1, (d1 + c + d2) / 256, by go_num, by go_num, by omega, by omega, HC2, V0, V4⟩
          case measure => simp [intOf]; omega
        · have hd0 := HD20.out (by omega)
          subst hd0
          have hsu2 : IntKind.u8.wrap ((d1 : Int) + (c : Int)) = (ds : Int) := by rw [← hsu]; simp
          clear hd1 hd2 hds st1 st2 hd20 e1 o1 o2 r1 kb HYA hsu
          go_wp2_with fail
          go_roundw
          case rel => exact ⟨i + 1, (d1 + c) / 256, by go_num, by go_num, by omega, by omega, by simpa using HC2, V0, V4⟩
          case measure => simp [intOf]; omega
      · have hie : i = L := by omega
        subst hie
        have hce := HCE1.out
        rw [← HC.out] at hce
        have kc := R8_cell kb i (by omega)
        rw [if_neg (by omega)] at kc
        have fz := kb.frozen i none
        have V0 := R8_setB kb i c
        have V4 := cw.setNew ⟨g, i, none⟩ gg (.int .u8 (c : Nat))
        have hrow : Row8 _ g 0 (i + 1) (X + Y) := R8_row V0 fun j hj => by
          by_cases e : j = i
          · subst e; rw [if_pos rfl]; exact hce
          · rw [if_neg e, if_pos (by omega)]
        have hcu : IntKind.u8.wrap (c : Int) = (c : Int) := by rw [IntKind.wrap_u8]; omega
        clear hce kb o1 o2
        go_wp2_with fail
        refine (HTR.out g _ (.inr ⟨g, 0, rfl, hrow⟩)).mono ?_
        rintro e w4 ⟨rfl, rfl⟩
        go_wp2_with fail
        go_ret
        rw [← HXY.out]
        exact ⟨_, rfl, New.row gg hrow HCE2.out V0, V4⟩
end Na
end Go.Proofs.Ygctak
