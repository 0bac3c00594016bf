/-
  mschool.MulSchool.
-/
import Derived.Test.YgctakNa6
namespace Go.Proofs.Ygctak
open Go.RowKit
set_option linter.unusedVariables false
set_option linter.unusedSimpArgs false
attribute [local go_sem ↓] Go.wp_at_zero Go.wp_at_succ
namespace Na

/-- What is carried within a row. -/
def mc (U a y i j : Nat) : Nat := (U % 256 ^ (i + j) + a * 256 ^ i * (y % 256 ^ j)) / 256 ^ (i + j)
theorem mc_zero (U a y i : Nat) : mc U a y i 0 = 0 := by
  unfold mc
  rw [Nat.pow_zero, Nat.mod_one, Nat.mul_zero, Nat.add_zero, Nat.add_zero]
  exact Nat.div_eq_of_lt (Nat.mod_lt _ (pos256 i))
theorem mc_step (U a y i j : Nat) : mc U a y i (j + 1) = (a * dgt y j + dgt U (i + j) + mc U a y i j) / 256 ∧ dgt (U + a * 256 ^ i * y) (i + j) = (a * dgt y j + dgt U (i + j) + mc U a y i j) % 256 := by
  have hp := pos256 (i + j)
  have eP : 256 ^ (i + j) = 256 ^ i * 256 ^ j := Nat.pow_add _ _ _
  constructor
  · unfold mc dgt
    rw [← Nat.add_assoc, Nat.pow_succ, Nat.mod_mul, Nat.pow_succ, Nat.mod_mul, ← Nat.div_div_eq_div_mul]
    congr 1
    have e : U % 256 ^ (i + j) + 256 ^ (i + j) * (U / 256 ^ (i + j) % 256) + a * 256 ^ i * (y % 256 ^ j + 256 ^ j * (y / 256 ^ j % 256)) =
        U % 256 ^ (i + j) + a * 256 ^ i * (y % 256 ^ j) + 256 ^ (i + j) * (a * (y / 256 ^ j % 256) + U / 256 ^ (i + j) % 256) := by
      generalize y / 256 ^ j % 256 = dy
      generalize U / 256 ^ (i + j) % 256 = dU
      generalize y % 256 ^ j = yr
      generalize U % 256 ^ (i + j) = ur
      rw [eP]
      grind
    rw [e, Nat.add_mul_div_left _ _ hp]
    omega
  · unfold mc dgt
    have h1 := Nat.div_add_mod U (256 ^ (i + j))
    have h2 := Nat.div_add_mod y (256 ^ j)
    have e : U + a * 256 ^ i * y = U % 256 ^ (i + j) + a * 256 ^ i * (y % 256 ^ j) + 256 ^ (i + j) * (a * (y / 256 ^ j) + U / 256 ^ (i + j)) := by
      conv => lhs; rw [← h1, ← h2]
      generalize y / 256 ^ j = qy
      generalize U / 256 ^ (i + j) = qU
      generalize y % 256 ^ j = yr
      generalize U % 256 ^ (i + j) = ur
      rw [eP]
      grind
    rw [e, Nat.add_mul_div_left _ _ hp]
    generalize (U % 256 ^ (i + j) + a * 256 ^ i * (y % 256 ^ j)) / 256 ^ (i + j) = c
    generalize y / 256 ^ j = qy
    generalize U / 256 ^ (i + j) = qU
    have e2 : a * qy = a * (qy % 256) + 256 * (a * (qy / 256)) := by
      have := Nat.div_add_mod qy 256
      conv => lhs; rw [← this]
      grind
    omega
theorem mc_le (U a y i j : Nat) : mc U a y i j ≤ a := by
  unfold mc
  have h1 := Nat.mod_lt U (pos256 (i + j))
  have h2 := Nat.mod_lt y (pos256 j)
  have h3 : a * 256 ^ i * (y % 256 ^ j) ≤ a * 256 ^ i * (256 ^ j) := Nat.mul_le_mul_left _ (by omega)
  have e : a * 256 ^ i * 256 ^ j = a * 256 ^ (i + j) := by rw [Nat.mul_assoc, ← Nat.pow_add]
  rw [e] at h3
  have : (U % 256 ^ (i + j) + a * 256 ^ i * (y % 256 ^ j)) / 256 ^ (i + j) < a + 1 := Nat.div_lt_of_lt_mul (by rw [Nat.mul_add, Nat.mul_one, Nat.mul_comm (256 ^ (i + j)) a]; omega)
  omega
/-- The rows done. -/
def rowU (x y i : Nat) : Nat := x % 256 ^ i * y
theorem rowU_next (x y i : Nat) : rowU x y (i + 1) = rowU x y i + dgt x i * 256 ^ i * y := by
  unfold rowU dgt
  rw [Nat.pow_succ, Nat.mod_mul, Nat.add_mul]
  congr 1
  rw [Nat.mul_comm (256 ^ i)]
theorem rowU_lt (x y i M : Nat) (hy : y < 256 ^ M) : rowU x y i < 256 ^ (i + M) := by
  unfold rowU
  rw [Nat.pow_add]
  exact Nat.mul_lt_mul'' (Nat.mod_lt _ (pos256 i)) hy
theorem dgt_low (U a y i m : Nat) (h : m < i) : dgt (U + a * 256 ^ i * y) m = dgt U m := by
  unfold dgt
  have e : a * 256 ^ i * y = 256 ^ m * (256 * (a * 256 ^ (i - m - 1) * y)) := by
    have : 256 ^ i = 256 ^ m * (256 * 256 ^ (i - m - 1)) := by rw [← Nat.pow_succ', ← Nat.pow_add]; congr 1; omega
    rw [this]
    grind
  rw [e, Nat.add_mul_div_left _ _ (pos256 m), Nat.add_mul_mod_self_left]
theorem row_end (x y i M : Nat) (hy : y < 256 ^ M) : mc (rowU x y i) (dgt x i) y i M = dgt (rowU x y (i + 1)) (i + M) ∧ (∀ m, i + M < m → dgt (rowU x y (i + 1)) m = dgt (rowU x y i) m) := by
  have h1 := rowU_lt x y i M hy
  have h2 := rowU_lt x y (i + 1) M hy
  have e1 : mc (rowU x y i) (dgt x i) y i M = rowU x y (i + 1) / 256 ^ (i + M) := by
    unfold mc
    rw [Nat.mod_eq_of_lt h1, Nat.mod_eq_of_lt hy, rowU_next]
  have h3 := mc_le (rowU x y i) (dgt x i) y i M
  have h4 := dgt_lt x i
  constructor
  · rw [e1] at h3 ⊢
    unfold dgt
    rw [Nat.mod_eq_of_lt (by omega)]
  · intro m hm
    have z : ∀ v, v < 256 ^ m → dgt v m = 0 := fun v hv => dgt_above (dlen_le hv)
    rw [z _ (Nat.lt_of_lt_of_le h2 (Nat.pow_le_pow_right (by decide) (by omega))), z _ (Nat.lt_of_lt_of_le h1 (Nat.pow_le_pow_right (by decide) (by omega)))]

set_option maxHeartbeats 1000000 in
theorem MulSchool_any (a1 a2 : Option Addr) (x y : Nat) (w : World) (l1 : dlen x ≤ 5000) (l2 : dlen y ≤ 5000) (h1 : Ent w a1 x) (h2 : Ent w a2 y) :
    Calls Takg.prog 88 #[.slice a1 (dlen x) (dlen x), .slice a2 (dlen y) (dlen y)] w fun e w' => ∃ a', e = .returned (.slice a' (dlen (x * y)) (dlen (x * y))) ∧ New w w' a' (x * y) ∧ Chg [] w w' := by
  have t1 := strip_any a1 (dlen x) (dlen x) x w (by omega) (by omega) (dlen_lt x) h1.op
  have t2 := strip_any a2 (dlen y) (dlen y) y w (by omega) (by omega) (dlen_lt y) h2.op
  rw [h1.tr] at t1
  rw [h2.tr] at t2
  have T1 := hide t1
  have T2 := hide t2
  have P1 := hide h1.op
  have P2 := hide h2.op
  clear t1 t2 h1 h2
  obtain ⟨L, hL⟩ : ∃ L, L = dlen x := ⟨_, rfl⟩
  obtain ⟨M, hM⟩ : ∃ M, M = dlen y := ⟨_, rfl⟩
  have hX := dlen_lt x
  have hY := dlen_lt y
  rw [← hL] at l1 P1 T1 hX ⊢
  rw [← hM] at l2 P2 T2 hY ⊢
  have HZ : Hid (L = 0 ∨ M = 0 → x * y = 0) := fun h => by
    rcases h with h | h
    · have : x = 0 := by rw [h] at hX; simpa using hX
      rw [this, Nat.zero_mul]
    · have : y = 0 := by rw [h] at hY; simpa using hY
      rw [this, Nat.mul_zero]
  have HE : Hid (rowU x y L = x * y) := by unfold Hid rowU; rw [Nat.mod_eq_of_lt hX]
  have HRE := hide (fun i => row_end x y i M hY)
  have hlt := rowU_lt x y L M hY
  rw [HE.out] at hlt
  have HTR := hide (fun b W (hW : Op8 W (some ⟨b, 0, none⟩) (L + M) (x * y)) => strip_any (some ⟨b, 0, none⟩) (L + M) (L + M) (x * y) W (by omega) (by omega) hlt hW)
  have HLT := hide hlt
  clear hL hM hX hY hlt
  obtain ⟨z, hz⟩ : ∃ z, z = x * y := ⟨_, rfl⟩
  rw [← hz] at HZ HE HTR HLT ⊢
  clear hz
  by_cases hL0 : L = 0
  · have HZ0 := hide (HZ.out (.inl hL0))
    subst hL0
    go_enter Takg.func88, Takg.ntmps88
    go_wp2_with fail
    refine T1.out.mono ?_
    rintro e w1 ⟨rfl, rfl⟩
    go_wp2_with fail
    refine T2.out.mono ?_
    rintro e w2 ⟨rfl, rfl⟩
    go_wp2_with fail
    go_ret
    rw [HZ0.out]
    exact ⟨none, rfl, New.zero _ _, Chg.refl _ _⟩
  · have i1 : ((L : Int) == 0) = false := by rw [beq_eq_false_iff_ne]; omega
    by_cases hM0 : M = 0
    · have HZ0 := hide (HZ.out (.inr hM0))
      subst hM0
      go_enter Takg.func88, Takg.ntmps88
      go_wp2_with fail
      refine T1.out.mono ?_
      rintro e w1 ⟨rfl, rfl⟩
      go_wp2_with fail
      refine T2.out.mono ?_
      rintro e w2 ⟨rfl, rfl⟩
      go_wp2_with fail
      go_ret
      rw [HZ0.out]
      exact ⟨none, rfl, New.zero _ _, Chg.refl _ _⟩
    · have i2 : ((M : Int) == 0) = false := by rw [beq_eq_false_iff_ne]; omega
      have hmk := make_run (P := Takg.prog) 83 5 (.int .u8 0) 1 (L + M) rfl Takg.underlying83 info5 (by omega) (by omega)
      rw [show ((L + M : Nat) : Int) = (L : Int) + M by omega] at hmk
      clear HZ
      go_enter Takg.func88, Takg.ntmps88
      go_wp2_with fail
      refine T1.out.mono ?_
      rintro e w1 ⟨rfl, rfl⟩
      go_wp2_with fail
      refine T2.out.mono ?_
      rintro e w2 ⟨rfl, rfl⟩
      go_upto_region 5 with fail
      clear hmk i1 i2 T1 T2
      obtain ⟨g, hg⟩ : ∃ g, g = w2.heap.size := ⟨_, rfl⟩
      have hbn := Blk.newRep w2 (L + M) (Value.int .u8 0) 5
      have hch := (Chg.refl [] w2).alloc (.cells (Array.replicate (L + M) (Value.int .u8 0)) 5)
      rw [← hg] at hbn ⊢
      have gg : w2.heap.size ≤ g := by omega
      clear hg
      generalize w2.alloc (.cells (Array.replicate (L + M) (Value.int .u8 0)) 5) = w3 at *
      have e0 : List.replicate (L + M) (Value.int .u8 0) = R8 (L + M) (dgt (rowU x y 0)) := by
        rw [R8_rep]; exact R8_congr fun j _ => by unfold rowU dgt; simp [Nat.mod_one]
      rw [e0] at hbn
      clear e0
      go_wp2_with fail
      go_loopw [6] (fun v wr => ∃ i : Nat, v = .int .i64 i ∧ i ≤ L ∧ Blk wr g 5 (R8 (L + M) (dgt (rowU x y i))) ∧ Chg [] w2 wr) (fun v _ => L - (intOf v).toNat)
      case atStart => exact ⟨0, rfl, by omega, hbn, hch⟩
      case round =>
        clear hbn hch
        obtain ⟨i, rfl, hi, kb, cw⟩ := hrel
        by_cases hil : i < L
        · obtain ⟨b1, f1, ha1, r1⟩ : ∃ b off, a1 = some ⟨b, off, none⟩ ∧ Row8 w2 b off L x := by
            rcases P1.out with h | h
            · omega
            · exact h
          obtain ⟨b2, f2, ha2, r2⟩ : ∃ b off, a2 = some ⟨b, off, none⟩ ∧ Row8 w2 b off M y := by
            rcases P2.out with h | h
            · omega
            · exact h
          subst ha1 ha2
          have R1 := hide r1
          have R2 := hide r2
          clear r1 r2
          have z1 := dgt_lt x i
          obtain ⟨re1, re2⟩ := HRE.out i
          have hnx := rowU_next x y i
          obtain ⟨U, hU⟩ : ∃ U, U = rowU x y i := ⟨_, rfl⟩
          obtain ⟨U', hU'⟩ : ∃ U, U = rowU x y (i + 1) := ⟨_, rfl⟩
          obtain ⟨d, hd⟩ : ∃ d, d = dgt x i := ⟨_, rfl⟩
          rw [← hU] at kb re1 re2 hnx
          rw [← hU'] at re1 re2 hnx
          rw [← hd] at re1 hnx z1
          have HU' := hide hU'
          have HST : Hid (∀ j, mc U d y i (j + 1) = (d * dgt y j + dgt U (i + j) + mc U d y i j) / 256 ∧ dgt U' (i + j) = (d * dgt y j + dgt U (i + j) + mc U d y i j) % 256) := fun j => by
            rw [hnx]; exact mc_step U d y i j
          have HML : Hid (∀ j, mc U d y i j ≤ 255) := fun j => by have := mc_le U d y i j; omega
          have RE1 := hide re1
          have RE2 := hide re2
          have HKX : Hid (∀ W, Chg [] w2 W → W.cell? ⟨b1, f1 + i, none⟩ = some (.int .u8 (d : Nat))) := fun W hW => by
            have := (R1.out.chg hW (by simp)).cell i hil
            rw [← hd] at this; exact this
          have e0 : R8 (L + M) (dgt U) = R8 (L + M) (fun m => if m < i + 0 then dgt U' m else dgt U m) := R8_congr fun m _ => by
            by_cases e : m < i + 0
            · rw [if_pos e, hnx]; exact (dgt_low U d y i m (by omega)).symm
            · rw [if_neg e]
          rw [e0] at kb
          clear e0 hU hU' hd re1 re2 hnx
          go_wp2_with fail
          go_loopw [7, 8] (fun u v wr => ∃ j c : Nat, u = .int .u32 c ∧ v = .int .i64 j ∧ j ≤ M ∧ c ≤ 255 ∧ Hid (c = mc U d y i j) ∧ Blk wr g 5 (R8 (L + M) fun m => if m < i + j then dgt U' m else dgt U m) ∧ Chg [] w2 wr) (fun _ v _ => M - (intOf v).toNat)
          case atStart => exact ⟨0, 0, rfl, rfl, by omega, by omega, by unfold Hid; rw [mc_zero], kb, cw⟩
          case round =>
            clear kb cw
            obtain ⟨j, c, rfl, rfl, hj, hc1, HC, kb, cw⟩ := hrel
            by_cases hjl : j < M
            · have k1 := HKX.out _ cw
              have k2 := (R2.out.chg cw (by simp)).cell j hjl
              have kc := R8_cell kb (i + j) (by omega)
              rw [if_neg (by omega)] at kc
              have fz := kb.frozen (i + j) none
              obtain ⟨st1, st2⟩ := HST.out j
              rw [← HC.out] at st1 st2
              have hml := HML.out (j + 1)
              have z2 := dgt_lt y j
              have z3 := dgt_lt U (i + j)
              have V0 := R8_setB kb (i + j) (dgt U' (i + j))
              have e1 : R8 (L + M) (fun m => if m = i + j then dgt U' (i + j) else if m < i + j then dgt U' m else dgt U m) = R8 (L + M) (fun m => if m < i + (j + 1) then dgt U' m else dgt U m) := R8_congr fun m _ => by
                by_cases e : m = i + j
                · subst e; rw [if_pos rfl, if_pos (by omega)]
                · rw [if_neg e]
                  by_cases e2 : m < i + j
                  · rw [if_pos e2, if_pos (by omega)]
                  · rw [if_neg e2, if_neg (by omega)]
              rw [e1] at V0
              obtain ⟨d2, hd2⟩ : ∃ d, d = dgt y j := ⟨_, rfl⟩
              obtain ⟨d3, hd3⟩ : ∃ d, d = dgt U (i + j) := ⟨_, rfl⟩
              obtain ⟨d4, hd4⟩ : ∃ d, d = dgt U' (i + j) := ⟨_, rfl⟩
              obtain ⟨nb, hnb⟩ : ∃ q, q = mc U d y i (j + 1) := ⟨_, rfl⟩
              rw [← hd2] at st1 st2 z2 k2
              rw [← hd3] at st1 st2 z3 kc
              rw [← hd4] at st2 V0
              rw [← hnb] at st1 hml
              have HC2 := hide hnb
              have hm : d * d2 ≤ 255 * 255 := Nat.mul_le_mul (by omega) (by omega)
              obtain ⟨p, hp⟩ : ∃ p, p = d * d2 := ⟨_, rfl⟩
              rw [← hp] at st1 st2 hm
              have hpi : (d : Int) * (d2 : Int) = (p : Int) := by rw [hp, Int.natCast_mul]
              obtain ⟨t, ht⟩ : ∃ t, t = p + d3 + c := ⟨_, rfl⟩
              rw [← ht] at st1 st2
              have htb : t ≤ 65535 := by omega
              have q0 : (p : Int) + (d3 : Int) + (c : Int) = (t : Int) := by omega
              have q1 : IntKind.u8.wrap (t : Int) = (d4 : Int) := by rw [IntKind.wrap_u8]; omega
              have q2 : (t : Int) / 256 = (nb : Int) := by omega
              have V4 := cw.setNew ⟨g, i + j, none⟩ gg (.int .u8 (d4 : Nat))
              have qw0 : IntKind.u32.wrap ((d : Int) * (d2 : Int)) = (p : Int) := by rw [hpi, IntKind.wrap_u32]; omega
              have qw1 : IntKind.u32.wrap ((p : Int) + (d3 : Int)) = (p : Int) + (d3 : Int) := by rw [IntKind.wrap_u32]; omega
              have qw2 : IntKind.u32.wrap ((p : Int) + (d3 : Int) + (c : Int)) = (t : Int) := by rw [IntKind.wrap_u32]; omega
              have qi : IntKind.i64.wrap ((i : Int) + (j : Int)) = (i : Int) + (j : Int) := by rw [IntKind.wrap_i64]; omega
              clear hd2 hd3 hd4 hnb st1 st2 e1 hp ht
              go_upto_region 12 with fail
              go_cut [9] (fun v wc => v = .int .u32 t ∧ ∃ n, wc = wr.drewN n)
              case first =>
                clear kb V0 V4 fz
                go_quiet (fail)
                go_wp2_with fail
                go_meet
                exact ⟨rfl, _, rfl⟩
              case rest =>
                obtain ⟨rfl, nq, rfl⟩ := hcut
                have V0 := V0.drewN nq
                have V4 := V4.drewN nq
                have kc2 : (wr.drewN nq).cell? ⟨g, i + j, none⟩ = _ := kc
                have fz2 : (wr.drewN nq).frozen? ⟨g, i + j, none⟩ = false := fz
                have V0 : Blk ((wr.drewN nq).setCell ⟨g, i + j, none⟩ (.int .u8 (d4 : Nat))) g 5 _ := V0
                have V4 : Chg [] w2 ((wr.drewN nq).setCell ⟨g, i + j, none⟩ (.int .u8 (d4 : Nat))) := V4
                clear kb kc fz k1 k2 cw
                generalize wr.drewN nq = wq at *
                go_wp2_with fail
                go_roundw
                case rel => exact ⟨j + 1, nb, by go_num, by go_num, by omega, hml, HC2, V0, V4⟩
                case measure => simp [intOf]; omega
            · have hje : j = M := by omega
              subst hje
              have hcd : c = dgt U' (i + j) := by rw [HC.out, RE1.out]
              have kc := R8_cell kb (i + j) (by omega)
              rw [if_neg (by omega)] at kc
              have fz := kb.frozen (i + j) none
              have V0 := R8_setB kb (i + j) c
              have e1 : R8 (L + j) (fun m => if m = i + j then c else if m < i + j then dgt U' m else dgt U m) = R8 (L + j) (dgt (rowU x y (i + 1))) := R8_congr fun m _ => by
                rw [← HU'.out]
                by_cases e : m = i + j
                · subst e; rw [if_pos rfl]; exact hcd
                · rw [if_neg e]
                  by_cases e2 : m < i + j
                  · rw [if_pos e2]
                  · rw [if_neg e2]; exact (RE2.out m (by omega)).symm
              rw [e1] at V0
              have V4 := cw.setNew ⟨g, i + j, none⟩ gg (.int .u8 (c : Nat))
              have q1 : IntKind.u8.wrap (c : Int) = (c : Int) := by rw [IntKind.wrap_u8]; omega
              clear hcd e1 kb cw HC
              go_wp2_with fail
              go_roundw
              case rel => exact ⟨i + 1, by go_num, by omega, V0, V4⟩
              case measure => simp [intOf]; omega
        · have hie : i = L := by omega
          rw [hie, HE.out] at kb
          have hrow : Row8 wr g 0 (L + M) z := R8_row kb fun j hj => rfl
          have HKB := hide kb
          clear kb hie
          go_wp2_with fail
          refine (HTR.out g _ (.inr ⟨g, 0, rfl, hrow⟩)).mono ?_
          rintro e w5 ⟨rfl, rfl⟩
          go_wp2_with fail
          go_ret
          exact ⟨_, rfl, New.row gg hrow HLT.out HKB.out, cw⟩
end Na
end Go.Proofs.Ygctak
