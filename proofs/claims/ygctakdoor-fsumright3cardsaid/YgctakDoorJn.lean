/-
  Walks: fbits.zeros, join, Join64.
-/
import Derived.Test.YgctakDoorBt
import Derived.Test.YgctakDoorFb
import Derived.Laws.BitsAllLaws
namespace Go.Proofs.YgctakDoor
open Go.RowKit
set_option linter.unusedVariables false
set_option linter.unusedSimpArgs false
attribute [local go_sem ↓] Go.wp_at_zero Go.wp_at_succ
namespace Jn
open Ac Rn Fl Bt Fb

theorem zeros_any (x k m : Nat) (w : World) (hx : x = 2 ^ k * (2 * m + 1)) (h : x < 2 ^ 64) (ht : Tab w) :
    Calls Takg.prog 47 #[.int .u64 x] w fun e w' => e = .returned (.int .i64 (k : Int)) ∧ w' = w := by
  have HL := hide (tz_any x k m w hx h ht)
  clear hx ht
  go_enter Takg.func47, Takg.ntmps47
  go_wp2_with fail
  refine HL.out.mono ?_
  rintro e w' ⟨rfl, rfl⟩
  go_wp2_with fail
  go_ret
  exact ⟨rfl, rfl⟩

theorem log2_odd (z o : Nat) (ho : o ≠ 0) : (2 ^ z * o).log2 = o.log2 + z := by rw [Nat.mul_comm]; exact log2_mul_pow o z ho

theorem clear_top (G : Nat) (h1 : 2 ^ 52 ≤ G) (h2 : G < 2 ^ 53) : bits .andNot .u64 (G : Int) 4503599627370496 = ((G - 2 ^ 52 : Nat) : Int) := by
  have h := u64_andNot_nat G 4503599627370496 (by omega) (by omega)
  have e : G &&& (18446744073709551615 - 4503599627370496) = G - 2 ^ 52 := by
    obtain ⟨r, rfl⟩ : ∃ r, G = 2 ^ 52 + r := ⟨G - 2 ^ 52, by omega⟩
    have hr : r < 2 ^ 52 := by omega
    rw [show 2 ^ 52 + r - 2 ^ 52 = r by omega, show 18446744073709551615 - 4503599627370496 = 2 ^ 64 - (2 ^ 52 + 1) by decide]
    apply Nat.eq_of_testBit_eq
    intro i
    rw [Nat.testBit_and, Nat.testBit_two_pow_sub_succ (by decide), Nat.testBit_two_pow]
    rcases Nat.lt_trichotomy i 52 with h3 | h3 | h3
    · rw [Nat.testBit_two_pow_add_gt h3, decide_eq_true (show i < 64 by omega), decide_eq_false (show ¬ 52 = i by omega)]
      simp
    · subst h3
      rw [Nat.testBit_lt_two_pow hr]; simp
    · have h4 : 2 ^ 53 ≤ 2 ^ i := Nat.pow_le_pow_right (by omega) (by omega)
      rw [Nat.testBit_lt_two_pow (show 2 ^ 52 + r < 2 ^ i by omega), Nat.testBit_lt_two_pow (show r < 2 ^ i by omega)]
      rfl
  rw [e] at h
  exact h

theorem or_field (f r : Nat) (hf : f ≤ 2046) (hr : r < 2 ^ 52) : bits .or .u64 ((f * 4503599627370496 : Nat) : Int) (r : Int) = ((f * 4503599627370496 + r : Nat) : Int) := by
  rw [bits_or_u64_nat _ _ (by omega) (by omega)]
  congr 1
  have := Nat.two_pow_add_eq_or_of_lt (i := 52) hr f
  rw [Nat.mul_comm f 4503599627370496]
  exact this.symm

/-- fbits.join, of what Round hands it. -/
theorem join_any (man L : Nat) (exp : Int) (w : World) (h0 : man ≠ 0) (h53 : man ≤ 2 ^ 53) (he : exp = (L : Int) - 1074) (hL : L + man.log2 + 1 ≤ 2098) (ht : Tab w) :
    Calls Takg.prog 38 #[.int .u64 man, .int .i64 exp, .int .i64 53, .int .i64 (-1074), .int .i64 1024] w fun e w' => ∃ R : Nat, e = .returned (.tuple #[.int .u64 (R : Int), .bool true]) ∧ R < 2047 * 2 ^ 52 ∧ valR R = man * 2 ^ L ∧ Chg [] w w' := by
  obtain ⟨z, m, hx⟩ := odd_part man h0
  obtain ⟨o, ho⟩ : ∃ o, o = 2 * m + 1 := ⟨_, rfl⟩
  have HZ := hide (zeros_any man z m w hx (by omega) ht)
  have HLn := hide (lengthF_any man w (by omega) h0)
  obtain ⟨l, hl⟩ : ∃ l, l = man.log2 + 1 := ⟨_, rfl⟩
  rw [← hl] at HLn
  rw [← ho] at hx
  have hlo : man.log2 = o.log2 + z := by rw [hx]; exact log2_odd z o (by omega)
  have hlow : 2 ^ o.log2 ≤ o := Nat.log2_self_le (by omega)
  have hhigh : o < 2 ^ (o.log2 + 1) := Nat.lt_log2_self
  obtain ⟨W, hW⟩ : ∃ W, W = o.log2 + 1 := ⟨_, rfl⟩
  have hlw : l = W + z := by omega
  have hmanlt : man < 2 ^ l := by rw [hl]; exact Nat.lt_log2_self
  have hmange : 2 ^ (l - 1) ≤ man := by rw [hl]; exact Nat.log2_self_le h0
  have hl54 : l ≤ 54 := by
    rcases Nat.lt_or_ge 54 l with h | h
    · have := Nat.pow_le_pow_right (n := 2) (by omega) (show 54 ≤ l - 1 by omega)
      omega
    · exact h
  have hW53 : W ≤ 53 := by
    rcases Nat.lt_or_ge 53 l with h | h
    · have hl2 : l = 54 := by omega
      rw [hl2] at hmange
      have hm53 : man = 2 ^ 53 := Nat.le_antisymm h53 hmange
      -- an odd number times a power of two
      rcases Nat.eq_zero_or_pos z with hz | hz
      · subst hz; omega
      · omega
    · omega
  have hdiv : (man : Int) / 2 ^ z = (o : Int) := by
    rw [hx, ← Fl.ipow, ← Int.natCast_ediv, Nat.mul_div_cancel_left _ (Nat.two_pow_pos z)]
  have hman0 : ((man : Int) == 0) = false := by rw [beq_eq_false_iff_ne]; omega
  have hman1 : (man : Int) ≤ 18446744073709551615 := by omega
  have ho0 : 1 ≤ o := by omega
  have ho1 : o < 2 ^ 53 := by
    rw [← hW] at hhigh
    exact Nat.lt_of_lt_of_le hhigh (Nat.pow_le_pow_right (by omega) hW53)
  obtain ⟨lw, hlwv⟩ : ∃ i : Int, i = exp + z := ⟨_, rfl⟩
  obtain ⟨fld, hfld⟩ : ∃ i : Int, i = (L : Int) + l - 52 := ⟨_, rfl⟩
  -- what comes of it
  have hsmall : fld ≤ 0 → ∃ s : Nat, lw + 1074 = s ∧ o * 2 ^ s = man * 2 ^ L ∧ man * 2 ^ L < 2 ^ 52 := by
    intro hf
    refine ⟨L + z, by omega, ?_, ?_⟩
    · rw [hx, Nat.pow_add, Nat.mul_comm (2 ^ L), ← Nat.mul_assoc, Nat.mul_comm o]
    · have h1 : man * 2 ^ L < 2 ^ l * 2 ^ L := Nat.mul_lt_mul_of_pos_right hmanlt (Nat.two_pow_pos L)
      rw [← Nat.pow_add] at h1
      exact Nat.lt_of_lt_of_le h1 (Nat.pow_le_pow_right (by omega) (by omega))
  have hbig : 0 < fld → ∃ f G : Nat, fld = (f : Int) + 1 ∧ f + 1 ≤ 2046 ∧ G = o * 2 ^ (53 - W) ∧ 2 ^ 52 ≤ G ∧ G < 2 ^ 53 ∧ valR (f * 2 ^ 52 + G) = man * 2 ^ L := by
    intro hf
    obtain ⟨f, hff⟩ : ∃ f : Nat, fld = (f : Int) + 1 := ⟨(fld - 1).toNat, by omega⟩
    refine ⟨f, o * 2 ^ (53 - W), hff, by omega, rfl, ?_, ?_, ?_⟩
    · have := Nat.mul_le_mul_right (2 ^ (53 - W)) hlow
      rw [← Nat.pow_add, show o.log2 + (53 - W) = 52 by omega] at this
      exact this
    · have := Nat.mul_lt_mul_of_pos_right hhigh (Nat.two_pow_pos (53 - W))
      rw [← Nat.pow_add, show o.log2 + 1 + (53 - W) = 53 by omega] at this
      exact this
    · rw [valR_kept f _ ?_ (.inr ?_)]
      · rw [Nat.mul_assoc, ← Nat.pow_add, hx, Nat.mul_comm (2 ^ z), Nat.mul_assoc, ← Nat.pow_add]
        congr 2
        omega
      · have := Nat.mul_lt_mul_of_pos_right hhigh (Nat.two_pow_pos (53 - W))
        rw [← Nat.pow_add, show o.log2 + 1 + (53 - W) = 53 by omega] at this
        omega
      · have := Nat.mul_le_mul_right (2 ^ (53 - W)) hlow
        rw [← Nat.pow_add, show o.log2 + (53 - W) = 52 by omega] at this
        exact this
  have b1 : -1074 ≤ lw := by omega
  have b2 : lw + W ≤ 1024 := by omega
  have b3 : lw + W - 53 + 1074 + 1 = fld := by omega
  have b4 : (l : Int) - z = W := by omega
  have HSM := hide hsmall
  have HBG := hide hbig
  have HB4 := hide b4
  have HLW := hide hlwv
  have HB3 := hide b3
  have HDV := hide hdiv
  have bl1 : (l : Int) ≤ 54 := by omega
  have bz1 : (z : Int) ≤ 54 := by omega
  have be1 : exp ≤ 1024 := by omega
  have be0 : -1074 ≤ exp := by omega
  have hz64 : z < 64 := by omega
  clear hsmall hbig hlow hhigh hlo hl hW hlw hmanlt hmange hl54 hdiv hlwv hfld hx ho b3 b4 hL he h53 h0
  go_enter Takg.func38, Takg.ntmps38
  go_upto_region 3 with fail
  go_cut [12] (fun x wc => x = .int .i64 z ∧ w = wc)
  case first =>
    go_wp2_with fail
    refine HZ.out.mono ?_
    rintro e w' ⟨rfl, rfl⟩
    go_wp2_with fail
    go_meet
    exact ⟨rfl, rfl⟩
  case rest =>
    obtain ⟨rfl, rfl⟩ := hcut
    clear HZ
    go_upto_region 4 with fail
    go_cut [13] (fun x wc => x = .int .i64 W ∧ w = wc)
    case first =>
      go_wp2_with fail
      refine HLn.out.mono ?_
      rintro e w' ⟨rfl, rfl⟩
      go_wp2_with fail
      go_meet
      exact ⟨by rw [HB4.out], rfl⟩
    case rest =>
      obtain ⟨rfl, rfl⟩ := hcut
      clear HLn HB4
      go_upto_region 5 with fail
      go_cut [14] (fun x wc => x = .int .i64 lw ∧ w = wc)
      case first =>
        go_wp2_with fail
        go_meet
        exact ⟨by rw [HLW.out], rfl⟩
      case rest =>
        obtain ⟨rfl, rfl⟩ := hcut
        clear HLW be0 be1
        go_upto_region 8 with fail
        go_cut [15] (fun x wc => x = .int .u64 o ∧ w = wc)
        case first =>
          go_wp2_with fail
          go_meet
          exact ⟨by rw [HDV.out], rfl⟩
        case rest =>
          obtain ⟨rfl, rfl⟩ := hcut
          clear HDV
          go_upto_region 9 with fail
          go_cut [16] (fun x wc => x = .int .i64 fld ∧ w = wc)
          case first =>
            go_wp2_with fail
            go_meet
            exact ⟨by congr 1 <;> (have := HB3.out; omega), rfl⟩
          case rest =>
            obtain ⟨rfl, rfl⟩ := hcut
            have bf : fld ≤ 10000 := by have := HB3.out; omega
            by_cases hf : fld ≤ 0
            · obtain ⟨s, h1, h2, h3⟩ := HSM.out hf
              obtain rfl : lw = (s : Int) - 1074 := by omega
              have hs64 : s < 64 := by
                rcases Nat.lt_or_ge s 64 with h | h
                · exact h
                · have h8 := Nat.pow_le_pow_right (n := 2) (by omega) h
                  have h9 : 1 * 2 ^ s ≤ o * 2 ^ s := Nat.mul_le_mul_right _ ho0
                  omega
              have e1 : IntKind.u64.wrap ((o : Int) * 2 ^ s) = ((o * 2 ^ s : Nat) : Int) := by
                rw [IntKind.wrap_u64, Int.natCast_mul, Fl.ipow]
                rw [← Fl.ipow, ← Int.natCast_mul, h2]
                omega
              have H2 := hide h2
              have H3 := hide h3
              clear h1 h2 h3 HSM HBG HB3
              go_wp2_with fail
              go_ret2
              refine ⟨o * 2 ^ s, by rw [Int.natCast_mul, Fl.ipow]; rfl, ?_, ?_, Chg.refl _ _⟩
              · rw [H2.out]; have := H3.out; omega
              · rw [H2.out]; unfold valR; rw [if_pos H3.out]
            · obtain ⟨f, G, h1, h2, h3, h4, h5, h6⟩ := HBG.out (by omega)
              subst h1
              have e1 : IntKind.u64.wrap ((o : Int) * 2 ^ (53 - W)) = (G : Int) := by
                rw [IntKind.wrap_u64, ← Fl.ipow, ← Int.natCast_mul, ← h3]
                omega
              have e2 := clear_top G h4 h5
              obtain ⟨r, hr⟩ : ∃ r, r = G - 2 ^ 52 := ⟨_, rfl⟩
              rw [← hr] at e2
              have e3 : IntKind.u64.wrap (((f : Int) + 1) * 4503599627370496) = (((f + 1) * 4503599627370496 : Nat) : Int) := by rw [IntKind.wrap_u64]; omega
              have e4 := or_field (f + 1) r (by omega) (by omega)
              have H6 := hide h6
              have HR := hide hr
              have H4 := hide h4
              have hr2 : r < 2 ^ 52 := by omega
              clear h3 h4 h5 h6 hr HSM HBG HB3
              go_upto_region 12 with fail
              go_cut [17] (fun x wc => x = .int .u64 r ∧ Chg [] w wc)
              case first =>
                go_wp2_with fail
                go_region
                all_goals
                  go_wp2_with fail
                  go_meet
                  exact ⟨rfl, (Chg.refl _ _).drew⟩
              case rest =>
                obtain ⟨rfl, hc⟩ := hcut
                clear e1 e2
                go_wp2_with fail
                go_ret2
                refine ⟨(f + 1) * 4503599627370496 + r, ?_, ?_, ?_, hc⟩
                · rw [← e4]; simp
                · omega
                · have h7 := HR.out
                  have h8 := H4.out
                  rw [show (f + 1) * 4503599627370496 + r = f * 2 ^ 52 + G by omega]
                  exact H6.out

theorem or_sign (R : Nat) (hR : R < 2 ^ 63) : bits .or .u64 (R : Int) 9223372036854775808 = ((2 ^ 63 + R : Nat) : Int) := by
  have h := bits_or_u64_nat R 9223372036854775808 (by omega) (by omega)
  have e : R ||| 9223372036854775808 = 2 ^ 63 + R := by
    rw [Nat.or_comm]
    exact (Nat.two_pow_add_eq_or_of_lt (i := 63) hR 1).symm
  rw [e] at h
  exact h

/-- fbits.Join64, of what Round hands it. -/
theorem Join64_any (neg : Bool) (man L : Nat) (exp : Int) (w : World) (h0 : man ≠ 0) (h53 : man ≤ 2 ^ 53) (he : exp = (L : Int) - 1074) (hL : L + man.log2 + 1 ≤ 2098) (ht : Tab w) :
    Calls Takg.prog 23 #[.bool neg, .int .u64 man, .int .i16 exp] w fun e w' => ∃ r : Nat, e = .returned (.tuple #[.float .f64 r, .bool true]) ∧ Finite r ∧ r < 2 ^ 64 ∧ V r = sg neg ((man * 2 ^ L : Nat) : Int) ∧ Chg [] w w' := by
  have HJ := hide (join_any man L exp w h0 h53 he hL ht)
  have HF := hide from64_any
  have he0 : -1074 ≤ exp := by omega
  have he1 : exp ≤ 2000 := by omega
  have hman1 : (man : Int) ≤ 18446744073709551615 := by omega
  clear h0 h53 he hL ht
  go_enter Takg.func23, Takg.ntmps23
  go_wp2_with fail
  refine HJ.out.mono ?_
  rintro e w' ⟨R, rfl, hR, hv, hc⟩
  obtain ⟨f1, f2⟩ := V_word neg R hR
  rw [hv] at f2
  have hw : Ieee.double.word neg R < 2 ^ 64 := by simp only [Ieee.Format.word, sgnW]; split <;> omega
  have HV := hide f2
  have HR := hide hR
  have hR1 : (R : Int) ≤ 18446744073709551615 := by omega
  clear hv f2 HJ
  cases neg
  · have e : Ieee.double.word false R = R := rfl
    rw [e] at f1 hw HV
    clear e hR
    go_wp2_with fail
    refine (HF.out _ _).mono ?_
    rintro e w2 ⟨rfl, rfl⟩
    go_wp2_with fail
    go_ret2
    exact ⟨R, rfl, f1, hw, HV.out, hc⟩
  · have e : Ieee.double.word true R = 2 ^ 63 + R := rfl
    rw [e] at f1 hw HV
    have e2 := or_sign R (by omega)
    obtain ⟨S, hS⟩ : ∃ S, S = 2 ^ 63 + R := ⟨_, rfl⟩
    rw [← hS] at f1 hw HV e2
    clear e hR hS
    go_wp2_with fail
    refine (HF.out _ _).mono ?_
    rintro e w2 ⟨rfl, rfl⟩
    go_wp2_with fail
    go_ret2
    exact ⟨S, rfl, f1, hw, HV.out, hc⟩
end Jn
end Go.Proofs.YgctakDoor
