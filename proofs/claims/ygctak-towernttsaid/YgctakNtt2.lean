/-
  Walks: reverse.
-/
import Derived.Test.YgctakNtt1
import Derived.RegionTactic
import Derived.BigRegion
import Derived.Deep.DeepCutAuto
import Derived.Deep.CutBlock
namespace Go.Proofs.Ygctak
open Go.RowKit
set_option linter.unusedVariables false
set_option linter.unusedSimpArgs false

theorem i64_wrap (n : Int) (h : -9223372036854775808 ≤ n ∧ n ≤ 9223372036854775807) : IntKind.i64.wrap n = n := by rw [IntKind.wrap_i64]; omega
theorem ofInt_64 (a : Nat) (ha : a < 9223372036854775808) : (BitVec.ofInt 64 (a : Int)).toNat = a := by
  rw [BitVec.ofInt_natCast, BitVec.toNat_ofNat]; exact Nat.mod_eq_of_lt (by omega)
theorem i64_and (a b : Nat) (ha : a < 9223372036854775808) (hb : b < 9223372036854775808) : bits .and .i64 (a : Int) (b : Int) = ((a &&& b : Nat) : Int) := by
  have hx : a &&& b < 2 ^ 63 := Nat.and_lt_two_pow _ (by omega)
  show IntKind.i64.wrap ((BitVec.ofInt 64 (a : Int) &&& BitVec.ofInt 64 (b : Int)).toNat : Int) = _
  rw [BitVec.toNat_and, ofInt_64 a ha, ofInt_64 b hb, i64_wrap _ (by omega)]
theorem i64_or (a b : Nat) (ha : a < 9223372036854775808) (hb : b < 9223372036854775808) : bits .or .i64 (a : Int) (b : Int) = ((a ||| b : Nat) : Int) := by
  have hx : a ||| b < 2 ^ 63 := Nat.or_lt_two_pow (by omega) (by omega)
  show IntKind.i64.wrap ((BitVec.ofInt 64 (a : Int) ||| BitVec.ofInt 64 (b : Int)).toNat : Int) = _
  rw [BitVec.toNat_or, ofInt_64 a ha, ofInt_64 b hb, i64_wrap _ (by omega)]
theorem i64_xor (a b : Nat) (ha : a < 9223372036854775808) (hb : b < 9223372036854775808) : bits .xor .i64 (a : Int) (b : Int) = ((a ^^^ b : Nat) : Int) := by
  have hx : a ^^^ b < 2 ^ 63 := Nat.xor_lt_two_pow (by omega) (by omega)
  show IntKind.i64.wrap ((BitVec.ofInt 64 (a : Int) ^^^ BitVec.ofInt 64 (b : Int)).toNat : Int) = _
  rw [BitVec.toNat_xor, ofInt_64 a ha, ofInt_64 b hb, i64_wrap _ (by omega)]

namespace Ntt

theorem revIn_lt (k : Nat) : ∀ (f j b : Nat), j < 2 ^ k → b < 2 ^ k → (revIn f j b).1 < 2 ^ k ∧ (revIn f j b).2 < 2 ^ k := by
  intro f
  induction f with
  | zero => intro j b hj hb; exact ⟨hj, hb⟩
  | succ f ih =>
    intro j b hj hb
    unfold revIn
    split
    · exact ih _ _ (Nat.xor_lt_two_pow hj hb) (Nat.lt_of_le_of_lt (Nat.div_le_self _ _) hb)
    · exact ⟨hj, hb⟩

theorem revNext_lt (k j : Nat) (hj : j < 2 ^ k) : revNext (2 ^ k) j < 2 ^ k := by
  have hb : 2 ^ k / 2 < 2 ^ k := Nat.div_lt_self (Nat.two_pow_pos k) (by omega)
  have h := revIn_lt k 64 j _ hj hb
  exact Nat.or_lt_two_pow h.1 h.2

theorem revIn_stop (f j b : Nat) (h : ¬ (0 < b ∧ j &&& b ≠ 0)) : revIn f j b = (j, b) := by
  cases f <;> simp [revIn, h]

set_option maxHeartbeats 1000000 in
theorem reverse_any (b k : Nat) (xs : List Int) (w : World) (hk : k ≤ 11) (hn : xs.length = 2 ^ k) (hb : Blk w b 25 (E xs)) :
    Calls Takg.prog 117 #[.slice (some ⟨b, 0, none⟩) xs.length xs.length] w fun e w' => e = .returned (.tuple #[]) ∧ Blk w' b 25 (E (rev xs)) ∧ Chg [b] w w' := by
  obtain ⟨n, hnn⟩ : ∃ n, n = xs.length := ⟨_, rfl⟩
  rw [← hnn]
  have hn2 : n ≤ 2048 := by rw [hnn, hn]; exact Nat.pow_le_pow_right (n := 2) (by omega) hk
  have HN : Hid (n = 2 ^ k) := hnn.trans hn
  have HR : Hid (rev xs = revGo n n 0 0 xs) := by unfold Hid; rw [hnn]; rfl
  have HL : Hid (xs.length = n) := hnn.symm
  clear hnn hn
  go_enter Takg.func117, Takg.ntmps117
  go_wp2_with fail
  go_loopw [2, 3] (fun j i wr => ∃ (jj m : Nat) (ys : List Int), j = .int .i64 jj ∧ i = .int .i64 m ∧ m ≤ n ∧ Hid (jj < 2 ^ k) ∧ Hid (ys.length = n) ∧ Hid (revGo n (n - m) m jj ys = rev xs) ∧
     Blk wr b 25 (E ys) ∧ Chg [b] w wr) (fun _ i _ => n - (intOf i).toNat)
  case atStart => exact ⟨0, 0, xs, rfl, rfl, Nat.zero_le _, Nat.two_pow_pos k, HL, HR.out.symm, hb, Chg.refl _ _⟩
  case round =>
    obtain ⟨jj, m, ys, rfl, rfl, hm, hj, hlen, HG, hbr, hch⟩ := hrel
    by_cases hlt : m < n
    · have hjn : jj < n := by rw [HN.out]; exact hj.out
      go_upto_if 13 with fail
      go_cut [] (fun wc => ∃ zs : List Int, Hid (zs.length = n) ∧ Hid (zs = if m < jj then swap ys m jj else ys) ∧ Blk wc b 25 (E zs) ∧ Chg [b] w wc)
      case first =>
        by_cases hij : m < jj
        · obtain ⟨vi, hvi⟩ : ∃ v, v = ys.getD m 0 := ⟨_, rfl⟩
          obtain ⟨vj, hvj⟩ : ∃ v, v = ys.getD jj 0 := ⟨_, rfl⟩
          have hc1 : wr.cell? ⟨b, m, none⟩ = some (.int .u32 vi) := by rw [hvi]; exact hbr.cell _ _ (E_get _ _ (by rw [hlen.out]; exact hlt))
          have hc2 : wr.cell? ⟨b, jj, none⟩ = some (.int .u32 vj) := by rw [hvj]; exact hbr.cell _ _ (E_get _ _ (by rw [hlen.out]; exact hjn))
          have hf1 := hbr.frozen m none
          have hf2 := hbr.frozen jj none
          have Hvi := hide hvi
          have Hvj := hide hvj
          clear hvi hvj hb
          go_wp2_with fail
          go_region
          go_wp2_with fail
          go_meet
          refine ⟨swap ys m jj, ?_, ?_, ?_, ?_⟩
          · unfold Hid; rw [swap_length]; exact hlen.out
          · unfold Hid; rw [if_pos hij]
          · have := (hbr.set m (.int .u32 vj)).set jj (.int .u32 vi)
            rw [E_set, E_set, Hvi.out, Hvj.out] at this
            rw [Hvi.out, Hvj.out]
            exact this.drew
          · exact ((hch.setCell _ (by simp) _).setCell _ (by simp) _).drew
        · go_wp2_with fail
          go_meet
          refine ⟨ys, hlen, ?_, hbr, hch⟩
          unfold Hid; rw [if_neg hij]
      case rest =>
        obtain ⟨zs, hzl, hzs, hbz, hcz⟩ := hcut
        clear hbr hch hb
        go_wp2_with fail
        go_loop [2, 4] (fun x y => ∃ (f j c : Nat), x = .int .i64 j ∧ y = .int .i64 c ∧ j < 4096 ∧ c < 4096 ∧ Hid (c < 2 ^ f) ∧ Hid (revIn f j c = revIn 64 jj (n / 2)) ∧ Hid (j < 2 ^ k) ∧ Hid (c < 2 ^ k)) (fun _ y => (intOf y).toNat)
        case atStart =>
          have hnk : n / 2 < 2 ^ k := by rw [HN.out]; exact Nat.div_lt_self (Nat.two_pow_pos k) (by omega)
          exact ⟨64, jj, n / 2, rfl, by go_num, by omega, by omega, (by unfold Hid; have := Nat.pow_lt_pow_right (a := 2) (m := 11) (n := 64) (by omega) (by omega); omega), rfl, hj, hnk⟩
        case round =>
          obtain ⟨f, j, c, rfl, rfl, hj4, hc4, hcf, HI, hjk, hck⟩ := hrel
          by_cases hgo : 0 < c ∧ j &&& c ≠ 0
          · obtain ⟨hc0, hjc⟩ := hgo
            obtain ⟨g, rfl⟩ : ∃ g, f = g + 1 := ⟨f - 1, by
              rcases Nat.eq_zero_or_pos f with h | h
              · subst h; have := hcf.out; omega
              · omega⟩
            have h1 : (bits BinOp.and IntKind.i64 (j : Int) (c : Int) != 0) = true := by
              rw [i64_and j c (by omega) (by omega)]; simp; omega
            have h2 : bits BinOp.xor IntKind.i64 (j : Int) (c : Int) = ((j ^^^ c : Nat) : Int) := i64_xor j c (by omega) (by omega)
            have HI2 : Hid (revIn g (j ^^^ c) (c / 2) = revIn 64 jj (n / 2)) := by
              rw [← HI.out]; unfold Hid; rw [revIn, if_pos ⟨hc0, hjc⟩]
            have hx := Nat.xor_lt_two_pow (n := 12) (x := j) (y := c) (by omega) (by omega)
            have hxk : Hid (j ^^^ c < 2 ^ k) := Nat.xor_lt_two_pow hjk.out hck.out
            have hcg : Hid (c / 2 < 2 ^ g) := by have := hcf.out; unfold Hid; rw [Nat.pow_succ] at this; omega
            have hck2 : Hid (c / 2 < 2 ^ k) := Nat.lt_of_le_of_lt (Nat.div_le_self _ _) hck.out
            clear hjc HI hcf
            go_wp2_with fail
            go_round
            case rel => exact ⟨g, j ^^^ c, c / 2, rfl, by go_num, by omega, by omega, hcg, HI2, hxk, hck2⟩
            case measure => simp [intOf]; omega
          · have HI2 : Hid ((j, c) = revIn 64 jj (n / 2)) := by
              rw [← HI.out, revIn_stop _ _ _ hgo]; rfl
            have hor : bits BinOp.or IntKind.i64 (j : Int) (c : Int) = ((j ||| c : Nat) : Int) := i64_or j c (by omega) (by omega)
            have hnext : revNext n jj = j ||| c := by unfold revNext; rw [← HI2.out]
            have hG2 : Hid (revGo n (n - (m + 1)) (m + 1) (j ||| c) zs = rev xs) := by
              rw [← HG.out, show n - m = n - (m + 1) + 1 by omega, ← hnext, hzs.out]; rfl
            have hjk2 : Hid (j ||| c < 2 ^ k) := Nat.or_lt_two_pow hjk.out hck.out
            clear hnext
            by_cases hc0 : 0 < c
            · have h1 : (bits BinOp.and IntKind.i64 (j : Int) (c : Int) != 0) = false := by
                rw [i64_and j c (by omega) (by omega)]; simp; omega
              clear hgo
              go_wp2_with fail
              go_roundw
              case rel => exact ⟨j ||| c, m + 1, zs, rfl, by go_num, by omega, hjk2, hzl, hG2, hbz, hcz⟩
              case measure => simp [intOf]; omega
            · clear hgo
              go_wp2_with fail
              go_roundw
              case rel => exact ⟨j ||| c, m + 1, zs, rfl, by go_num, by omega, hjk2, hzl, hG2, hbz, hcz⟩
              case measure => simp [intOf]; omega
    · go_wp2_with fail
      go_end0
      have hmn : m = n := by omega
      subst hmn
      refine ⟨rfl, ?_, hch⟩
      rw [← HG.out, Nat.sub_self]
      exact hbr
end Ntt
end Go.Proofs.Ygctak
