/-
  Walks: (*Acc).field, Bit, anyBelow, of an accumulator that is not negative.
-/
import Derived.Test.YgctakDoorRd
namespace Go.Proofs.YgctakDoor
open Go.RowKit
set_option linter.unusedVariables false
set_option linter.unusedSimpArgs false
attribute [local go_sem ↓] Go.wp_at_zero Go.wp_at_succ
namespace Rd
open Ac Rn Fl Bt

theorem or_shift (u v : Int) (l : Nat) (hl : l < 64) (u0 : 0 ≤ u) (v0 : 0 ≤ v) (v1 : v ≤ 18446744073709551615) :
    bits BinOp.or IntKind.u64 (IntKind.u64.wrap (u * 2 ^ l)) (v / 2 ^ (64 - l)) = u * 2 ^ l % 18446744073709551616 + v / 2 ^ (64 - l) := by
  obtain ⟨U, rfl⟩ := Int.eq_ofNat_of_zero_le u0
  obtain ⟨V, rfl⟩ := Int.eq_ofNat_of_zero_le v0
  have hV : V < 2 ^ 64 := by omega
  rw [IntKind.wrap_u64]
  have e1 : (U : Int) * 2 ^ l % 18446744073709551616 = ((2 ^ l * (U % 2 ^ (64 - l)) : Nat) : Int) := by
    have h1 : (2 : Nat) ^ 64 = 2 ^ l * 2 ^ (64 - l) := by rw [← Nat.pow_add]; congr 1; omega
    have h2 : 2 ^ l * U % 2 ^ 64 = 2 ^ l * (U % 2 ^ (64 - l)) := by rw [h1, Nat.mul_mod_mul_left]
    rw [← h2, Nat.mul_comm]
    simp
  have e2 : (V : Int) / 2 ^ (64 - l) = ((V / 2 ^ (64 - l) : Nat) : Int) := by simp
  have hlt : V / 2 ^ (64 - l) < 2 ^ l := by
    rw [Nat.div_lt_iff_lt_mul (Nat.two_pow_pos _), ← Nat.pow_add, show l + (64 - l) = 64 by omega]
    exact hV
  have hlt2 : 2 ^ l * (U % 2 ^ (64 - l)) < 18446744073709551616 := by
    have h3 : U % 2 ^ (64 - l) < 2 ^ (64 - l) := Nat.mod_lt _ (Nat.two_pow_pos _)
    have h4 := Nat.mul_lt_mul_of_pos_left h3 (Nat.two_pow_pos l)
    rw [← Nat.pow_add, show l + (64 - l) = 64 by omega] at h4
    exact h4
  have hlt3 : V / 2 ^ (64 - l) < 18446744073709551616 := Nat.lt_of_lt_of_le hlt (show 2 ^ l ≤ 2 ^ 64 from Nat.pow_le_pow_right (by omega) (by omega))
  rw [e1, e2, bits_or_u64_nat _ _ hlt2 hlt3, ← Nat.two_pow_add_eq_or_of_lt hlt]
  omega

theorem mask53 (a : Nat) (ha : a < 18446744073709551616) : bits .and .u64 (a : Int) 9007199254740991 = ((a % 2 ^ 53 : Nat) : Int) := by
  have h := bits_and_u64_nat a 9007199254740991 ha (by omega)
  have e : a &&& 9007199254740991 = a % 2 ^ 53 := Nat.and_two_pow_sub_one_eq_mod a 53
  rw [e] at h
  exact h
theorem mask1 (a : Nat) (ha : a < 18446744073709551616) : bits .and .u64 (a : Int) 1 = ((a % 2 : Nat) : Int) := by
  have h := bits_and_u64_nat a 1 ha (by omega)
  have e : a &&& 1 = a % 2 := Nat.and_two_pow_sub_one_eq_mod a 1
  rw [e] at h
  exact h

/-- The words that field puts together. -/
theorem field_pure (z q s : Nat) (hs : s < 64) : ∃ v : Nat, v < 18446744073709551616 ∧ v % 2 ^ 53 = z / 2 ^ (64 * q + s) % 2 ^ 53 ∧
    bits .or .u64 (word (z : Int) q / 2 ^ s) (IntKind.u64.wrap (word (z : Int) (q + 1) * 2 ^ (64 - s))) = (v : Int) := by
  refine ⟨z / 2 ^ (64 * q + s) % 18446744073709551616, Nat.mod_lt _ (by decide), ?_, ?_⟩
  · exact Nat.mod_mod_of_dvd _ ⟨2 ^ 11, by decide⟩
  · have b1 := word_bd (z : Int) q
    have b2 := word_bd (z : Int) (q + 1)
    by_cases h0 : s = 0
    · subst h0
      have e : IntKind.u64.wrap (word (z : Int) (q + 1) * 2 ^ (64 - 0)) = 0 := by
        rw [IntKind.wrap_u64, show (2 : Int) ^ (64 - 0) = 18446744073709551616 from rfl]; omega
      rw [e, or_comm64, Int.pow_zero, Int.ediv_one, or_zero _ b1.1 b1.2, word_nat, Nat.add_zero]
    · have e := word_div (z : Int) s q (by omega) hs
      have o := or_shift (word (z : Int) (q + 1)) (word (z : Int) q) (64 - s) (by omega) b2.1 b1.1 b1.2
      rw [show 64 - (64 - s) = s by omega] at o
      rw [or_comm64, o, ← e]
      have e2 : (z : Int) / 2 ^ s = ((z / 2 ^ s : Nat) : Int) := by rw [← Fl.ipow, ← Int.natCast_ediv]
      rw [e2, word_nat, Nat.div_div_eq_div_mul, ← Nat.pow_add, Nat.add_comm s]

theorem field_any (b o t : Nat) (p s : List Value) (z low : Nat) (w : World) (hl : low ≤ 4000) (ha : At w b o t p (W (z : Int)) s) :
    Calls Takg.prog 20 #[.pointer (some ⟨b, o, none⟩), .int .i64 low] w fun e w' => e = .returned (.int .u64 ((z / 2 ^ low % 2 ^ 53 : Nat) : Int)) ∧ w' = w := by
  obtain ⟨q, hq⟩ : ∃ q, q = low / 64 := ⟨_, rfl⟩
  obtain ⟨sh, hsh⟩ : ∃ q, q = low % 64 := ⟨_, rfl⟩
  have hlow : low = 64 * q + sh := by omega
  have hs64 : sh < 64 := by omega
  obtain ⟨v, hv1, hv2, hv3⟩ := field_pure z q sh hs64
  rw [← hlow] at hv2
  rw [← hv2]
  have hm := mask53 v hv1
  have k0 := ha.cell q (by omega)
  have k1 := ha.cell (q + 1) (by omega)
  have b1 := word_bd (z : Int) q
  have b2 := word_bd (z : Int) (q + 1)
  generalize word (z : Int) q = u1 at *
  generalize word (z : Int) (q + 1) = u2 at *
  obtain ⟨b10, b11⟩ := b1
  obtain ⟨b20, b21⟩ := b2
  have e1 : (low : Int) / 64 = (q : Int) := by omega
  have e2 : (low : Int) % 64 = (sh : Int) := by omega
  have hq66 : q ≤ 66 := by omega
  obtain ⟨r, hr⟩ : ∃ r, r = v % 2 ^ 53 := ⟨_, rfl⟩
  rw [← hr] at hm ⊢
  clear hv2 hr hlow hq hsh ha
  go_enter Takg.func20, Takg.ntmps20
  go_upto_region 1 with fail
  go_cut [5, 6] (fun x y wc => x = .int .i64 q ∧ y = .int .i64 sh ∧ w = wc)
  case first =>
    go_wp2_with fail
    go_meet
    exact ⟨by first | rfl | rw [e1], by first | rfl | rw [e2], rfl⟩
  case rest =>
    obtain ⟨rfl, rfl, rfl⟩ := hcut
    clear e1 e2
    go_wp2_with fail
    go_ret
    exact ⟨rfl, rfl⟩

theorem bit_pure (z i : Nat) : ∃ v : Nat, v < 18446744073709551616 ∧ v % 2 = z / 2 ^ i % 2 ∧ word (z : Int) (i / 64) / 2 ^ (i % 64) = (v : Int) := by
  refine ⟨z / 2 ^ (64 * (i / 64)) % 18446744073709551616 / 2 ^ (i % 64), ?_, ?_, ?_⟩
  · exact Nat.lt_of_le_of_lt (Nat.div_le_self _ _) (Nat.mod_lt _ (by decide))
  · have h : i = 64 * (i / 64) + i % 64 := by omega
    conv => rhs; rw [h, Nat.pow_add, ← Nat.div_div_eq_div_mul]
    generalize z / 2 ^ (64 * (i / 64)) = y
    have hlt : i % 64 < 64 := by omega
    generalize i % 64 = s at *
    have e : 18446744073709551616 = 2 ^ s * (2 * 2 ^ (63 - s)) := by
      rw [show 2 * 2 ^ (63 - s) = 2 ^ (63 - s + 1) by rw [Nat.pow_succ, Nat.mul_comm], ← Nat.pow_add, show s + (63 - s + 1) = 64 by omega]
    rw [e, Nat.mod_mul_right_div_self, Nat.mod_mul_right_mod]
  · rw [word_nat, ← Fl.ipow, ← Int.natCast_ediv]

theorem Bit_any (b o t : Nat) (p s : List Value) (z i : Nat) (w : World) (hl : i ≤ 4000) (ha : At w b o t p (W (z : Int)) s) :
    Calls Takg.prog 21 #[.pointer (some ⟨b, o, none⟩), .int .i64 i] w fun e w' => e = .returned (.bool (decide (z / 2 ^ i % 2 = 1))) ∧ w' = w := by
  obtain ⟨v, hv1, hv2, hv3⟩ := bit_pure z i
  obtain ⟨q, hq⟩ : ∃ q, q = i / 64 := ⟨_, rfl⟩
  obtain ⟨sh, hsh⟩ : ∃ q, q = i % 64 := ⟨_, rfl⟩
  rw [← hq, ← hsh] at hv3
  have hm := mask1 v hv1
  obtain ⟨c, hc⟩ : ∃ c, c = v % 2 := ⟨_, rfl⟩
  rw [← hc] at hm
  have hres : ((c : Int) != 0) = decide (z / 2 ^ i % 2 = 1) := by
    rw [← hv2, ← hc]
    have : c < 2 := by omega
    match c, this with
    | 0, _ => rfl
    | 1, _ => rfl
  obtain ⟨B, hB⟩ : ∃ B : Bool, B = decide (z / 2 ^ i % 2 = 1) := ⟨_, rfl⟩
  rw [← hB] at hres ⊢
  have k0 := ha.cell q (by omega)
  have b1 := word_bd (z : Int) q
  generalize word (z : Int) q = u1 at *
  obtain ⟨b10, b11⟩ := b1
  have e1 : (i : Int) / 64 = (q : Int) := by omega
  have e2 : (i : Int) % 64 = (sh : Int) := by omega
  have hq66 : q ≤ 66 := by omega
  have hs64 : sh < 64 := by omega
  clear hv2 hB hc hq hsh ha
  go_enter Takg.func21, Takg.ntmps21
  go_wp2_with fail
  go_ret
  exact ⟨rfl, rfl⟩

/-- The words below, and the low bits of the last one. -/
theorem below_pure (z q s : Nat) (hs : s < 64) (h : ∀ j, j < q → word (z : Int) j = 0) : (IntKind.u64.wrap (word (z : Int) q * 2 ^ (64 - s)) != 0) = decide (z % 2 ^ (64 * q + s) ≠ 0) := by
  have h1 := words_mod (z : Int) 0 q (fun j hj => by rw [h j hj]; simp [word])
  rw [Int.zero_emod] at h1
  have h2 : z % 2 ^ (64 * q) = 0 := by
    have : ((z % 2 ^ (64 * q) : Nat) : Int) = 0 := by rw [Int.natCast_emod, Fl.ipow]; exact h1
    omega
  have e0 : z % 2 ^ (64 * q + s) = 2 ^ (64 * q) * (z / 2 ^ (64 * q) % 2 ^ s) := by
    rw [Nat.pow_add, Nat.mod_mul, h2, Nat.zero_add]
  have e1 : IntKind.u64.wrap (word (z : Int) q * 2 ^ (64 - s)) = ((z / 2 ^ (64 * q) % 2 ^ s * 2 ^ (64 - s) : Nat) : Int) := by
    rw [IntKind.wrap_u64, word_nat]
    generalize z / 2 ^ (64 * q) = y
    rw [← Fl.ipow, ← Int.natCast_mul, show (18446744073709551616 : Int) = ((18446744073709551616 : Nat) : Int) from rfl, ← Int.natCast_emod]
    congr 1
    have e : 18446744073709551616 = 2 ^ s * 2 ^ (64 - s) := by rw [← Nat.pow_add, show s + (64 - s) = 64 by omega]
    conv => lhs; rw [e]
    rw [Nat.mul_mod_mul_right, Nat.mod_mod_of_dvd _ ⟨2 ^ (64 - s), rfl⟩]
  rw [e1, e0]
  generalize z / 2 ^ (64 * q) % 2 ^ s = y
  have p1 := Nat.two_pow_pos (64 - s)
  have p2 := Nat.two_pow_pos (64 * q)
  by_cases hy : y = 0
  · subst hy; simp
  · rw [decide_eq_true (by rw [Ne, Nat.mul_eq_zero]; omega), bne_iff_ne]
    have : y * 2 ^ (64 - s) ≠ 0 := by rw [Ne, Nat.mul_eq_zero]; omega
    omega

theorem word_of_mod (z i j : Nat) (h : z % 2 ^ i = 0) (hj : 64 * (j + 1) ≤ i) : word (z : Int) j = 0 := by
  obtain ⟨k, hk⟩ := Nat.dvd_of_mod_eq_zero h
  rw [word_nat]
  obtain ⟨d, rfl⟩ : ∃ d, i = 64 * j + 64 + d := ⟨i - 64 * j - 64, by omega⟩
  rw [hk, Nat.pow_add, Nat.pow_add, Nat.mul_assoc, Nat.mul_assoc, Nat.mul_div_cancel_left _ (Nat.two_pow_pos _)]
  rw [show (2 : Nat) ^ 64 = 18446744073709551616 from rfl, Nat.mul_mod_right]
  rfl

set_option maxHeartbeats 1000000 in
theorem anyBelow_any (b o t : Nat) (p s : List Value) (z i : Nat) (w : World) (hl : i ≤ 4000) (ha : At w b o t p (W (z : Int)) s) :
    Calls Takg.prog 22 #[.pointer (some ⟨b, o, none⟩), .int .i64 i] w fun e w' => e = .returned (.bool (decide (z % 2 ^ i ≠ 0))) ∧ w' = w := by
  obtain ⟨q, hq⟩ : ∃ q, q = i / 64 := ⟨_, rfl⟩
  obtain ⟨sh, hsh⟩ : ∃ q, q = i % 64 := ⟨_, rfl⟩
  have hi : i = 64 * q + sh := by omega
  obtain ⟨B, hB⟩ : ∃ B : Bool, B = decide (z % 2 ^ i ≠ 0) := ⟨_, rfl⟩
  have HC := hide (fun j hj => ha.cell j hj)
  have HT : Hid (∀ j, j < q → word (z : Int) j ≠ 0 → B = true) := fun j hj hne => by
    rw [hB, decide_eq_true]
    intro h
    exact hne (word_of_mod z i j h (by omega))
  have HE : Hid ((∀ j, j < q → word (z : Int) j = 0) → (IntKind.u64.wrap (word (z : Int) q * 2 ^ (64 - sh)) != 0) = B) := fun h => by
    rw [hB, hi]; exact below_pure z q sh (by omega) h
  rw [← hB]
  have e1 : (i : Int) / 64 = (q : Int) := by omega
  have e2 : (i : Int) % 64 = (sh : Int) := by omega
  have hq66 : q ≤ 66 := by omega
  have hs64 : sh < 64 := by omega
  clear hB hi hq hsh ha
  go_enter Takg.func22, Takg.ntmps22
  go_wp2_with fail
  go_loop [5] (fun j => ∃ k : Nat, j = .int .i64 k ∧ k ≤ q ∧ Hid (∀ j, j < k → word (z : Int) j = 0)) (fun j => q - (intOf j).toNat)
  case atStart => exact ⟨0, rfl, by omega, fun j hj => by omega⟩
  case round =>
    obtain ⟨k, rfl, hk, HW⟩ := hrel
    by_cases hlt : k < q
    · have k0 := HC.out k (by omega)
      by_cases hz : word (z : Int) k = 0
      · rw [hz] at k0
        have HW2 : Hid (∀ j, j < k + 1 → word (z : Int) j = 0) := fun j hj => by
          by_cases e : j = k
          · rw [e]; exact hz
          · exact HW.out j (by omega)
        clear HW hz
        go_wp2_with fail
        go_round
        case rel => exact ⟨k + 1, by go_num, by omega, HW2⟩
        case measure => simp [intOf]; omega
      · have hne : (word (z : Int) k != 0) = true := by rw [bne_iff_ne]; exact hz
        have hbt := HT.out k hlt hz
        obtain ⟨v, hv⟩ : ∃ v, v = word (z : Int) k := ⟨_, rfl⟩
        rw [← hv] at k0 hne
        have HBT := hide hbt
        clear hz hv HW hbt
        go_wp2_with fail
        go_ret
        exact ⟨by rw [HBT.out]; rfl, rfl⟩
    · have hke : k = q := by omega
      subst hke
      have k0 := HC.out k (by omega)
      have hend := HE.out HW.out
      have b1 := word_bd (z : Int) k
      generalize word (z : Int) k = u1 at *
      obtain ⟨b10, b11⟩ := b1
      go_wp2_with fail
      go_ret
      exact ⟨rfl, rfl⟩
end Rd
end Go.Proofs.YgctakDoor
