/-
  Walks: Sign, Cmp.
-/
import Derived.Test.YgctakAcc3
namespace Go.Proofs.Ygctak
open Go.RowKit
set_option linter.unusedVariables false
set_option linter.unusedSimpArgs false
attribute [local go_sem ↓] Go.wp_at_zero Go.wp_at_succ
namespace Ac

set_option maxHeartbeats 1000000 in
/-- (*Acc).Sign. -/
theorem Sign_any (b o t : Nat) (p s : List Value) (x : Int) (w : World) (hx : Fits x) (ha : At w b o t p (W x) s) :
    Calls Takg.prog 31 #[.pointer (some ⟨b, o, none⟩)] w fun e w' => e = .returned (.int .i8 (sgn x)) ∧ w' = w := by
  have hcell := fun j hj => ha.cell j hj
  have htop := top_neg hx
  have k67 := hcell 67 (by omega)
  have tb := word_bd x 67
  obtain ⟨u, hu⟩ : ∃ u, u = word x 67 := ⟨_, rfl⟩
  rw [← hu] at htop k67 tb
  by_cases hn : x < 0
  · rw [if_pos hn] at htop
    have hb : (u / 9223372036854775808 != 0) = true := by rw [htop]; decide
    have hs : sgn x = -1 := by unfold sgn; rw [if_pos hn]
    have HS := hide hs
    clear hu hcell ha htop hs
    obtain ⟨t0, t1⟩ := tb
    go_enter Takg.func31, Takg.ntmps31
    go_wp2_with fail
    go_ret
    exact ⟨by rw [HS.out]; rfl, rfl⟩
  · rw [if_neg hn] at htop
    have hb : (u / 9223372036854775808 != 0) = false := by rw [htop]; decide
    have HC := hide hcell
    clear hu hcell htop
    obtain ⟨t0, t1⟩ := tb
    go_enter Takg.func31, Takg.ntmps31
    go_wp2_with fail
    clear k67
    go_loop [3] (fun i => ∃ k : Nat, i = .int .i64 k ∧ k ≤ 68 ∧ Hid (∀ j, j < k → word x j = 0)) (fun i => 68 - (intOf i).toNat)
    case atStart => exact ⟨0, rfl, by omega, fun j hj => by omega⟩
    case round =>
      obtain ⟨k, rfl, hk, HZ⟩ := hrel
      by_cases hlt : k < 68
      · have k0 := HC.out k hlt
        by_cases hz : word x k = 0
        · rw [hz] at k0
          have HZ2 : Hid (∀ j, j < k + 1 → word x j = 0) := by
            intro j hj
            by_cases e : j = k
            · rw [e]; exact hz
            · exact HZ.out j (by omega)
          clear HZ hz
          go_wp2_with fail
          go_round
          case rel => exact ⟨k + 1, by go_num, by omega, HZ2⟩
          case measure => simp [intOf]; omega
        · have hne : (word x k != 0) = true := by rw [bne_iff_ne]; exact hz
          obtain ⟨v, hv⟩ : ∃ v, v = word x k := ⟨_, rfl⟩
          have hxz : x ≠ 0 := by intro e; apply hz; rw [e]; simp [word]
          have hs : sgn x = 1 := by unfold sgn; rw [if_neg (by omega), if_neg hxz]
          have HS := hide hs
          rw [← hv] at k0 hne
          clear hz hv hs HZ hxz
          go_wp2_with fail
          go_ret
          exact ⟨by rw [HS.out]; rfl, rfl⟩
      · have hke : k = 68 := by omega
        subst hke
        have hs : sgn x = 0 := by unfold sgn; rw [if_neg (by omega), if_pos (fits_zero hx (by omega) HZ.out)]
        have HS := hide hs
        clear hs
        go_wp2_with fail
        go_ret
        exact ⟨by rw [HS.out]; rfl, rfl⟩

theorem xor_top (u : Int) (u0 : 0 ≤ u) (u1 : u ≤ 18446744073709551615) : bits .xor .u64 u 9223372036854775808 = (u + 9223372036854775808) % 18446744073709551616 := by
  obtain ⟨a, rfl⟩ := Int.eq_ofNat_of_zero_le u0
  have e1 := bits_xor_u64_nat a 9223372036854775808 (by omega) (by omega)
  have key : ∀ c : Nat, c < 9223372036854775808 → c ^^^ 9223372036854775808 = c + 9223372036854775808 := by
    intro c hc
    have h1 := Nat.two_pow_add_eq_or_of_lt (i := 63) (b := c) hc 1
    rw [Nat.mul_one, show (2 : Nat) ^ 63 = 9223372036854775808 from rfl] at h1
    rw [Nat.add_comm, h1]
    apply Nat.eq_of_testBit_eq
    intro i
    rw [Nat.testBit_xor, Nat.testBit_or, show (9223372036854775808 : Nat) = 2 ^ 63 from rfl, Nat.testBit_two_pow]
    by_cases e : 63 = i
    · subst e
      rw [Nat.testBit_lt_two_pow (show c < 2 ^ 63 from hc)]
      simp
    · simp [e]
  have e2 : a ^^^ 9223372036854775808 = (a + 9223372036854775808) % 18446744073709551616 := by
    by_cases h : a < 9223372036854775808
    · rw [key a h]; omega
    · have h2 := key (a - 9223372036854775808) (by omega)
      have h3 : a = (a - 9223372036854775808) ^^^ 9223372036854775808 := by rw [h2]; omega
      conv => lhs; rw [h3]
      rw [Nat.xor_assoc, Nat.xor_self, Nat.xor_zero]
      omega
  have e3 : bits .xor .u64 (a : Int) 9223372036854775808 = ((a ^^^ 9223372036854775808 : Nat) : Int) := e1
  rw [e3, e2]
  omega

/-- The words that Cmp compares. -/
theorem cmp_lt {x y : Int} {k : Nat} (h : (x + half) / 2 ^ (64 * (k + 1)) = (y + half) / 2 ^ (64 * (k + 1))) (hw : word (x + half) k < word (y + half) k) : cmp x y = -1 := by
  have := lex_lt h hw
  unfold cmp; rw [if_pos (by omega)]
theorem cmp_gt {x y : Int} {k : Nat} (h : (x + half) / 2 ^ (64 * (k + 1)) = (y + half) / 2 ^ (64 * (k + 1))) (hw : word (y + half) k < word (x + half) k) : cmp x y = 1 := by
  have := lex_lt h.symm hw
  unfold cmp; rw [if_neg (by omega), if_neg (by omega)]
theorem cmp_top {x y : Int} (hx : Fits x) (hy : Fits y) : (x + half) / 2 ^ (64 * 68) = (y + half) / 2 ^ (64 * 68) := by
  obtain ⟨a1, a2⟩ := hx
  obtain ⟨b1, b2⟩ := hy
  rw [← half_two]
  have h := half_pos
  generalize half = H at *
  rw [Int.ediv_eq_zero_of_lt (by omega) (by omega), Int.ediv_eq_zero_of_lt (by omega) (by omega)]

set_option maxHeartbeats 1000000 in
/-- acc.Cmp. -/
theorem Cmp_any (b o t b2 o2 t2 : Nat) (p s p2 s2 : List Value) (x y : Int) (w : World) (hx : Fits x) (hy : Fits y) (ha : At w b o t p (W x) s) (hb : At w b2 o2 t2 p2 (W y) s2) :
    Calls Takg.prog 32 #[.pointer (some ⟨b, o, none⟩), .pointer (some ⟨b2, o2, none⟩)] w fun e w' => e = .returned (.int .i8 (cmp x y)) ∧ ∃ n, w' = w.drewN n := by
  have hca := fun j hj => ha.cell j hj
  have hcb := fun j hj => hb.cell j hj
  have k67 := hca 67 (by omega)
  have m67 := hcb 67 (by omega)
  have tx := word_bd x 67
  have ty := word_bd y 67
  have ex := xor_top _ tx.1 tx.2
  have ey := xor_top _ ty.1 ty.2
  rw [← word_top] at ex ey
  obtain ⟨u, hu⟩ : ∃ u, u = word x 67 := ⟨_, rfl⟩
  obtain ⟨v, hv⟩ : ∃ v, v = word y 67 := ⟨_, rfl⟩
  rw [← hu] at k67 tx ex
  rw [← hv] at m67 ty ey
  have HCA := hide hca
  have HCB := hide hcb
  have HT := hide (cmp_top hx hy)
  clear hu hv hca hcb ha hb
  go_enter Takg.func32, Takg.ntmps32
  go_upto_region 3 with fail
  go_cut [5, 6] (fun a c wc => a = .int .u64 (word (x + half) 67) ∧ c = .int .u64 (word (y + half) 67) ∧ wc = w.drew)
  case first =>
    go_region
    go_wp2_with fail
    go_meet
    exact ⟨rfl, rfl, rfl⟩
  case rest =>
    obtain ⟨rfl, rfl, rfl⟩ := hcut
    clear k67 m67 ex ey tx ty
    go_wp2_with fail
    go_loopw [5, 6, 7] (fun a c i wr => ∃ k n : Nat, i = .int .i64 ((k : Int) - 1) ∧ k ≤ 68 ∧ wr = w.drewN n ∧ Hid ((x + half) / 2 ^ (64 * k) = (y + half) / 2 ^ (64 * k)) ∧
        Hid (k = 68 → a = .int .u64 (word (x + half) 67) ∧ c = .int .u64 (word (y + half) 67))) (fun _ _ i _ => (intOf i + 1).toNat)
    case atStart => exact ⟨68, 1, rfl, by omega, rfl, HT, fun _ => ⟨rfl, rfl⟩⟩
    case round =>
      obtain ⟨k, n, rfl, hk, rfl, HD, HT⟩ := hrel
      by_cases hk0 : 0 < k
      · obtain ⟨m, rfl⟩ : ∃ m, k = m + 1 := ⟨k - 1, by omega⟩
        have hm : m < 68 := by omega
        rw [show (((m + 1 : Nat) : Int) - 1) = (m : Int) by omega]
        go_upto_if 29 with fail
        go_cut [5, 6] (fun a c wc => a = .int .u64 (word (x + half) m) ∧ c = .int .u64 (word (y + half) m) ∧ ∃ n, wc = w.drewN n)
        case first =>
          by_cases h67 : m < 67
          · have k0 := HCA.out m hm
            have k1 := HCB.out m hm
            rw [← word_flip x m h67] at k0
            rw [← word_flip y m h67] at k1
            clear HT
            go_wp2_with fail
            go_region
            go_wp2_with fail
            go_meet
            exact ⟨rfl, rfl, n + 1, rfl⟩
          · have h67e : m = 67 := by omega
            subst h67e
            obtain ⟨rfl, rfl⟩ := HT.out rfl
            clear HT
            go_wp2_with fail
            go_meet
            exact ⟨rfl, rfl, n, rfl⟩
        case rest =>
          obtain ⟨rfl, rfl, n2, rfl⟩ := hcut
          have HX : Hid (word (x + half) m = word (y + half) m → (x + half) / 2 ^ (64 * m) = (y + half) / 2 ^ (64 * m)) := fun h => lex_eq HD.out h
          have HLT : Hid (word (x + half) m < word (y + half) m → cmp x y = -1) := fun h => cmp_lt HD.out h
          have HGT : Hid (word (y + half) m < word (x + half) m → cmp x y = 1) := fun h => cmp_gt HD.out h
          generalize word (x + half) m = a at *
          generalize word (y + half) m = c at *
          clear HT
          by_cases h1 : a < c
          · go_wp2_with fail
            go_ret
            exact ⟨by rw [HLT.out h1]; rfl, n2, rfl⟩
          · by_cases h2 : c < a
            · go_wp2_with fail
              go_ret
              exact ⟨by rw [HGT.out h2]; rfl, n2, rfl⟩
            · have hac : a = c := by omega
              subst hac
              go_wp2_with fail
              go_roundw
              case rel => exact ⟨m, n2, by go_num, by omega, rfl, HX.out rfl, fun h => by omega⟩
              case measure => simp [intOf]
      · have hk00 : k = 0 := by omega
        subst hk00
        have hxy : cmp x y = 0 := by
          have := HD.out
          simp at this
          unfold cmp; rw [if_neg (by omega), if_pos this]
        have HXY := hide hxy
        clear hxy HT
        go_wp2_with fail
        go_ret
        exact ⟨by rw [HXY.out]; rfl, n, rfl⟩
end Ac
end Go.Proofs.Ygctak
