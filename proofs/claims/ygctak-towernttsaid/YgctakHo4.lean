/-
  Walk: (*Acc).AddFloat.
-/
import Derived.Test.YgctakHo2
import Derived.Test.YgctakHo3
namespace Go.Proofs.Ygctak
open Go.RowKit
set_option linter.unusedVariables false
set_option linter.unusedSimpArgs false
attribute [local go_sem ↓] Go.wp_at_zero Go.wp_at_succ
namespace Ac
open Fb Fl

theorem AddFloat_any (b o t : Nat) (p s : List Value) (z : Int) (x : Nat) (w : World) (hf : Finite x) (hx : x < 2 ^ 64) (ha : At w b o t p (W z) s) :
    Calls Takg.prog 139 #[.pointer (some ⟨b, o, none⟩), .float .f64 x] w fun e w' => e = .returned (.bool true) ∧ At w' b o t p (W (z + V x * 2 ^ 1074)) s ∧ Chg [b] w w' := by
  have HSP := hide (Split64_any x w hx)
  obtain ⟨z2, hz2⟩ : ∃ y, y = z + V x * 2 ^ 1074 := ⟨_, rfl⟩
  -- what is placed, and what comes of it
  have key : ∀ (neg : Bool) (man : Nat) (exp : Int) (c : Nat), Sp x neg man exp c → c ≤ 1 ∧ man ≤ 18446744073709551615 ∧ -1074 ≤ exp ∧ exp ≤ 971 ∧
      ∀ q sh : Nat, exp + 2148 = 64 * q + sh → (if neg then z - (man : Int) * 2 ^ (64 * q + sh) else z + (man : Int) * 2 ^ (64 * q + sh)) = z2 := by
    intro neg man exp c h
    rcases h with ⟨rfl, rfl, rfl, _, hv⟩ | ⟨rfl, h1, h2, h3, h4, _, hv, _⟩ | ⟨_, _, _, hn⟩
    · refine ⟨by omega, by omega, by omega, by omega, fun q sh _ => ?_⟩
      rw [hz2, hv]
      generalize (2 : Int) ^ 1074 = A
      cases neg <;> simp
    · refine ⟨by omega, by omega, by omega, by omega, fun q sh hq => ?_⟩
      obtain ⟨u, hu⟩ : ∃ u : Nat, exp + 1074 = u := ⟨(exp + 1074).toNat, by omega⟩
      rw [hz2, hv, show (exp + 1074).toNat = u by omega, show 64 * q + sh = u + 1074 by omega, Int.pow_add]
      generalize (2 : Int) ^ 1074 = A
      cases neg
      · simp only [sg, Bool.false_eq_true, if_false]
        rw [Int.natCast_mul, Fl.ipow, Int.mul_assoc]
      · simp only [sg, if_true]
        rw [Int.natCast_mul, Fl.ipow, Int.neg_mul, Int.mul_assoc, Int.sub_eq_add_neg]
    · exact absurd hf hn
  rw [← hz2]
  have HK := hide key
  clear key hz2 hf
  go_enter Takg.func139, Takg.ntmps139
  go_wp2_with fail
  refine HSP.out.mono ?_
  rintro e w' ⟨neg, man, exp, c, rfl, hsp, rfl⟩
  obtain ⟨hc, hm, he0, he1, hend⟩ := HK.out neg man exp c hsp
  clear HK hsp HSP
  have hcc : ¬ ((1 : Int) < c) := by omega
  obtain ⟨i, hi⟩ : ∃ i, i = exp + 2148 := ⟨_, rfl⟩
  have hw : IntKind.i64.wrap (exp + 2148) = i := by rw [IntKind.wrap_i64]; omega
  have hw2 : IntKind.i64.wrap exp = exp := by rw [IntKind.wrap_i64]; omega
  obtain ⟨q, hq⟩ : ∃ q : Nat, q = (i / 64).toNat := ⟨_, rfl⟩
  obtain ⟨sh, hsh⟩ : ∃ q : Nat, q = (i % 64).toNat := ⟨_, rfl⟩
  have hii : i = 64 * q + sh := by omega
  have hres := hend q sh (by omega)
  have HN := hide (fun W hW => place_neg b o t p s z man q sh i W (by omega) (by omega) (by omega) (by omega) hii hW)
  have HP := hide (fun W hW => place_pos b o t p s z man q sh i W (by omega) (by omega) (by omega) (by omega) hii hW)
  clear hend
  cases neg
  · simp only [Bool.false_eq_true, if_false] at hres
    rw [hres] at HP
    clear HN hres hi hq hsh hii
    go_wp2_with fail
    refine (HP.out _ ha).mono ?_
    rintro e w2 ⟨rfl, hk, hch⟩
    go_wp2_with fail
    go_ret
    exact ⟨rfl, hk, hch⟩
  · simp only [if_true] at hres
    rw [hres] at HN
    clear HP hres hi hq hsh hii
    go_wp2_with fail
    refine (HN.out _ ha).mono ?_
    rintro e w2 ⟨rfl, hk, hch⟩
    go_wp2_with fail
    go_ret
    exact ⟨rfl, hk, hch⟩
end Ac
end Go.Proofs.Ygctak
