/-
  Walks: acc.add, acc.mul, Add, MulSmall. An accumulator lies among the cells of a block.
-/
import Derived.Test.YgctakRows
import Derived.Test.YgctakMem2
import Derived.Test.YgctakAccPure
import Derived.WalkLawsBesides
import Derived.RegionTactic
import Derived.BigRegion
import Derived.Deep.RegionWith
import Derived.Deep.DrawnRows
import Derived.Deep.DeepCutAuto
import Derived.Deep.CutBlock
import Derived.Laws.Pointers
import Derived.Laws.Externs
import Derived.Lib.Mul64
import Derived.Laws.Bits64b
namespace Go.Proofs.Ygctak
open Go.RowKit
set_option linter.unusedVariables false
set_option linter.unusedSimpArgs false
attribute [local go_sem ↓] Go.wp_at_zero Go.wp_at_succ
namespace Ac

/-- 68 cells. -/
def Wd (f : Nat → Int) : List Value := (List.range 68).map fun j => .int .u64 (f j)
/-- The cells of the accumulator that holds z. -/
def W (z : Int) : List Value := Wd (word z)

theorem Wd_length (f : Nat → Int) : (Wd f).length = 68 := by simp [Wd]
theorem W_length (z : Int) : (W z).length = 68 := Wd_length _
theorem Wd_congr {f g : Nat → Int} (h : ∀ j, j < 68 → f j = g j) : Wd f = Wd g := by
  unfold Wd
  apply List.map_congr_left
  intro j hj
  rw [h j (by simpa using hj)]
theorem Wd_get (f : Nat → Int) (j : Nat) (h : j < 68) : (Wd f)[j]? = some (.int .u64 (f j)) := by simp [Wd, h]
def upd (f : Nat → Int) (i : Nat) (v : Int) (j : Nat) : Int := if j = i then v else f j
theorem Wd_set (f : Nat → Int) (i : Nat) (v : Int) : (Wd f).set i (.int .u64 v) = Wd (upd f i v) := by
  apply List.ext_getElem?
  intro j
  by_cases h : j < 68
  · rw [Wd_get _ _ h]
    by_cases e : i = j
    · subst e; rw [List.getElem?_set_self (by rw [Wd_length]; exact h)]; simp [upd]
    · rw [List.getElem?_set_ne e, Wd_get _ _ h]; simp [upd, Ne.symm e]
  · rw [List.getElem?_eq_none (by simp [Wd]; omega), List.getElem?_eq_none (by simp [Wd]; omega)]

/-- The cells 'm' lie in block b from offset o on; the block has the cells p before and s behind them. -/
structure At (w : World) (b o : Nat) (t : TypeId) (p m s : List Value) : Prop where
  off : p.length = o
  blk : Blk w b t (p ++ m ++ s)

theorem At.cell {w : World} {b o : Nat} {t : TypeId} {p s : List Value} {f : Nat → Int} (h : At w b o t p (Wd f) s) (j : Nat) (hj : j < 68) : w.cell? ⟨b, o + j, none⟩ = some (.int .u64 (f j)) := by
  refine h.blk.cell _ _ ?_
  rw [List.append_assoc, List.getElem?_append_right (by have := h.off; omega), show o + j - p.length = j by have := h.off; omega, List.getElem?_append_left (by rw [Wd_length]; exact hj), Wd_get _ _ hj]
theorem At.set {w : World} {b o : Nat} {t : TypeId} {p s : List Value} {f : Nat → Int} (h : At w b o t p (Wd f) s) (j : Nat) (hj : j < 68) (v : Int) : At (w.setCell ⟨b, o + j, none⟩ (.int .u64 v)) b o t p (Wd (upd f j v)) s := by
  refine ⟨h.off, ?_⟩
  have := h.blk.set (o + j) (.int .u64 v)
  rw [List.append_assoc, List.set_append_right _ _ (by have := h.off; omega), show o + j - p.length = j by have := h.off; omega, List.set_append_left _ _ (by rw [Wd_length]; exact hj), Wd_set, ← List.append_assoc] at this
  exact this
theorem At.drew {w : World} {b o : Nat} {t : TypeId} {p m s : List Value} (h : At w b o t p m s) : At w.drew b o t p m s := ⟨h.off, h.blk⟩
theorem At.setNe {w : World} {b o : Nat} {t : TypeId} {p m s : List Value} (h : At w b o t p m s) (a : Addr) (hne : b ≠ a.block) (v : Value) : At (w.setCell a v) b o t p m s := ⟨h.off, h.blk.set_ne a hne v⟩
theorem At.alloc {w : World} {b o : Nat} {t : TypeId} {p m s : List Value} (h : At w b o t p m s) (ob : Obj) : At (w.alloc ob) b o t p m s := ⟨h.off, h.blk.alloc ob⟩
theorem At.chg {w w2 : World} {b o : Nat} {t : TypeId} {p m s : List Value} (h : At w b o t p m s) {S : List Nat} (hc : Chg S w w2) (hn : b ∉ S) : At w2 b o t p m s := ⟨h.off, hc.blk h.blk hn⟩

/-! ### the two carries -/
theorem add64_run (x y c : Int) (hx : 0 ≤ x) (hy : 0 ≤ y) (hc0 : 0 ≤ c) (hc : c ≤ 1) (w : World) :
    (callFunc 135 #[.int .u64 x, .int .u64 y, .int .u64 c]).run Takg.prog w =
      .ok (.value (.tuple #[.int .u64 ((x + y + c) % 18446744073709551616), .int .u64 ((x + y + c) / 18446744073709551616)])) w := by
  rw [run_callFunc_extern Takg.func135 (by kernel_rfl) (by kernel_rfl) (by kernel_rfl) (e := add64Entry) (by kernel_rfl), run_add64 x y c hx hy hc0 hc]
  rfl

theorem add_any (x y c : Int) (w : World) (hx : 0 ≤ x) (hy : 0 ≤ y) (hc0 : 0 ≤ c) (hc : c ≤ 1) :
    Calls Takg.prog 102 #[.int .u64 x, .int .u64 y, .int .u64 c] w fun e w' =>
      e = .returned (.tuple #[.int .u64 ((x + y + c) % 18446744073709551616), .int .u64 ((x + y + c) / 18446744073709551616)]) ∧ w' = w := by
  go_enter Takg.func102, Takg.ntmps102
  go_wp2_with (simp only [add64_run x y c hx hy hc0 hc])
  go_ret2
  exact ⟨rfl, rfl⟩

namespace Mul64
theorem maskN (a : Nat) (ha : a < 18446744073709551616) : bits .and .u64 (a : Int) 4294967295 = ((a % 4294967296 : Nat) : Int) := by
  have h := bits_and_u64_nat a 4294967295 ha (by omega)
  have e : a &&& 4294967295 = a % 4294967296 := Nat.and_two_pow_sub_one_eq_mod a 32
  rw [e] at h
  exact h
theorem divN (a : Nat) : (a : Int) / 4294967296 = ((a / 4294967296 : Nat) : Int) := by omega
theorem mulN (a b : Nat) : (a : Int) * (b : Int) = ((a * b : Nat) : Int) := (Int.natCast_mul a b).symm
theorem addN (a b : Nat) : (a : Int) + (b : Int) = ((a + b : Nat) : Int) := (Int.natCast_add a b).symm
theorem wrapN (a : Nat) (ha : a < 18446744073709551616) : IntKind.u64.wrap (a : Int) = (a : Int) := by rw [IntKind.wrap_u64]; omega
theorem wrapM (a : Nat) : IntKind.u64.wrap (a : Int) = ((a % 18446744073709551616 : Nat) : Int) := by rw [IntKind.wrap_u64]; omega
end Mul64

set_option maxHeartbeats 1000000 in
theorem mul64_nat (x y : Nat) (hx : x < 18446744073709551616) (hy : y < 18446744073709551616) (w : World) :
    Calls Takg.prog 136 #[.int .u64 x, .int .u64 y] w fun e w' => e = .returned (.tuple #[.int .u64 ((x * y / 18446744073709551616 : Nat) : Int), .int .u64 ((x * y % 18446744073709551616 : Nat) : Int)]) ∧ w' = w := by
  obtain ⟨bd, bt, bw, hhi⟩ := Lib.mul64_hi x y hx hy
  have ba := Lib.half_mul_le (a := x / 4294967296) (b := y / 4294967296) (by omega) (by omega)
  have bb := Lib.half_mul_le (a := x / 4294967296) (b := y % 4294967296) (by omega) (by omega)
  have bc := Lib.half_mul_le (a := x % 4294967296) (b := y / 4294967296) (by omega) (by omega)
  have ba' : x / 4294967296 * (y / 4294967296) < 18446744073709551616 := by omega
  have bb' : x / 4294967296 * (y % 4294967296) < 18446744073709551616 := by omega
  have bc' : x % 4294967296 * (y / 4294967296) < 18446744073709551616 := by omega
  have bh1 : x / 4294967296 * (y / 4294967296) + (x / 4294967296 * (y % 4294967296) + x % 4294967296 * (y % 4294967296) / 4294967296) / 4294967296 < 18446744073709551616 := by omega
  have bh : x / 4294967296 * (y / 4294967296) + (x / 4294967296 * (y % 4294967296) + x % 4294967296 * (y % 4294967296) / 4294967296) / 4294967296 + ((x / 4294967296 * (y % 4294967296) + x % 4294967296 * (y % 4294967296) / 4294967296) % 4294967296 + x % 4294967296 * (y / 4294967296)) / 4294967296 < 18446744073709551616 := by omega
  go_enter Takg.func136, Takg.ntmps136
  go_wp2
  simp only [Mul64.maskN x hx, Mul64.maskN y hy, Mul64.divN, Mul64.mulN, Mul64.addN, Mul64.wrapN _ bd, Mul64.wrapN _ bb', Mul64.wrapN _ bt, Mul64.maskN _ bt, Mul64.wrapN _ bc', Mul64.wrapN _ bw, Mul64.wrapN _ ba', Mul64.wrapN _ bh1, Mul64.wrapN _ bh, Mul64.wrapM (x * y)]
  rw [hhi]
  go_ret2
  exact ⟨rfl, rfl⟩

theorem mul64_any (x y : Int) (w : World) (hx0 : 0 ≤ x) (hx : x ≤ 18446744073709551615) (hy0 : 0 ≤ y) (hy : y ≤ 18446744073709551615) :
    Calls Takg.prog 136 #[.int .u64 x, .int .u64 y] w fun e w' => e = .returned (.tuple #[.int .u64 (x * y / 18446744073709551616), .int .u64 (x * y % 18446744073709551616)]) ∧ w' = w := by
  obtain ⟨a, rfl⟩ := Int.eq_ofNat_of_zero_le hx0
  obtain ⟨b, rfl⟩ := Int.eq_ofNat_of_zero_le hy0
  have := mul64_nat a b (by omega) (by omega) w
  rw [Int.natCast_ediv, Int.natCast_emod, Int.natCast_mul] at this
  exact this

theorem mul_any (x y : Int) (w : World) (hx0 : 0 ≤ x) (hx : x ≤ 18446744073709551615) (hy0 : 0 ≤ y) (hy : y ≤ 18446744073709551615) :
    Calls Takg.prog 103 #[.int .u64 x, .int .u64 y] w fun e w' => e = .returned (.tuple #[.int .u64 (x * y / 18446744073709551616), .int .u64 (x * y % 18446744073709551616)]) ∧ w' = w := by
  go_enter Takg.func103, Takg.ntmps103
  go_wp2_with fail
  refine (mul64_any x y _ hx0 hx hy0 hy).mono ?_
  rintro e w' ⟨rfl, rfl⟩
  go_wp2_with fail
  go_ret2
  exact ⟨rfl, rfl⟩

set_option maxHeartbeats 1000000 in
/-- (*Acc).Add, of two accumulators in two blocks. -/
theorem Add_any (b o t b2 o2 t2 : Nat) (p s p2 s2 : List Value) (x y : Int) (w : World) (hne : b ≠ b2) (ha : At w b o t p (W x) s) (hb : At w b2 o2 t2 p2 (W y) s2) :
    Calls Takg.prog 66 #[.pointer (some ⟨b, o, none⟩), .pointer (some ⟨b2, o2, none⟩)] w fun e w' => e = .returned (.tuple #[]) ∧ At w' b o t p (W (x + y)) s ∧ Chg [b] w w' := by
  go_enter Takg.func66, Takg.ntmps66
  go_wp2_with fail
  go_loopw [4, 5] (fun c i wr => ∃ (k : Nat) (f : Nat → Int), c = .int .u64 (carry x y k) ∧ i = .int .i64 k ∧ k ≤ 68 ∧ (∀ j, f j = if j < k then word (x + y) j else word x j) ∧ At wr b o t p (Wd f) s ∧ At wr b2 o2 t2 p2 (W y) s2 ∧ Chg [b] w wr) (fun _ i _ => 68 - (intOf i).toNat)
  case atStart => exact ⟨0, word x, by rw [carry_zero], rfl, by omega, fun j => by simp, ha, hb, Chg.refl _ _⟩
  case round =>
    clear ha hb
    obtain ⟨k, f, rfl, rfl, hk, hf, ha, hb, hch⟩ := hrel
    have HF := hide hf
    clear hf
    by_cases hlt : k < 68
    · obtain ⟨c, hc⟩ : ∃ c, c = carry x y k := ⟨_, rfl⟩
      have cb := carry_bd x y k
      obtain ⟨u, hu⟩ : ∃ u, u = word x k := ⟨_, rfl⟩
      obtain ⟨v, hv⟩ : ∃ u, u = word y k := ⟨_, rfl⟩
      have ub := word_bd x k
      have vb := word_bd y k
      have k0 : wr.cell? ⟨b, o + k, none⟩ = some (.int .u64 u) := by
        rw [ha.cell k hlt, HF.out k, if_neg (by omega), hu]
      have k1 : wr.cell? ⟨b2, o2 + k, none⟩ = some (.int .u64 v) := by rw [hv]; exact hb.cell k hlt
      have f0 := ha.blk.frozen (o + k) none
      have hnext := ha.set k hlt ((u + v + c) % 18446744073709551616)
      have hw : Hid (word (x + y) k = (u + v + c) % 18446744073709551616) := by rw [hu, hv, hc]; exact word_add x y k
      have hcn : Hid (carry x y (k + 1) = (u + v + c) / 18446744073709551616) := by rw [hu, hv, hc]; exact carry_next x y k
      rw [← hc] at cb ⊢
      rw [← hu] at ub
      rw [← hv] at vb
      clear hc hu hv
      obtain ⟨c0, c1⟩ := cb
      obtain ⟨u0, u1⟩ := ub
      obtain ⟨v0, v1⟩ := vb
      go_wp2_with fail
      go_region_with (go_at_call 102; refine (add_any _ _ _ _ u0 v0 c0 c1).mono ?_; rintro e w' ⟨rfl, rfl⟩)
      all_goals
        go_wp2_with fail
        go_roundw
        case rel =>
          refine ⟨k + 1, _, by rw [hcn.out], by go_num, by omega, ?_, hnext.drew, (hb.setNe _ (Ne.symm hne) _).drew, (hch.setCell _ (by simp) _).drew⟩
          intro j
          unfold upd
          by_cases e : j = k
          · subst e; rw [if_pos rfl, if_pos (by omega), hw.out]
          · rw [if_neg e, HF.out j]
            by_cases e2 : j < k
            · rw [if_pos e2, if_pos (by omega)]
            · rw [if_neg e2, if_neg (by omega)]
        case measure => simp [intOf]; omega
    · have hke : k = 68 := by omega
      subst hke
      go_wp2_with fail
      go_end0
      refine ⟨rfl, ?_, hch⟩
      have : Wd f = W (x + y) := Wd_congr fun j hj => by rw [HF.out j, if_pos hj]
      rw [← this]
      exact ha
end Ac
end Go.Proofs.Ygctak
