/-
  Walks: acc.add, acc.sub, Neg. An accumulator lies among the cells of a block.
-/
import Derived.Test.YgctakDoorRows
import Derived.Test.YgctakDoorMem
import Derived.Test.YgctakDoorAccPure2
import Derived.WalkLawsBesides
import Derived.RegionTactic
import Derived.BigRegion
import Derived.Deep.RegionWith
import Derived.Deep.DrawnRows
import Derived.Deep.DeepCutAuto
import Derived.Deep.CutBlock
import Derived.Laws.Pointers
import Derived.Laws.Externs
import Derived.Laws.Bits64b
namespace Go.Proofs.YgctakDoor
open Go.RowKit
set_option linter.unusedVariables false
set_option linter.unusedSimpArgs false
attribute [local go_sem ↓] Go.wp_at_zero Go.wp_at_succ
namespace Ac

/-- 68 cells. -/
def Wd (f : Nat → Int) : List Value := (List.range 68).map fun j => .int .u64 (f j)
/-- The cells of the accumulator that holds z. -/
def W (z : Int) : List Value := Wd (word z)

theorem Wd_length (f : Nat → Int) : (Wd f).length = 68 := by simp [Wd]
theorem W_length (z : Int) : (W z).length = 68 := Wd_length _
theorem Wd_congr {f g : Nat → Int} (h : ∀ j, j < 68 → f j = g j) : Wd f = Wd g := by
  unfold Wd
  apply List.map_congr_left
  intro j hj
  rw [h j (by simpa using hj)]
theorem Wd_get (f : Nat → Int) (j : Nat) (h : j < 68) : (Wd f)[j]? = some (.int .u64 (f j)) := by simp [Wd, h]
def upd (f : Nat → Int) (i : Nat) (v : Int) (j : Nat) : Int := if j = i then v else f j
theorem Wd_set (f : Nat → Int) (i : Nat) (v : Int) : (Wd f).set i (.int .u64 v) = Wd (upd f i v) := by
  apply List.ext_getElem?
  intro j
  by_cases h : j < 68
  · rw [Wd_get _ _ h]
    by_cases e : i = j
    · subst e; rw [List.getElem?_set_self (by rw [Wd_length]; exact h)]; simp [upd]
    · rw [List.getElem?_set_ne e, Wd_get _ _ h]; simp [upd, Ne.symm e]
  · rw [List.getElem?_eq_none (by simp [Wd]; omega), List.getElem?_eq_none (by simp [Wd]; omega)]

/-- The cells 'm' lie in block b from offset o on; the block has the cells p before and s behind them. -/
structure At (w : World) (b o : Nat) (t : TypeId) (p m s : List Value) : Prop where
  off : p.length = o
  blk : Blk w b t (p ++ m ++ s)

theorem At.cell {w : World} {b o : Nat} {t : TypeId} {p s : List Value} {f : Nat → Int} (h : At w b o t p (Wd f) s) (j : Nat) (hj : j < 68) : w.cell? ⟨b, o + j, none⟩ = some (.int .u64 (f j)) := by
  refine h.blk.cell _ _ ?_
  rw [List.append_assoc, List.getElem?_append_right (by have := h.off; omega), show o + j - p.length = j by have := h.off; omega, List.getElem?_append_left (by rw [Wd_length]; exact hj), Wd_get _ _ hj]
theorem At.set {w : World} {b o : Nat} {t : TypeId} {p s : List Value} {f : Nat → Int} (h : At w b o t p (Wd f) s) (j : Nat) (hj : j < 68) (v : Int) : At (w.setCell ⟨b, o + j, none⟩ (.int .u64 v)) b o t p (Wd (upd f j v)) s := by
  refine ⟨h.off, ?_⟩
  have := h.blk.set (o + j) (.int .u64 v)
  rw [List.append_assoc, List.set_append_right _ _ (by have := h.off; omega), show o + j - p.length = j by have := h.off; omega, List.set_append_left _ _ (by rw [Wd_length]; exact hj), Wd_set, ← List.append_assoc] at this
  exact this
theorem At.drew {w : World} {b o : Nat} {t : TypeId} {p m s : List Value} (h : At w b o t p m s) : At w.drew b o t p m s := ⟨h.off, h.blk⟩
theorem At.setNe {w : World} {b o : Nat} {t : TypeId} {p m s : List Value} (h : At w b o t p m s) (a : Addr) (hne : b ≠ a.block) (v : Value) : At (w.setCell a v) b o t p m s := ⟨h.off, h.blk.set_ne a hne v⟩
theorem At.alloc {w : World} {b o : Nat} {t : TypeId} {p m s : List Value} (h : At w b o t p m s) (ob : Obj) : At (w.alloc ob) b o t p m s := ⟨h.off, h.blk.alloc ob⟩
theorem At.chg {w w2 : World} {b o : Nat} {t : TypeId} {p m s : List Value} (h : At w b o t p m s) {S : List Nat} (hc : Chg S w w2) (hn : b ∉ S) : At w2 b o t p m s := ⟨h.off, hc.blk h.blk hn⟩

/-! ### the two carries -/
theorem add64_run (x y c : Int) (hx : 0 ≤ x) (hy : 0 ≤ y) (hc0 : 0 ≤ c) (hc : c ≤ 1) (w : World) :
    (callFunc 50 #[.int .u64 x, .int .u64 y, .int .u64 c]).run Takg.prog w =
      .ok (.value (.tuple #[.int .u64 ((x + y + c) % 18446744073709551616), .int .u64 ((x + y + c) / 18446744073709551616)])) w := by
  rw [run_callFunc_extern Takg.func50 (by kernel_rfl) (by kernel_rfl) (by kernel_rfl) (e := add64Entry) (by kernel_rfl), run_add64 x y c hx hy hc0 hc]
  rfl

theorem add_any (x y c : Int) (w : World) (hx : 0 ≤ x) (hy : 0 ≤ y) (hc0 : 0 ≤ c) (hc : c ≤ 1) :
    Calls Takg.prog 45 #[.int .u64 x, .int .u64 y, .int .u64 c] w fun e w' =>
      e = .returned (.tuple #[.int .u64 ((x + y + c) % 18446744073709551616), .int .u64 ((x + y + c) / 18446744073709551616)]) ∧ w' = w := by
  go_enter Takg.func45, Takg.ntmps45
  go_wp2_with (simp only [add64_run x y c hx hy hc0 hc])
  go_ret2
  exact ⟨rfl, rfl⟩


def sub64Entry : Array Value → Sem Value := fun args => do
  let (x, y, b) ← Extern.MathBitsCarry.three "Sub64" args
  pure (Extern.MathBitsCarry.pair ((x + Extern.MathBitsCarry.m64 - y - b) % Extern.MathBitsCarry.m64) (if x < y + b then 1 else 0))

theorem run_sub64 {P : Program} (x y c : Int) (hx : 0 ≤ x) (hx1 : x ≤ 18446744073709551615) (hy : 0 ≤ y) (hy1 : y ≤ 18446744073709551615) (hc0 : 0 ≤ c) (hc : c ≤ 1) (w : World) :
    (sub64Entry #[.int .u64 x, .int .u64 y, .int .u64 c]).run P w =
      .ok (.tuple #[.int .u64 ((x - y - c) % 18446744073709551616), .int .u64 (-((x - y - c) / 18446744073709551616))]) w := by
  have key : ∀ k : Nat, k ≤ 1 → (sub64Entry #[.int .u64 x, .int .u64 y, .int .u64 (k : Int)]).run P w =
      .ok (Extern.MathBitsCarry.pair ((x.toNat + Extern.MathBitsCarry.m64 - y.toNat - k) % Extern.MathBitsCarry.m64) (if x.toNat < y.toNat + k then 1 else 0)) w := by
    intro k hk
    have : k = 0 ∨ k = 1 := by omega
    rcases this with rfl | rfl <;> rfl
  obtain ⟨k, rfl⟩ := Int.eq_ofNat_of_zero_le hc0
  rw [key k (by omega)]
  obtain ⟨X, rfl⟩ := Int.eq_ofNat_of_zero_le hx
  obtain ⟨Y, rfl⟩ := Int.eq_ofNat_of_zero_le hy
  simp only [Extern.MathBitsCarry.pair, Extern.MathBitsCarry.m64, Int.toNat_natCast]
  have e1 : Int.ofNat ((X + 2 ^ 64 - Y - k) % 2 ^ 64) = ((X : Int) - Y - k) % 18446744073709551616 := by
    simp only [Int.ofNat_eq_natCast]; omega
  have e2 : Int.ofNat (if X < Y + k then 1 else 0) = -(((X : Int) - Y - k) / 18446744073709551616) := by
    simp only [Int.ofNat_eq_natCast]; split <;> omega
  rw [e1, e2]

theorem sub64_run (x y c : Int) (hx : 0 ≤ x) (hx1 : x ≤ 18446744073709551615) (hy : 0 ≤ y) (hy1 : y ≤ 18446744073709551615) (hc0 : 0 ≤ c) (hc : c ≤ 1) (w : World) :
    (callFunc 49 #[.int .u64 x, .int .u64 y, .int .u64 c]).run Takg.prog w =
      .ok (.value (.tuple #[.int .u64 ((x - y - c) % 18446744073709551616), .int .u64 (-((x - y - c) / 18446744073709551616))])) w := by
  rw [run_callFunc_extern Takg.func49 (by kernel_rfl) (by kernel_rfl) (by kernel_rfl) (e := sub64Entry) (by kernel_rfl), run_sub64 x y c hx hx1 hy hy1 hc0 hc]
  rfl

theorem sub_any (x y c : Int) (w : World) (hx : 0 ≤ x) (hx1 : x ≤ 18446744073709551615) (hy : 0 ≤ y) (hy1 : y ≤ 18446744073709551615) (hc0 : 0 ≤ c) (hc : c ≤ 1) :
    Calls Takg.prog 44 #[.int .u64 x, .int .u64 y, .int .u64 c] w fun e w' =>
      e = .returned (.tuple #[.int .u64 ((x - y - c) % 18446744073709551616), .int .u64 (-((x - y - c) / 18446744073709551616))]) ∧ w' = w := by
  go_enter Takg.func44, Takg.ntmps44
  go_wp2_with (simp only [sub64_run x y c hx hx1 hy hy1 hc0 hc])
  go_ret2
  exact ⟨rfl, rfl⟩

set_option maxHeartbeats 1000000 in
/-- (*Acc).Neg. -/
theorem Neg_any (b o t : Nat) (p s : List Value) (z : Int) (w : World) (ha : At w b o t p (W z) s) :
    Calls Takg.prog 36 #[.pointer (some ⟨b, o, none⟩)] w fun e w' => e = .returned (.tuple #[]) ∧ At w' b o t p (W (-z)) s ∧ Chg [b] w w' := by
  go_enter Takg.func36, Takg.ntmps36
  go_wp2_with fail
  go_loopw [2, 3] (fun c i wr => ∃ (k : Nat) (f : Nat → Int), c = .int .u64 (borrow 0 z k) ∧ i = .int .i64 k ∧ k ≤ 68 ∧ (∀ j, f j = if j < k then word (0 - z) j else word z j) ∧ At wr b o t p (Wd f) s ∧ Chg [b] w wr) (fun _ i _ => 68 - (intOf i).toNat)
  case atStart => exact ⟨0, word z, by rw [borrow_zero], rfl, by omega, fun j => by simp, ha, Chg.refl _ _⟩
  case round =>
    clear ha
    obtain ⟨k, f, rfl, rfl, hk, hf, ha, hch⟩ := hrel
    have HF := hide hf
    clear hf
    by_cases hlt : k < 68
    · obtain ⟨c, hc⟩ : ∃ c, c = borrow 0 z k := ⟨_, rfl⟩
      have cb := borrow_bd 0 z k
      obtain ⟨u, hu⟩ : ∃ u, u = word z k := ⟨_, rfl⟩
      have ub := word_bd z k
      have k0 : wr.cell? ⟨b, o + k, none⟩ = some (.int .u64 u) := by
        rw [ha.cell k hlt, HF.out k, if_neg (by omega), hu]
      have f0 := ha.blk.frozen (o + k) none
      have hnext := ha.set k hlt ((0 - u - c) % 18446744073709551616)
      have hz : word 0 k = 0 := by simp [word]
      have hw : Hid (word (0 - z) k = (0 - u - c) % 18446744073709551616) := by rw [hu, hc]; have := word_sub 0 z k; rw [hz] at this; exact this
      have hcn : Hid (borrow 0 z (k + 1) = -((0 - u - c) / 18446744073709551616)) := by rw [hu, hc]; have := borrow_next 0 z k; rw [hz] at this; exact this
      rw [← hc] at cb ⊢
      rw [← hu] at ub
      clear hc hu hz
      obtain ⟨c0, c1⟩ := cb
      obtain ⟨u0, u1⟩ := ub
      have HC := hide (fun W : World => sub_any 0 u c W (by decide) (by decide) u0 u1 c0 c1)
      obtain ⟨r1, hr1⟩ : ∃ r, r = (0 - u - c) % 18446744073709551616 := ⟨_, rfl⟩
      obtain ⟨r2, hr2⟩ : ∃ r, r = -((0 - u - c) / 18446744073709551616) := ⟨_, rfl⟩
      rw [← hr1, ← hr2] at HC
      rw [← hr1] at hw hnext
      rw [← hr2] at hcn
      clear hr1 hr2
      go_wp2_with fail
      go_region_with (go_at_call 44; refine (HC.out _).mono ?_; rintro e w' ⟨rfl, rfl⟩)
      all_goals
        go_wp2_with fail
        go_roundw
        case rel =>
          refine ⟨k + 1, _, by rw [hcn.out], by go_num, by omega, ?_, hnext.drew, (hch.setCell _ (by simp) _).drew⟩
          intro j
          unfold upd
          by_cases e : j = k
          · subst e; rw [if_pos rfl, if_pos (by omega), hw.out]
          · rw [if_neg e, HF.out j]
            by_cases e2 : j < k
            · rw [if_pos e2, if_pos (by omega)]
            · rw [if_neg e2, if_neg (by omega)]
        case measure => simp [intOf]; omega
    · have hke : k = 68 := by omega
      subst hke
      go_wp2_with fail
      go_end0
      refine ⟨rfl, ?_, hch⟩
      have : Wd f = W (-z) := Wd_congr fun j hj => by rw [HF.out j, if_pos hj, Int.zero_sub]
      rw [← this]
      exact ha
end Ac
end Go.Proofs.YgctakDoor
