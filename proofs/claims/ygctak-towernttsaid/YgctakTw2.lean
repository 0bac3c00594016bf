/-
  Walks: tw.Conj, tw.Base.
-/
import Derived.Test.YgctakTw
namespace Go.Proofs.Ygctak
open Go.RowKit
set_option linter.unusedVariables false
set_option linter.unusedSimpArgs false
attribute [local go_sem ↓] Go.wp_at_zero Go.wp_at_succ
namespace Fl

/-- tw.Base, for t ≤ 11. -/
def base (t : Nat) : Nat × Nat := [(4607182418800017408, 0), (13830554455654793216, 0), (0, 13830554455654793216), (4604544271217802189, 13827916308072577997),
  (4606496786581982534, 13823937468626282851), (4607009347991985328, 13819568926757594635), (4607139046673687846, 13815099336824566828), (4607171569234046334, 13810604255004710932),
  (4607179706000002317, 13806102785791583870), (4607181740574479067, 13801599718827935620), (4607182249242036882, 13797096252370255985), (4607182376410422530, 13792592686035543226)].getD t (0, 0)

theorem Base_any (t : Nat) (w : World) (ht : t ≤ 11) :
    Calls Takg.prog 58 #[.int .u8 t] w fun e w' => e = .returned (.complex .f64 (base t).1 (base t).2) ∧ w' = w := by
  match t, ht with
  | 0, _ | 1, _ | 2, _ | 3, _ | 4, _ | 5, _ | 6, _ | 7, _ | 8, _ | 9, _ | 10, _ | 11, _ =>
    go_enter Takg.func58, Takg.ntmps58
    go_wp2
    go_ret
    exact ⟨rfl, rfl⟩
  | t + 12, h => omega

def fneg (x : Nat) : Nat := Op.negFloat .f64 x
theorem neg_run (b : Nat) : Op.unary .neg (.float .f64 b) = pure (.float .f64 (fneg b)) := rfl

theorem Conj_any (a b : Nat) (w : World) :
    Calls Takg.prog 97 #[.complex .f64 a b] w fun e w' => e = .returned (.complex .f64 a (fneg b)) ∧ w' = w := by
  have hn := neg_run b
  go_enter Takg.func97, Takg.ntmps97
  go_wp2
  go_ret
  exact ⟨rfl, rfl⟩

theorem run_store_complex {P : Program} (w : World) (a : Addr) (m : Mode) (k : FloatKind) (x y : Nat) : (store a (.complex k x y) m).run P w = stored P w a (.complex k x y) m := run_store P w a _ m rfl
theorem run_store_float {P : Program} (w : World) (a : Addr) (m : Mode) (k : FloatKind) (x : Nat) : (store a (.float k x) m).run P w = stored P w a (.float k x) m := run_store P w a _ m rfl

/-- The cells of a row of complex numbers. -/
def C (zs : List (Nat × Nat)) : List Value := zs.map fun z => .complex .f64 z.1 z.2
theorem C_length (zs : List (Nat × Nat)) : (C zs).length = zs.length := by simp [C]
theorem C_get (zs : List (Nat × Nat)) (i : Nat) (h : i < zs.length) : (C zs)[i]? = some (.complex .f64 (zs.getD i (0, 0)).1 (zs.getD i (0, 0)).2) := by simp [C, h]
theorem C_set (zs : List (Nat × Nat)) (i : Nat) (z : Nat × Nat) : (C zs).set i (.complex .f64 z.1 z.2) = C (zs.set i z) := by simp [C, List.map_set]

/-- So many more roots as there are. -/
def tabGo (k : Nat) : Nat → Nat → List (Nat × Nat) → List (Nat × Nat)
  | 0, _, T => T
  | f + 1, b, T => tabGo k f (b + 1) (T ++ T.map fun z => cmul z (base (k - b)))
/-- tw.Table, plainly. -/
def tab (k : Nat) : List (Nat × Nat) := tabGo k (k - 1) 0 [(4607182418800017408, 0)]

theorem base_fin (t : Nat) (ht : t ≤ 11) : Fc 0 (base t) := by
  have key : ∀ n, n < 12 → (match Ieee.double.read (base n).1, Ieee.double.read (base n).2 with
      | .number _ m p, .number _ m' p' => decide (m * 2 ^ (p + 1074).toNat ≤ 2 ^ 1074 ∧ m' * 2 ^ (p' + 1074).toNat ≤ 2 ^ 1074)
      | _, _ => false) = true := by
    intro n hn
    match n, hn with
    | 0, _ | 1, _ | 2, _ | 3, _ | 4, _ | 5, _ | 6, _ | 7, _ | 8, _ | 9, _ | 10, _ | 11, _ => decide +kernel
  have h := key t (by omega)
  split at h
  · rename_i s m p s' m' p' h1 h2
    rw [decide_eq_true_eq] at h
    have f1 : Finite (base t).1 := ⟨_, _, _, h1⟩
    have f2 : Finite (base t).2 := ⟨_, _, _, h2⟩
    have p1 := read_place h1
    have p2 := read_place h2
    refine ⟨⟨f1, ?_⟩, ⟨f2, ?_⟩⟩
    · have := V_of h1 (p + 1074).toNat (by omega)
      rw [this, Nat.zero_add]
      have e := sg_abs s (m * 2 ^ (p + 1074).toNat)
      unfold sg at e
      rw [e]; exact h.1
    · have := V_of h2 (p' + 1074).toNat (by omega)
      rw [this, Nat.zero_add]
      have e := sg_abs s' (m' * 2 ^ (p' + 1074).toNat)
      unfold sg at e
      rw [e]; exact h.2
  · cases h

end Fl
end Go.Proofs.Ygctak
