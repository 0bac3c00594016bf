/-
  Points of package shadow: their cells; small functions.
-/
import Derived.Test.YgctakAcc8
import Derived.Test.YgctakTw3
import Derived.Laws.Cover3
import Derived.ChangeKeysEq
import Derived.BigQuiet
import Derived.Deep.RegionHeld3
namespace Go.Proofs.Ygctak
open Go.RowKit
set_option linter.unusedVariables false
set_option linter.unusedSimpArgs false
attribute [local go_sem ↓] Go.wp_at_zero Go.wp_at_succ
namespace Sh
open Ac Fl

/-- A point: a complex double and its bound. -/
abbrev P := (Nat × Nat) × Int
abbrev p0 : P := ((0, 0), 0)
def Pc (p : P) : List Value := .complex .f64 p.1.1 p.1.2 :: W p.2
def Pts (x : List P) : List Value := x.flatMap Pc

theorem Pc_length (p : P) : (Pc p).length = 69 := by simp [Pc, W_length]
theorem Pts_length : ∀ x : List P, (Pts x).length = x.length * 69
  | [] => rfl
  | p :: x => by
    have := Pts_length x
    unfold Pts at *
    rw [List.flatMap_cons, List.length_append, Pc_length, this, List.length_cons]; omega
theorem Pts_append (x y : List P) : Pts (x ++ y) = Pts x ++ Pts y := by simp [Pts]
theorem Pts_one (p : P) : Pts [p] = Pc p := by simp [Pts]

theorem split_at (x : List P) (i : Nat) (h : i < x.length) : x = x.take i ++ [x.getD i p0] ++ x.drop (i + 1) := by
  simp [List.getD_eq_getElem?_getD, List.getElem?_eq_getElem h]
theorem set_at (x : List P) (i : Nat) (p : P) (h : i < x.length) : x.set i p = x.take i ++ [p] ++ x.drop (i + 1) := by
  simp [List.set_eq_take_append_cons_drop, h]

/-- One point among the points. -/
theorem pt {w : World} {b t : Nat} {x : List P} (h : Blk w b t (Pts x)) (i : Nat) (hi : i < x.length) :
    At w b (i * 69) t (Pts (x.take i)) (Pc (x.getD i p0)) (Pts (x.drop (i + 1))) := by
  refine ⟨?_, ?_⟩
  · rw [Pts_length, List.length_take, Nat.min_eq_left (by omega)]
  · rw [← Pts_one, ← Pts_append, ← Pts_append, ← split_at x i hi]; exact h
theorem unpt {w : World} {b t : Nat} {x : List P} {p : P} (i : Nat) (hi : i < x.length) (h : At w b (i * 69) t (Pts (x.take i)) (Pc p) (Pts (x.drop (i + 1)))) : Blk w b t (Pts (x.set i p)) := by
  have := h.blk
  rw [← Pts_one, ← Pts_append, ← Pts_append, ← set_at x i p hi] at this
  exact this
theorem at_tail {w : World} {b o t : Nat} {p s m : List Value} {v : Value} (h : At w b o t p (v :: m) s) : At w b (o + 1) t (p ++ [v]) m s :=
  ⟨by simp [h.off], by have := h.blk; simpa using this⟩
theorem at_cons {w : World} {b o t : Nat} {p s m : List Value} {v : Value} (h : At w b (o + 1) t (p ++ [v]) m s) : At w b o t p (v :: m) s :=
  ⟨by have := h.off; simpa using this, by have := h.blk; simpa using this⟩

/-- The float of a point. -/
theorem ptZ {w : World} {b t : Nat} {x : List P} (h : Blk w b t (Pts x)) (i : Nat) (hi : i < x.length) : w.cell? ⟨b, i * 69, none⟩ = some (.complex .f64 (x.getD i p0).1.1 (x.getD i p0).1.2) := by
  have := (pt h i hi).rangeAt 0 _ rfl
  simpa using this
theorem setZ {w : World} {b t : Nat} {x : List P} (h : Blk w b t (Pts x)) (i : Nat) (hi : i < x.length) (z : Nat × Nat) : Blk (w.setCell ⟨b, i * 69, none⟩ (.complex .f64 z.1 z.2)) b t (Pts (x.set i (z, (x.getD i p0).2))) := by
  have h1 := (pt h i hi)
  have h2 := h1.blk.set (i * 69) (.complex .f64 z.1 z.2)
  refine unpt i hi ⟨h1.off, ?_⟩
  rw [List.append_assoc, List.set_append_right _ _ (by have := h1.off; omega), show i * 69 - (Pts (x.take i)).length = 0 by have := h1.off; omega] at h2
  unfold Pc at h2 ⊢
  simpa using h2
/-- The bound of a point. -/
theorem ptE {w : World} {b t : Nat} {x : List P} (h : Blk w b t (Pts x)) (i : Nat) (hi : i < x.length) :
    At w b (i * 69 + 1) t (Pts (x.take i) ++ [.complex .f64 (x.getD i p0).1.1 (x.getD i p0).1.2]) (W (x.getD i p0).2) (Pts (x.drop (i + 1))) := at_tail (pt h i hi)
theorem unE {w : World} {b t : Nat} {x : List P} (i : Nat) (hi : i < x.length) {z : Nat × Nat} {e : Int} (h : At w b (i * 69 + 1) t (Pts (x.take i) ++ [.complex .f64 z.1 z.2]) (W e) (Pts (x.drop (i + 1)))) : Blk w b t (Pts (x.set i (z, e))) :=
  unpt i hi (at_cons h)
theorem setE {w : World} {b t : Nat} {x : List P} (h : Blk w b t (Pts x)) (i : Nat) (hi : i < x.length) (e : Int) : Blk (w.setCells b (i * 69 + 1) (W e)) b t (Pts (x.set i ((x.getD i p0).1, e))) :=
  unE i hi (At.setCells (W e) _ _ _ _ (ptE h i hi) (by rw [W_length, W_length]))

/-! ### Accumulators compare by == -/
theorem items (f g : Nat → Int) (w : World) : ∀ l : List Nat, (∀ i ∈ l, i < 68) → (Op.eqItems 9999 52 1 (Wd f).toArray (Wd g).toArray l).run Takg.prog w = .ok (l.all fun i => f i == g i) w
  | [], _ => rfl
  | i :: l, h => by
    have hi : i < 68 := h i (by simp)
    have ih := items f g w l (fun j hj => h j (by simp [hj]))
    have px : ∀ f : Nat → Int, (part 52 (Wd f).toArray (i * 1)).run Takg.prog w = .ok (.int .u64 (f i)) w := fun f => by
      have := Wd_get f i hi
      simp [part, isAgg, run_underlying Takg.underlying52, this]
    have pe : (Op.equalIn 9999 52 (.int .u64 (f i)) (.int .u64 (g i))).run Takg.prog w = .ok (f i == g i) w := run_equalIn_int w 9998 52 .u64 .u64 _ _ Takg.underlying52
    simp only [Op.eqItems, Sem.run_bind, px, pe, Result.andThen_ok, List.all_cons]
    cases (f i == g i)
    · simp
    · simpa using ih
set_option maxRecDepth 100000 in
theorem acc_eq (x y : Int) (hx : Fits x) (hy : Fits y) (w : World) : (Op.equalIn 10000 58 (.agg (W x).toArray) (.agg (W y).toArray)).run Takg.prog w = .ok (decide (x = y)) w := by
  obtain ⟨i, hi, hs⟩ : ∃ i, Takg.prog.info? 52 = some i ∧ Takg.prog.cellsOf 52 = 1 := by
    cases h : Takg.prog.info? 52 with
    | none => exact absurd h (by decide +kernel)
    | some i => exact ⟨i, rfl, by kernel_rfl⟩
  refine (run_equalIn_array w 9999 (W x).toArray (W y).toArray Takg.underlying58 hi).trans ?_
  rw [hs]
  unfold W
  rw [items _ _ w _ (fun i hi => by simpa using hi)]
  congr 1
  rw [Bool.eq_iff_iff, decide_eq_true_eq, List.all_eq_true]
  constructor
  · intro h
    exact fits_inj hx hy fun j hj => by simpa using h j (by simpa using hj)
  · rintro rfl j _
    simp

/-! ### level, Most, MostBack, above, plain -/
theorem level_any (k : Nat) (w : World) (h0 : k ≤ 11) :
    Calls Takg.prog 98 #[.int .i64 ((2 ^ k : Nat) : Int)] w fun e w' => e = .returned (.int .i64 k) ∧ w' = w := by
  obtain ⟨n, hn⟩ : ∃ n, n = 2 ^ k := ⟨_, rfl⟩
  rw [← hn]
  have HN := hide hn
  clear hn
  have hwrap : ∀ m : Nat, m ≤ k → wrap64 (2 ^ m) = ((2 ^ m : Nat) : Int) := fun m hm => by
    have h1 : 2 ^ m ≤ 2 ^ 11 := Nat.pow_le_pow_right (n := 2) (by omega) (by omega)
    have h2 : (2 ^ m : Int) = ((2 ^ m : Nat) : Int) := (ipow _).symm
    rw [h2]
    generalize 2 ^ m = A at *
    unfold wrap64
    omega
  have HW := hide hwrap
  clear hwrap
  go_enter Takg.func98, Takg.ntmps98
  go_wp2_with fail
  go_loop [3] (fun i => ∃ m : Nat, m ≤ k ∧ i = .int .i64 m) (fun i => 12 - (intOf i).toNat)
  case atStart => exact ⟨0, by omega, rfl⟩
  case round =>
    obtain ⟨m, hm, rfl⟩ := hrel
    by_cases hlt : m < k
    · have hne : ((n : Int) == wrap64 (2 ^ m)) = false := by
        rw [HW.out m hm, HN.out, beq_eq_false_iff_ne]
        have := Nat.pow_lt_pow_right (a := 2) (by omega) hlt
        omega
      go_wp2
      go_round
      case rel => exact ⟨m + 1, by omega, by go_num⟩
      case measure => simp [intOf]; omega
    · have hk : m = k := by omega
      subst hk
      have hne : ((n : Int) == wrap64 (2 ^ m)) = true := by
        rw [HW.out m hm, HN.out]
        simp
      go_wp2
      go_ret
      exact ⟨rfl, rfl⟩

theorem ret_int {k : IntKind} {a b : Int} (h : a = b) : Ending.returned (.int k a) = .returned (.int k b) := by rw [h]

/-- shadow.Most. -/
def most (t d : Nat) : Nat := (if 1 ≤ t ∧ t ≤ 9 then 2 ^ (t - 1) else 512) * d + 1
theorem most_le (t d : Nat) (hd : d ≤ 255) : most t d ≤ 130561 := by
  unfold most
  split
  · have : 2 ^ (t - 1) ≤ 2 ^ 9 := Nat.pow_le_pow_right (n := 2) (by omega) (by omega)
    have := Nat.mul_le_mul this hd
    omega
  · omega

theorem Most_any (t d : Nat) (w : World) (ht : 1 ≤ t) (ht2 : t ≤ 255) (hd : d ≤ 255) :
    Calls Takg.prog 25 #[.int .u8 t, .int .u8 d] w fun e w' => e = .returned (.int .u64 (most t d)) ∧ w' = w := by
  by_cases h9 : t ≤ 9
  · match t, ht, h9 with
    | 1, _, _ | 2, _, _ | 3, _, _ | 4, _, _ | 5, _, _ | 6, _, _ | 7, _, _ | 8, _, _ | 9, _, _ =>
      go_enter Takg.func25, Takg.ntmps25
      go_wp2
      go_ret
      refine ⟨ret_int ?_, rfl⟩
      simp [most]
  · have h : most t d = 512 * d + 1 := by unfold most; rw [if_neg (by omega)]
    rw [h]
    clear h
    go_enter Takg.func25, Takg.ntmps25
    go_wp2
    go_ret
    refine ⟨ret_int ?_, rfl⟩
    omega

def mostBack (t k d : Nat) : Nat := most (k + 1) d * most (k + 1) d * 2 ^ (t - 1)
theorem mostBack_le (t k d : Nat) (hd : d ≤ 255) (ht : t ≤ 10) : mostBack t k d ≤ 130561 * 130561 * 2 ^ 9 := by
  unfold mostBack
  have h1 := most_le (k + 1) d hd
  exact Nat.mul_le_mul (Nat.mul_le_mul h1 h1) (Nat.pow_le_pow_right (n := 2) (by omega) (by omega))
theorem MostBack_any (t k d : Nat) (w : World) (ht : 1 ≤ t) (ht2 : t ≤ 10) (hk : k ≤ 10) (hd : d ≤ 255) :
    Calls Takg.prog 75 #[.int .u8 t, .int .u8 k, .int .u8 d] w fun e w' => e = .returned (.int .u64 (mostBack t k d)) ∧ w' = w := by
  have h1 := most_le (k + 1) d hd
  obtain ⟨v, hv⟩ : ∃ v, v = most (k + 1) d := ⟨_, rfl⟩
  have hcall := fun W => Most_any (k + 1) d W (by omega) (by omega) hd
  have e : mostBack t k d = v * v * 2 ^ (t - 1) := by unfold mostBack; rw [hv]
  rw [e]
  rw [← hv] at h1 hcall
  rw [show ((k + 1 : Nat) : Int) = (k : Int) + 1 by omega] at hcall
  have HC := hide hcall
  clear e hv hcall
  have hvv : v * v ≤ 17046174721 := Nat.le_trans (Nat.mul_le_mul h1 h1) (by omega)
  have hw1 : IntKind.u64.wrap ((v : Int) * (v : Int)) = (v : Int) * (v : Int) := by
    rw [IntKind.wrap_u64]
    have : (v : Int) * (v : Int) = ((v * v : Nat) : Int) := by simp
    rw [this]
    omega
  match t, ht, ht2 with
  | 1, _, _ | 2, _, _ | 3, _, _ | 4, _, _ | 5, _, _ | 6, _, _ | 7, _, _ | 8, _, _ | 9, _, _ | 10, _, _ =>
    go_enter Takg.func75, Takg.ntmps75
    go_wp2_with fail
    refine (HC.out _).mono ?_
    rintro e w' ⟨rfl, rfl⟩
    go_wp2
    go_ret
    refine ⟨ret_int ?_, rfl⟩
    have : (v : Int) * (v : Int) = ((v * v : Nat) : Int) := by simp
    simp only [IntKind.wrap_u64, this]
    generalize v * v = A at *
    omega

/-- shadow.plain. -/
def feq (a b : Nat) : Bool := FloatKind.f64.format.order a b == some .eq
def ceq (z w : Nat × Nat) : Bool := feq z.1 w.1 && feq z.2 w.2
def pla (z : Nat × Nat) : Bool := ceq z (4607182418800017408, 0) || ceq z (13830554455654793216, 0) || ceq z (0, 4607182418800017408) || ceq z (0, 13830554455654793216)
theorem run_ceq {P : Program} (w : World) (t : TypeId) (a b c d : Nat) : (binOp .eql t (.complex .f64 a b) (.complex .f64 c d)).run P w = .ok (.bool (ceq (a, b) (c, d))) w := by rw [run_eql_complex]; rfl
theorem plain_any (a b : Nat) (w : World) : Calls Takg.prog 100 #[.complex .f64 a b] w fun e w' => e = .returned (.bool (pla (a, b))) ∧ w' = w := by
  have r1 := fun w => run_ceq (P := Takg.prog) w 103 a b 4607182418800017408 0
  have r2 := fun w => run_ceq (P := Takg.prog) w 103 a b 13830554455654793216 0
  have r3 := fun w => run_ceq (P := Takg.prog) w 103 a b 0 4607182418800017408
  have r4 := fun w => run_ceq (P := Takg.prog) w 103 a b 0 13830554455654793216
  unfold pla
  generalize ceq (a, b) (4607182418800017408, 0) = c1 at *
  generalize ceq (a, b) (13830554455654793216, 0) = c2 at *
  generalize ceq (a, b) (0, 4607182418800017408) = c3 at *
  generalize ceq (a, b) (0, 13830554455654793216) = c4 at *
  cases c1 <;> cases c2 <;> cases c3 <;> cases c4 <;>
  · go_enter Takg.func100, Takg.ntmps100
    go_wp2
    go_ret
    exact ⟨rfl, rfl⟩

/-- Every digit is at most d. -/
def Digs (d : Nat) (ds : List Int) : Prop := ∀ i, i < ds.length → 0 ≤ ds.getD i 0 ∧ ds.getD i 0 ≤ d
theorem above_any (b off cap d : Nat) (ds : List Int) (w : World) (hd : d ≤ 255) (hl : ds.length ≤ 9223372036854775807) (hg : Dig w b off ds) (hds : Digs d ds) :
    Calls Takg.prog 56 #[.slice (some ⟨b, off, none⟩) ds.length cap, .int .u8 d] w fun e w' => e = .returned (.bool false) ∧ w' = w := by
  go_enter Takg.func56, Takg.ntmps56
  go_wp2_with fail
  go_loop [5] (fun i => ∃ m : Nat, m ≤ ds.length ∧ i = .int .i64 m) (fun i => ds.length - (intOf i).toNat)
  case atStart => exact ⟨0, by omega, rfl⟩
  case round =>
    obtain ⟨m, hm, rfl⟩ := hrel
    by_cases hlt : m < ds.length
    · obtain ⟨v, hv⟩ : ∃ v, v = ds.getD m 0 := ⟨_, rfl⟩
      have hc := hg.cell m hlt
      obtain ⟨hv0, hv1⟩ := hds m hlt
      rw [← hv] at hv0 hv1 hc
      clear hv hg hds
      go_wp2
      go_round
      case rel => exact ⟨m + 1, by omega, by go_num⟩
      case measure => simp [intOf]; omega
    · clear hg hds
      go_wp2
      go_ret
      exact ⟨rfl, rfl⟩
end Sh
end Go.Proofs.Ygctak
