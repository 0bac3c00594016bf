/-
  Walks: shadow.Reverse.
-/
import Derived.Test.YgctakHeld
namespace Go.Proofs.Ygctak
open Go.RowKit
set_option linter.unusedVariables false
set_option linter.unusedSimpArgs false
attribute [local go_sem ↓] Go.wp_at_zero Go.wp_at_succ
attribute [local go_sem] Fl.run_store_complex Fl.run_store_float
namespace Sh
open Ac Fl

theorem ofInt_64 (a : Nat) (ha : a < 9223372036854775808) : (BitVec.ofInt 64 (a : Int)).toNat = a := by
  rw [BitVec.toNat_ofInt]; omega
theorem i64_wrap (n : Int) (h : -9223372036854775808 ≤ n ∧ n ≤ 9223372036854775807) : IntKind.i64.wrap n = n := by rw [IntKind.wrap_i64]; omega
theorem i64_and (a b : Nat) (ha : a < 9223372036854775808) (hb : b < 9223372036854775808) : bits .and .i64 (a : Int) (b : Int) = ((a &&& b : Nat) : Int) := by
  show IntKind.i64.wrap ((BitVec.ofInt 64 (a : Int) &&& BitVec.ofInt 64 (b : Int)).toNat : Int) = _
  rw [BitVec.toNat_and, ofInt_64 a ha, ofInt_64 b hb, i64_wrap]
  have := @Nat.and_le_left a b; omega
theorem i64_or (a b : Nat) (ha : a < 9223372036854775808) (hb : b < 9223372036854775808) : bits .or .i64 (a : Int) (b : Int) = ((a ||| b : Nat) : Int) := by
  show IntKind.i64.wrap ((BitVec.ofInt 64 (a : Int) ||| BitVec.ofInt 64 (b : Int)).toNat : Int) = _
  rw [BitVec.toNat_or, ofInt_64 a ha, ofInt_64 b hb, i64_wrap]
  have : a ||| b < 2 ^ 63 := Nat.or_lt_two_pow ha hb
  omega

/-- The low bits of i, turned round. -/
def rvGo (i : Nat) : Nat → Nat → Nat → Nat
  | 0, _, j => j
  | f + 1, b, j => rvGo i f (b + 1) (2 * j + i / 2 ^ b % 2)
def rvi (k i : Nat) : Nat := rvGo i k 0 0
theorem rvGo_lt (i : Nat) : ∀ (f b j m : Nat), j < 2 ^ m → rvGo i f b j < 2 ^ (m + f) := by
  intro f
  induction f with
  | zero => intro b j m h; exact h
  | succ f ih =>
    intro b j m h
    unfold rvGo
    have := ih (b + 1) (2 * j + i / 2 ^ b % 2) (m + 1) (by rw [Nat.pow_succ]; omega)
    rwa [show m + 1 + f = m + (f + 1) by omega] at this
theorem rvi_lt (k i : Nat) : rvi k i < 2 ^ k := by
  have := rvGo_lt i k 0 0 0 (by omega)
  rwa [Nat.zero_add] at this

def swp (x : List P) (i j : Nat) : List P := (x.set i (x.getD j p0)).set j (x.getD i p0)
theorem swp_length (x : List P) (i j : Nat) : (swp x i j).length = x.length := by simp [swp]
/-- Reverse: f rounds from i on. -/
def rvL (k : Nat) : Nat → Nat → List P → List P
  | 0, _, x => x
  | f + 1, i, x => rvL k f (i + 1) (if i < rvi k i then swp x i (rvi k i) else x)
def rvs (k : Nat) (x : List P) : List P := rvL k x.length 0 x
theorem rvL_length (k : Nat) : ∀ (f i : Nat) (x : List P), (rvL k f i x).length = x.length := by
  intro f
  induction f with
  | zero => intro i x; rfl
  | succ f ih => intro i x; unfold rvL; rw [ih]; split <;> simp [swp_length]
theorem rvs_length (k : Nat) (x : List P) : (rvs k x).length = x.length := rvL_length k _ _ _

theorem info113 : (Takg.prog.info? 113).map (·.size) = some 69 := by kernel_rfl
theorem Pc_cells (p : P) : ∀ v ∈ Pc p, v.oneCell' = true := fun v hv => by
  unfold Pc at hv
  rcases List.mem_cons.1 hv with h | h
  · rw [h]; rfl
  · unfold W Wd at h
    rw [List.mem_map] at h
    obtain ⟨j, _, rfl⟩ := h
    rfl
theorem run_load113 {a : Act} {o : Oper} (x : Operand) (h : o.op = .load 113 x) (b q : Nat) (p : P) (w : World) (hx : a.eval x = .pointer (some ⟨b, q, none⟩)) (hr : w.rangeAt b q (Pc p)) : (execOp a.eval o).run Takg.prog w = .ok (.value (.agg (Pc p).toArray)) w := by
  unfold execOp
  simp only [h, hx, Instr.loadAt, Instr.sureAddr, Sem.run_bind, Sem.run_pure, Result.andThen_ok, run_loadVar_mid w b q 113 (Pc p) _ hr Takg.underlying113 (by rfl) (by rw [Pc_length]; exact info113)]
theorem setP {w : World} {b t : Nat} {x : List P} (h : Blk w b t (Pts x)) (i : Nat) (hi : i < x.length) (p : P) : Blk (w.setCells b (i * 69) (Pc p)) b t (Pts (x.set i p)) :=
  unpt i hi (At.setCells (Pc p) _ _ _ _ (pt h i hi) (by rw [Pc_length, Pc_length]))

set_option maxRecDepth 100000 in
set_option maxHeartbeats 1000000 in
theorem Reverse_any (b tb k : Nat) (x : List P) (w : World) (hk : k ≤ 10) (hn : x.length = 2 ^ k) (hb : Blk w b tb (Pts x)) :
    Calls Takg.prog 62 #[.slice (some ⟨b, 0, none⟩) (2 ^ k) (2 ^ k)] w fun e w' =>
      e = .returned (.tuple #[]) ∧ Blk w' b tb (Pts (rvs k x)) ∧ Chg [b] w w' := by
  have hlev := fun W => level_any k W (by omega)
  have hn2 : 2 ^ k ≤ 1024 := Nat.pow_le_pow_right (n := 2) (by omega) hk
  obtain ⟨n, en⟩ : ∃ n, n = 2 ^ k := ⟨_, rfl⟩
  have hrv : rvs k x = rvL k (n - 0) 0 x := by unfold rvs; rw [hn, en]; rfl
  rw [hrv]
  have hlt : ∀ i, rvi k i < n := fun i => by rw [en]; exact rvi_lt k i
  rw [← en] at hn2 hn hlev
  rw [← en]
  have HL := hide hlev
  have HN := hide hn
  have HLT := hide hlt
  have HEN := hide en
  clear hlev hn en hrv hlt
  go_enter Takg.func62, Takg.ntmps62
  go_wp2_with (refine (HL.out _).mono ?_; rintro e w' ⟨rfl, rfl⟩)
  go_loopw [3] (fun v wr => ∃ (i : Nat) (X : List P), v = .int .i64 i ∧ i ≤ n ∧ Hid (X.length = n) ∧ Hid (rvL k (n - i) i X = rvL k (n - 0) 0 x) ∧ Blk wr b tb (Pts X) ∧ Chg [b] w' wr) (fun v _ => n - (intOf v).toNat)
  case atStart => exact ⟨0, x, rfl, by omega, HN, rfl, hb, Chg.refl _ _⟩
  case round =>
    clear hb
    obtain ⟨i, X, rfl, hi, HXl, HG, hbr, hcr⟩ := hrel
    by_cases hil : i < n
    · go_upto_block 2 with fail
      go_cut [4] (fun v wc => v = .int .i64 (rvi k i) ∧ wr = wc)
      case first =>
        go_wp2_with fail
        go_loop [4, 5] (fun v u => ∃ (j q : Nat), v = .int .i64 j ∧ u = .int .i64 q ∧ q ≤ k ∧ Hid (rvGo i (k - q) q j = rvi k i) ∧ j < 2 ^ q) (fun v u => k - (intOf u).toNat)
        case atStart => exact ⟨0, 0, rfl, rfl, by omega, rfl, by omega⟩
        case round =>
          obtain ⟨j, q, rfl, rfl, hq, HJ, hj⟩ := hrel
          have hj2 : j < 1024 := Nat.lt_of_lt_of_le hj ((show 2 ^ q ≤ 2 ^ 10 from Nat.pow_le_pow_right (n := 2) (by omega) (by omega)))
          by_cases hql : q < k
          · have hsh : (i : Int) / 2 ^ q = ((i / 2 ^ q : Nat) : Int) := by rw [Int.natCast_ediv, ipow]
            have hdl : i / 2 ^ q ≤ i := Nat.div_le_self _ _
            obtain ⟨d, hd⟩ : ∃ d, d = i / 2 ^ q := ⟨_, rfl⟩
            have ha : bits .and .i64 (d : Int) 1 = ((d % 2 : Nat) : Int) := by
              have := i64_and d 1 (by omega) (by omega)
              rw [Nat.and_one_is_mod] at this
              exact this
            have ho : bits .or .i64 ((j : Int) * 2) ((d : Int) % 2) = ((2 * j + d % 2 : Nat) : Int) := by
              have h1 := i64_or (2 * j) (d % 2) (by omega) (by omega)
              have h2 : 2 * j ||| d % 2 = 2 * j + d % 2 := by
                have := Nat.shiftLeft_add_eq_or_of_lt (b := d % 2) (i := 1) (by omega) j
                rw [Nat.shiftLeft_eq, Nat.mul_comm] at this
                exact this.symm
              rw [h2] at h1
              rw [show (j : Int) * 2 = ((2 * j : Nat) : Int) by omega, show (d : Int) % 2 = ((d % 2 : Nat) : Int) by omega]
              exact h1
            rw [← hd] at hsh hdl
            have HD := hide hd
            clear hd
            go_wp2_with fail
            go_round
            case rel =>
              refine ⟨2 * j + d % 2, q + 1, by go_num, by go_num, by omega, ?_, ?_⟩
              · unfold Hid; rw [← HJ.out, show k - q = k - (q + 1) + 1 by omega, HD.out]; rfl
              · rw [Nat.pow_succ]; omega
            case measure => simp [intOf]; omega
          · have hqe : q = k := by omega
            have hje : j = rvi k i := by rw [← HJ.out, hqe, Nat.sub_self]; rfl
            have HJE := hide hje
            clear hqe hje
            go_wp2_with fail
            go_meet
            exact ⟨by rw [HJE.out], rfl⟩
      case rest =>
        obtain ⟨rfl, rfl⟩ := hcut
        have hjn := HLT.out i
        obtain ⟨j, hj⟩ : ∃ j, j = rvi k i := ⟨_, rfl⟩
        rw [← hj] at hjn ⊢
        have HJ := hide hj
        clear hj
        by_cases hij : i < j
        · go_upto_region 10 with fail
          obtain ⟨pi, hpi⟩ : ∃ p, p = X.getD i p0 := ⟨_, rfl⟩
          obtain ⟨pj, hpj⟩ : ∃ p, p = X.getD j p0 := ⟨_, rfl⟩
          have r1 := pt hbr.drew i (by rw [HXl.out]; omega)
          have r2 := pt hbr.drew j (by rw [HXl.out]; omega)
          rw [← hpi] at r1
          rw [← hpj] at r2
          have HPI := hide hpi
          have HPJ := hide hpj
          clear hpi hpj
          refine wp_region_held_drew (S := fun _ => True) (by kernel_rfl) trivial (fun hHeld => ?_)
          refine takeL 0 (v := ?_) rfl (by kernel_rfl) (by kernel_rfl) (by kernel_rfl) (fun _ _ _ h => h) (by rfl) ?_ hHeld ?_
          rotate_left
          · (intro w1 hSw; go_simp; try with_reducible rfl)
          simp only [Act.put, List.setIfInBounds_toArray, List.set_cons_zero, List.set_cons_succ]
          refine takeL 1 (v := ?_) rfl (by kernel_rfl) (by kernel_rfl) (by kernel_rfl) (fun _ _ _ h => h) (by rfl) ?_ hHeld ?_
          rotate_left
          · (intro w1 hSw; go_simp; try with_reducible rfl)
          simp only [Act.put, List.setIfInBounds_toArray, List.set_cons_zero, List.set_cons_succ]
          refine takeL 2 (v := ?_) rfl (by kernel_rfl) (by kernel_rfl) (by kernel_rfl) (fun _ _ _ h => h) (by rfl) ?_ hHeld ?_
          rotate_left
          · (intro w1 hSw; go_simp; try with_reducible rfl)
          simp only [Act.put, List.setIfInBounds_toArray, List.set_cons_zero, List.set_cons_succ]
          refine takeL 3 (v := ?_) rfl (by kernel_rfl) (by kernel_rfl) (by kernel_rfl) (fun _ _ _ h => h) (by rfl) ?_ hHeld ?_
          rotate_left
          · (intro w1 hSw; go_simp; try with_reducible rfl)
          simp only [Act.put, List.setIfInBounds_toArray, List.set_cons_zero, List.set_cons_succ]
          refine takeL 4 (v := ?_) rfl (by kernel_rfl) (by kernel_rfl) (by kernel_rfl) (fun _ _ _ h => h) (by rfl) ?_ hHeld ?_
          rotate_left
          · (intro w1 hSw; go_simp; try with_reducible rfl)
          simp only [Act.put, List.setIfInBounds_toArray, List.set_cons_zero, List.set_cons_succ]
          refine takeL 5 (v := ?_) rfl (by kernel_rfl) (by kernel_rfl) (by kernel_rfl) (fun _ _ _ h => h) (by rfl) ?_ hHeld ?_
          rotate_left
          · (intro w1 hSw; go_simp; try with_reducible rfl)
          simp only [Act.put, List.setIfInBounds_toArray, List.set_cons_zero, List.set_cons_succ]
          refine takeL 6 (v := ?_) rfl (by kernel_rfl) (by kernel_rfl) (by kernel_rfl) (fun _ _ _ h => h) (by rfl) ?_ hHeld ?_
          rotate_left
          · (intro w1 hSw; go_simp; try with_reducible rfl)
          simp only [Act.put, List.setIfInBounds_toArray, List.set_cons_zero, List.set_cons_succ]
          refine takeL 8 (v := ?_) rfl (by kernel_rfl) (by kernel_rfl) (by kernel_rfl) (fun _ _ _ h => h) (by rfl) ?_ hHeld ?_
          rotate_left
          · (intro w1 hSw; go_simp; try with_reducible rfl)
          simp only [Act.put, List.setIfInBounds_toArray, List.set_cons_zero, List.set_cons_succ]
          refine takeL 9 (v := ?_) rfl (by kernel_rfl) (by kernel_rfl) (by kernel_rfl) (fun _ _ _ h => h) (by rfl) ?_ hHeld ?_
          rotate_left
          · (intro w1 hSw; go_simp; try with_reducible rfl)
          simp only [Act.put, List.setIfInBounds_toArray, List.set_cons_zero, List.set_cons_succ]
          refine takeL 10 (v := ?_) rfl (by kernel_rfl) (by kernel_rfl) (by kernel_rfl) (fun _ _ _ h => h) (by rfl) ?_ hHeld ?_
          rotate_left
          · (intro w1 hSw; go_simp; try with_reducible rfl)
          simp only [Act.put, List.setIfInBounds_toArray, List.set_cons_zero, List.set_cons_succ]
          refine wpAnyH_ready (rs := [7, 11]) (by kernel_rfl) (by simp) ?_
          refine consL rfl rfl (fun K hK => ?_) (consL rfl rfl (fun K hK => ?_) AllReadyH.nil)
          · refine wp_load_mid 113 _ rfl b (j * 69) rfl (Pc pj) _ r2.rangeAt Takg.underlying113 (by rfl) (by rw [Pc_length]; exact info113) ?_
            refine hK.out _ _ trivial (fun hHeld => ?_)
            clear hK K
            simp only [Act.put, List.setIfInBounds_toArray, List.set_cons_zero, List.set_cons_succ, List.toList_toArray]
            refine wpAnyH_ready (rs := [11]) (by kernel_rfl) (by simp) ?_
            refine consL rfl rfl (fun K hK => ?_) AllReadyH.nil
            refine wp_load_mid 113 _ rfl b (i * 69) rfl (Pc pi) _ r1.rangeAt Takg.underlying113 (by rfl) (by rw [Pc_length]; exact info113) ?_
            refine hK.out _ _ trivial (fun hHeld => ?_)
            clear hK K
            simp only [Act.put, List.setIfInBounds_toArray, List.set_cons_zero, List.set_cons_succ, List.toList_toArray]
            refine takeL 12 (v := ?_) rfl (by kernel_rfl) (by kernel_rfl) (by kernel_rfl) (fun _ _ _ h => h) (by rfl) ?_ hHeld ?_
            rotate_left
            · (intro w1 hSw; go_simp; try with_reducible rfl)
            simp only [Act.put, List.setIfInBounds_toArray, List.set_cons_zero, List.set_cons_succ]
            have q2 := setP hbr.drew i (by rw [HXl.out]; omega) pj
            have U1 := Chg.setCells b (by simp) (Pc pj) (i * 69) _ hcr.drew
            refine wpAnyH_ready (rs := [13]) (by kernel_rfl) (by simp) ?_
            refine consL rfl rfl (fun K hK => ?_) AllReadyH.nil
            refine wp_store_mid 113 _ _ rfl b (i * 69) (Pc pj).toArray rfl rfl (r1.there _ (by rw [List.size_toArray, Pc_length, Pc_length])) (by rw [List.size_toArray, Pc_length]; exact info113) (all_oneCell_toArray (Pc_cells _)) ?_
            refine hK.out _ _ trivial (fun hHeld => ?_)
            clear hK K
            simp only [Act.put, List.setIfInBounds_toArray, List.set_cons_zero, List.set_cons_succ, List.toList_toArray]
            generalize wr.drew.setCells b (i * 69) (Pc pj) = wg at *
            refine takeL 14 (v := ?_) rfl (by kernel_rfl) (by kernel_rfl) (by kernel_rfl) (fun _ _ _ h => h) (by rfl) ?_ hHeld ?_
            rotate_left
            · (intro w1 hSw; go_simp; try with_reducible rfl)
            simp only [Act.put, List.setIfInBounds_toArray, List.set_cons_zero, List.set_cons_succ]
            have hl3 : (X.set i pj).length = n := by rw [List.length_set]; exact HXl.out
            have q3 := pt q2 j (by rw [hl3]; omega)
            have q5 := setP q2 j (by rw [hl3]; omega) pi
            have hsw : (X.set i pj).set j pi = swp X i j := by unfold swp; rw [← HPI.out, ← HPJ.out]
            rw [hsw] at q5
            clear hsw hl3
            have U6 := Chg.setCells b (by simp) (Pc pi) (j * 69) _ U1
            refine wpAnyH_ready (rs := [15]) (by kernel_rfl) (by simp) ?_
            refine consL rfl rfl (fun K hK => ?_) AllReadyH.nil
            refine wp_store_mid 113 _ _ rfl b (j * 69) (Pc pi).toArray rfl rfl (q3.there _ (by rw [List.size_toArray, Pc_length, Pc_length])) (by rw [List.size_toArray, Pc_length]; exact info113) (all_oneCell_toArray (Pc_cells _)) ?_
            refine hK.out _ _ trivial (fun hHeld => ?_)
            clear hK K q3
            simp only [Act.put, List.setIfInBounds_toArray, List.set_cons_zero, List.set_cons_succ, List.toList_toArray]
            generalize wg.setCells b (j * 69) (Pc pi) = wh at *
            refine wpAnyH_done (by kernel_rfl) ?_ _
            clear hbr hcr r1 r2 q2 U1
            go_wp2_with fail
            go_roundw
            case rel =>
              refine ⟨i + 1, _, by go_num, by omega, ?_, ?_, q5, U6⟩
              · unfold Hid; rw [swp_length]; exact HXl.out
              · unfold Hid; rw [← HG.out, show n - i = n - (i + 1) + 1 by omega]; conv => rhs; unfold rvL
                rw [← HJ.out, if_pos hij]
            case measure => simp [intOf]; omega
          · refine wp_load_mid 113 _ rfl b (i * 69) rfl (Pc pi) _ r1.rangeAt Takg.underlying113 (by rfl) (by rw [Pc_length]; exact info113) ?_
            refine hK.out _ _ trivial (fun hHeld => ?_)
            clear hK K
            simp only [Act.put, List.setIfInBounds_toArray, List.set_cons_zero, List.set_cons_succ, List.toList_toArray]
            refine wpAnyH_ready (rs := [7]) (by kernel_rfl) (by simp) ?_
            refine consL rfl rfl (fun K hK => ?_) AllReadyH.nil
            refine wp_load_mid 113 _ rfl b (j * 69) rfl (Pc pj) _ r2.rangeAt Takg.underlying113 (by rfl) (by rw [Pc_length]; exact info113) ?_
            refine hK.out _ _ trivial (fun hHeld => ?_)
            clear hK K
            simp only [Act.put, List.setIfInBounds_toArray, List.set_cons_zero, List.set_cons_succ, List.toList_toArray]
            refine takeL 12 (v := ?_) rfl (by kernel_rfl) (by kernel_rfl) (by kernel_rfl) (fun _ _ _ h => h) (by rfl) ?_ hHeld ?_
            rotate_left
            · (intro w1 hSw; go_simp; try with_reducible rfl)
            simp only [Act.put, List.setIfInBounds_toArray, List.set_cons_zero, List.set_cons_succ]
            have q2 := setP hbr.drew i (by rw [HXl.out]; omega) pj
            have U1 := Chg.setCells b (by simp) (Pc pj) (i * 69) _ hcr.drew
            refine wpAnyH_ready (rs := [13]) (by kernel_rfl) (by simp) ?_
            refine consL rfl rfl (fun K hK => ?_) AllReadyH.nil
            refine wp_store_mid 113 _ _ rfl b (i * 69) (Pc pj).toArray rfl rfl (r1.there _ (by rw [List.size_toArray, Pc_length, Pc_length])) (by rw [List.size_toArray, Pc_length]; exact info113) (all_oneCell_toArray (Pc_cells _)) ?_
            refine hK.out _ _ trivial (fun hHeld => ?_)
            clear hK K
            simp only [Act.put, List.setIfInBounds_toArray, List.set_cons_zero, List.set_cons_succ, List.toList_toArray]
            generalize wr.drew.setCells b (i * 69) (Pc pj) = wg at *
            refine takeL 14 (v := ?_) rfl (by kernel_rfl) (by kernel_rfl) (by kernel_rfl) (fun _ _ _ h => h) (by rfl) ?_ hHeld ?_
            rotate_left
            · (intro w1 hSw; go_simp; try with_reducible rfl)
            simp only [Act.put, List.setIfInBounds_toArray, List.set_cons_zero, List.set_cons_succ]
            have hl3 : (X.set i pj).length = n := by rw [List.length_set]; exact HXl.out
            have q3 := pt q2 j (by rw [hl3]; omega)
            have q5 := setP q2 j (by rw [hl3]; omega) pi
            have hsw : (X.set i pj).set j pi = swp X i j := by unfold swp; rw [← HPI.out, ← HPJ.out]
            rw [hsw] at q5
            clear hsw hl3
            have U6 := Chg.setCells b (by simp) (Pc pi) (j * 69) _ U1
            refine wpAnyH_ready (rs := [15]) (by kernel_rfl) (by simp) ?_
            refine consL rfl rfl (fun K hK => ?_) AllReadyH.nil
            refine wp_store_mid 113 _ _ rfl b (j * 69) (Pc pi).toArray rfl rfl (q3.there _ (by rw [List.size_toArray, Pc_length, Pc_length])) (by rw [List.size_toArray, Pc_length]; exact info113) (all_oneCell_toArray (Pc_cells _)) ?_
            refine hK.out _ _ trivial (fun hHeld => ?_)
            clear hK K q3
            simp only [Act.put, List.setIfInBounds_toArray, List.set_cons_zero, List.set_cons_succ, List.toList_toArray]
            generalize wg.setCells b (j * 69) (Pc pi) = wh at *
            refine wpAnyH_done (by kernel_rfl) ?_ _
            clear hbr hcr r1 r2 q2 U1
            go_wp2_with fail
            go_roundw
            case rel =>
              refine ⟨i + 1, _, by go_num, by omega, ?_, ?_, q5, U6⟩
              · unfold Hid; rw [swp_length]; exact HXl.out
              · unfold Hid; rw [← HG.out, show n - i = n - (i + 1) + 1 by omega]; conv => rhs; unfold rvL
                rw [← HJ.out, if_pos hij]
            case measure => simp [intOf]; omega
        · go_wp2_with fail
          go_roundw
          case rel =>
            refine ⟨i + 1, X, by go_num, by omega, HXl, ?_, hbr, hcr⟩
            unfold Hid; rw [← HG.out, show n - i = n - (i + 1) + 1 by omega]; conv => rhs; unfold rvL
            rw [← HJ.out, if_neg hij]
          case measure => simp [intOf]; omega
    · have hie : i = n := by omega
      have hG := HG.out
      rw [hie, Nat.sub_self] at hG
      have hXe : X = rvL k (n - 0) 0 x := hG
      rw [hXe] at hbr
      clear hie hG hXe
      go_wp2_with fail
      go_end0
      exact ⟨rfl, hbr, hcr⟩
end Sh
end Go.Proofs.Ygctak
