/-
  Walks: tw.Table.
-/
import Derived.Test.YgctakTw2
namespace Go.Proofs.Ygctak
open Go.RowKit
set_option linter.unusedVariables false
set_option linter.unusedSimpArgs false
attribute [local go_sem ↓] Go.wp_at_zero Go.wp_at_succ
namespace Fl
attribute [local go_sem] run_store_complex run_store_float

/-- T, and zeros, n in all. -/
def padC (T : List (Nat × Nat)) (n : Nat) : List (Nat × Nat) := T ++ List.replicate (n - T.length) (0, 0)
theorem padC_length (T : List (Nat × Nat)) (n : Nat) (h : T.length ≤ n) : (padC T n).length = n := by simp [padC]; omega
theorem padC_get (T : List (Nat × Nat)) (n i : Nat) (h : i < T.length) : (padC T n).getD i (0, 0) = T.getD i (0, 0) := by
  simp only [padC, List.getD_eq_getElem?_getD]; rw [List.getElem?_append_left h]
theorem padC_set (T : List (Nat × Nat)) (n : Nat) (z : Nat × Nat) (h : T.length < n) : (padC T n).set T.length z = padC (T ++ [z]) n := by
  unfold padC
  rw [List.set_append_right _ _ (by omega), Nat.sub_self, show n - T.length = n - (T.length + 1) + 1 by omega, List.replicate_succ, List.set_cons_zero]
  simp

def AllC (E : Nat) (T : List (Nat × Nat)) : Prop := ∀ z, z ∈ T → Fc E z

theorem AllC.get {E : Nat} {T : List (Nat × Nat)} (h : AllC E T) (i : Nat) (hi : i < T.length) : Fc E (T.getD i (0, 0)) := by
  have : T.getD i (0, 0) = T[i] := by simp [hi]
  rw [this]; exact h _ (List.getElem_mem hi)

theorem tab_more (T : List (Nat × Nat)) (u : Nat × Nat) (j : Nat) (h : j < T.length) :
    (T ++ (T.take j).map fun z => cmul z u) ++ [cmul (T.getD j (0, 0)) u] = T ++ (T.take (j + 1)).map fun z => cmul z u := by
  rw [List.take_succ_eq_append_getElem h, List.map_append, ← List.append_assoc]
  simp [h]

theorem info103 : (Takg.prog.info? 103).map (fun i => (i.zero, i.size, i.bytes)) = some (some (.complex .f64 0 0), 1, 16) := by kernel_rfl
theorem one_fin : Fc 0 (4607182418800017408, 0) := base_fin 0 (by omega)

theorem tabGo_keep (k : Nat) (hk : k ≤ 11) : ∀ (f q : Nat) (T : List (Nat × Nat)), q + 1 + f = k → T.length = 2 ^ q → AllC q T → (tabGo k f q T).length = 2 ^ (q + f) ∧ AllC (q + f) (tabGo k f q T) := by
  intro f
  induction f with
  | zero => intro q T h1 h2 h3; exact ⟨h2, h3⟩
  | succ f ih =>
    intro q T h1 h2 h3
    have := ih (q + 1) (T ++ T.map fun z => cmul z (base (k - q))) (by omega) (by rw [List.length_append, List.length_map, h2, Nat.pow_succ]; omega) ?_
    · rw [show q + 1 + f = q + (f + 1) by omega] at this
      exact this
    · intro z hz
      rw [List.mem_append, List.mem_map] at hz
      rcases hz with hz | ⟨y, hy, rfl⟩
      · exact (h3 z hz).mono (by omega)
      · exact (cmul_fin (h3 y hy) (base_fin _ (by omega)) (by omega)).2
theorem tab_keep (k : Nat) (h1 : 1 ≤ k) (hk : k ≤ 11) : (tab k).length = 2 ^ (k - 1) ∧ AllC (k - 1) (tab k) := by
  have := tabGo_keep k hk (k - 1) 0 [(4607182418800017408, 0)] (by omega) rfl (by
    intro z hz
    simp at hz
    subst hz
    exact one_fin)
  rw [Nat.zero_add] at this
  exact this

set_option maxHeartbeats 1000000 in
theorem Table_any (k : Nat) (w : World) (hk0 : 1 ≤ k) (hk : k ≤ 11) :
    Calls Takg.prog 22 #[.int .u8 k] w fun e w' => ∃ bt, e = .returned (.slice (some ⟨bt, 0, none⟩) (2 ^ (k - 1)) (2 ^ (k - 1))) ∧ Hid (bt = w.heap.size) ∧ Blk w' bt 103 (C (tab k)) ∧ Chg [] w w' := by
  obtain ⟨n, hn⟩ : ∃ n, n = 2 ^ (k - 1) := ⟨_, rfl⟩
  have hn2 : n ≤ 1024 := by rw [hn]; exact pow_mono (k - 1) 10 (by omega)
  have hn0 : 0 < n := by rw [hn]; exact Nat.two_pow_pos _
  have HN := hide hn
  rw [← hn]
  have hshl : wrap64 (2 ^ (k - 1)) = (n : Int) := by
    have h2 : (2 ^ (k - 1) : Int) = ((2 ^ (k - 1) : Nat) : Int) := (ipow _).symm
    rw [h2, ← hn]
    unfold wrap64
    omega
  have HSH := hide hshl
  clear hn hshl
  have hmk := make_run (P := Takg.prog) 46 103 (.complex .f64 0 0) 16 n rfl Takg.underlying46 info103 (by omega) (by omega)
  go_enter Takg.func22, Takg.ntmps22
  go_upto_region 3 with fail
  go_cut [3] (fun x wc => x = .int .i64 n ∧ w = wc)
  case first =>
    go_wp2_with fail
    go_meet
    exact ⟨by rw [HSH.out], rfl⟩
  case rest =>
  obtain ⟨rfl, rfl⟩ := hcut
  go_upto_region 5 with fail
  clear hmk
  obtain ⟨b, hb⟩ : ∃ b, b = w.heap.size := ⟨_, rfl⟩
  have hbn := Blk.newRep w n (Value.complex .f64 0 0) 103
  have hch := (Chg.refl [] w).alloc (.cells (Array.replicate n (Value.complex .f64 0 0)) 103)
  rw [← hb] at hbn ⊢
  have HB := hide hb
  clear hb
  have e0 : List.replicate n (Value.complex .f64 0 0) = C (padC [] n) := by simp [padC, C]
  rw [e0] at hbn
  clear e0
  generalize w.alloc (.cells (Array.replicate n (Value.complex .f64 0 0)) 103) = w1 at *
  have k0 := hbn.cell _ _ (C_get _ 0 (by rw [padC_length _ _ (by simp)]; omega))
  have f0 := hbn.frozen 0 none
  have hb1 := hbn.set 0 (.complex .f64 4607182418800017408 0)
  rw [show (Value.complex .f64 4607182418800017408 0) = .complex .f64 ((4607182418800017408, 0) : Nat × Nat).1 ((4607182418800017408, 0) : Nat × Nat).2 from rfl, C_set, show (0 : Nat) = ([] : List (Nat × Nat)).length from rfl, padC_set [] n _ hn0] at hb1
  simp only [List.length_nil, List.nil_append] at hb1
  have hc1 := hch.setNew ⟨b, 0, none⟩ (by have := HB.out; simp; omega) (.complex .f64 4607182418800017408 0)
  go_upto_region 6 with fail
  clear k0 f0 hbn hch
  generalize w1.setCell ⟨b, 0, none⟩ (.complex .f64 4607182418800017408 0) = w2 at *
  go_wp2_with fail
  go_loopw [5] (fun x wr => ∃ (f q : Nat) (T : List (Nat × Nat)), x = .int .u8 q ∧ q + 1 + f = k ∧ Hid (T.length = 2 ^ q) ∧ T.length ≤ n ∧ AllC q T ∧ Hid (tabGo k f q T = tab k) ∧ Blk wr b 103 (C (padC T n)) ∧ Chg [] w wr) (fun x _ => k - (intOf x).toNat)
  case atStart => exact ⟨k - 1, 0, [(4607182418800017408, 0)], rfl, by omega, rfl, by simp; omega, (by intro z hz; simp at hz; subst hz; exact one_fin), rfl, hb1, hc1⟩
  case round =>
    clear hb1 hc1
    obtain ⟨f, q, T, rfl, hq, hTl, hTn, hTf, HG, hbr, hcr⟩ := hrel
    by_cases hlt : q + 1 < k
    · obtain ⟨g, rfl⟩ : ∃ g, f = g + 1 := ⟨f - 1, by omega⟩
      have hT2 : T.length * 2 ≤ n := by
        rw [hTl.out, HN.out, ← Nat.pow_succ]
        exact pow_mono _ _ (by omega)
      have hsq : wrap64 (2 ^ q) = (T.length : Int) := by
        have h2 : (2 ^ q : Int) = ((2 ^ q : Nat) : Int) := (ipow _).symm
        rw [h2, ← hTl.out]
        unfold wrap64
        omega
      have hbf := base_fin (k - q) (by omega)
      have hcalls := fun W => Base_any (k - q) W (by omega)
      rw [show ((k - q : Nat) : Int) = (k : Int) - (q : Int) by omega] at hcalls
      have HBS := hide hcalls
      have HSQ := hide hsq
      obtain ⟨u, hu⟩ : ∃ u, u = base (k - q) := ⟨_, rfl⟩
      rw [← hu] at hbf HBS
      have HU := hide hu
      clear hcalls hsq hu
      go_upto_region 9 with fail
      go_cut [6, 7] (fun x y wc => x = .int .i64 T.length ∧ y = .complex .f64 u.1 u.2 ∧ wr = wc)
      case first =>
        go_wp2_with fail
        refine (HBS.out _).mono ?_
        rintro e w3 ⟨rfl, rfl⟩
        go_wp2_with fail
        go_meet
        exact ⟨by rw [HSQ.out], rfl, rfl⟩
      case rest =>
        obtain ⟨rfl, rfl, rfl⟩ := hcut
        go_wp2_with fail
        go_loopw [8] (fun x wr => ∃ j : Nat, x = .int .i64 j ∧ j ≤ T.length ∧ Blk wr b 103 (C (padC (T ++ (T.take j).map fun z => cmul z u) n)) ∧ Chg [] w wr) (fun x _ => T.length - (intOf x).toNat)
        case atStart => exact ⟨0, rfl, by omega, by simpa using hbr, hcr⟩
        case round =>
          clear hbr hcr
          obtain ⟨j, rfl, hj, hbr, hcr⟩ := hrel
          by_cases hjl : j < T.length
          · obtain ⟨z, hz⟩ : ∃ z, z = T.getD j (0, 0) := ⟨_, rfl⟩
            have hzf := hTf.get j hjl
            rw [← hz] at hzf
            obtain ⟨hm1, _⟩ := cmul_fin hzf hbf (by omega)
            have hmore := tab_more T u j hjl
            rw [← hz] at hmore
            have hlen : (T ++ (T.take j).map fun z => cmul z u).length = T.length + j := by simp; omega
            have hpl : (padC (T ++ (T.take j).map fun z => cmul z u) n).length = n := padC_length _ _ (by rw [hlen]; omega)
            have k0 : wr.cell? ⟨b, j, none⟩ = some (.complex .f64 z.1 z.2) := by
              have := hbr.cell _ _ (C_get _ j (by rw [hpl]; omega))
              rw [this, padC_get _ _ _ (by rw [hlen]; omega), hz]
              simp only [List.getD_eq_getElem?_getD]
              rw [List.getElem?_append_left hjl]
            have k1 := hbr.cell _ _ (C_get _ (T.length + j) (by rw [hpl]; omega))
            have f1 := hbr.frozen (T.length + j) none
            have hnext := hbr.set (T.length + j) (.complex .f64 (cmul z u).1 (cmul z u).2)
            rw [C_set, ← hlen, padC_set _ _ _ (by rw [hlen]; omega), hmore, hlen] at hnext
            obtain ⟨v, hv⟩ : ∃ v, v = cmul z u := ⟨_, rfl⟩
            rw [← hv] at hnext hm1
            have HM := hide hm1
            have hjn : j < n := by omega
            have hjn2 : T.length + j < n := by omega
            clear hz hzf hm1 hmore hlen hpl hv
            go_wp2_with fail
            refine (Mul_any _ _ _ _ v.1 v.2 _ HM.out).mono ?_
            rintro e w3 ⟨rfl, rfl⟩
            go_wp2_with fail
            go_roundw
            case rel => exact ⟨j + 1, by go_num, by omega, hnext, hcr.setNew _ (by have := HB.out; simp; omega) _⟩
            case measure => simp [intOf]; omega
          · have hje : j = T.length := by omega
            subst hje
            rw [List.take_length] at hbr
            go_wp2_with fail
            go_roundw
            case rel =>
              refine ⟨g, q + 1, _, by go_num, by omega, ?_, ?_, ?_, ?_, hbr, hcr⟩
              · unfold Hid; rw [List.length_append, List.length_map, hTl.out, Nat.pow_succ]; omega
              · rw [List.length_append, List.length_map]; omega
              · intro z hz
                rw [List.mem_append, List.mem_map] at hz
                rcases hz with hz | ⟨y, hy, rfl⟩
                · exact (hTf z hz).mono (by omega)
                · exact (cmul_fin (hTf y hy) hbf (by omega)).2
              · unfold Hid; rw [← HG.out, HU.out]; rfl
            case measure => simp [intOf]; omega
    · have hqk : f = 0 := by omega
      subst hqk
      have hTe : padC T n = tab k := by
        rw [← HG.out]
        have : T.length = n := by rw [hTl.out, HN.out]; congr 1; omega
        unfold padC tabGo
        rw [this, Nat.sub_self]; simp
      rw [hTe] at hbr
      clear hTe
      go_wp2_with fail
      go_ret
      exact ⟨b, rfl, HB, hbr, hcr⟩
end Fl
end Go.Proofs.Ygctak
