/-
  calc.Run: the script from an empty machine.
-/
import Derived.Test.YgctakNa27
import Derived.Test.YgctakNa28
namespace Go.Proofs.Ygctak
open Go.RowKit
set_option linter.unusedVariables false
set_option linter.unusedSimpArgs false
attribute [local go_sem ↓] Go.wp_at_zero Go.wp_at_succ
namespace Na

/-- A script in memory: each operation's kind and its argument's value. -/
structure Scr (w : World) (sa : Option Addr) (n cap : Nat) (ops : List (Nat × Nat)) : Prop where
  len : ops.length = n
  hc : n ≤ cap
  hc2 : cap ≤ 9223372036854775807
  at_ : ∀ i o, ops[i]? = some o → ∃ b off aa na ca, sa = some ⟨b, off, none⟩ ∧ b < w.heap.size ∧ w.cell? ⟨b, off + i * 2, none⟩ = some (.int .u8 (o.1 : Nat)) ∧ w.cell? ⟨b, off + i * 2 + 1, none⟩ = some (.slice aa na ca) ∧ Arg w aa na ca o.2 ∧ o.1 < 256
theorem Scr.chg {w w' : World} {sa : Option Addr} {n cap : Nat} {ops : List (Nat × Nat)} (h : Scr w sa n cap ops) (hc : Chg [] w w') : Scr w' sa n cap ops :=
  ⟨h.len, h.hc, h.hc2, fun i o ho => by
    obtain ⟨b, off, aa, na, ca, h1, h2, h3, h4, h5, h6⟩ := h.at_ i o ho
    exact ⟨b, off, aa, na, ca, h1, Nat.lt_of_lt_of_le h2 hc.size, (hc.cell b _ h2 (by simp)).trans h3, (hc.cell b _ h2 (by simp)).trans h4, h5.chg hc, h6⟩⟩

/-- The script done, plainly. -/
def runS (ops : List (Nat × Nat)) : List Nat × List Int := ops.foldl (fun s o => stp o.1 o.2 s) ([], [])
theorem runS_succ {ops : List (Nat × Nat)} {i : Nat} {o : Nat × Nat} (h : ops[i]? = some o) : runS (ops.take (i + 1)) = stp o.1 o.2 (runS (ops.take i)) := by
  unfold runS
  rw [List.take_add_one, h]
  simp [List.foldl_append]
theorem runS_len (ops : List (Nat × Nat)) : (runS ops).2.length ≤ ops.length := by
  have : ∀ (l : List (Nat × Nat)) (s : List Nat × List Int), (l.foldl (fun s o => stp o.1 o.2 s) s).2.length ≤ s.2.length + l.length := fun l => by
    induction l with
    | nil => intro s; simp
    | cons o l ih =>
      intro s
      rw [List.foldl_cons, List.length_cons]
      have h1 := ih (stp o.1 o.2 s)
      have h2 := stp_len o.1 o.2 s
      omega
  have h := this ops ([], [])
  unfold runS
  simpa using h

theorem alloc147 (w : World) : (Instr.alloc 147 true (.tuple #[])).run Takg.prog w = .ok (.pointer (some ⟨w.heap.size, 0, none⟩)) (w.alloc (.cells #[.slice none 0 0, .slice none 0 0] 147)) := by kernel_rfl
theorem wpList_new147 {ops : Array Oper} {rest : List Oper} {o1 : Oper} {a : Act} {w : World} {Q : Exit → Act → World → Prop} (hg1 : o1.guard = none) (ho1 : o1.op = .alloc 147)
    (h : ∀ b w2, Hid (b = w.heap.size) → Blk w2 b 147 [.slice none 0 0, .slice none 0 0] → Chg [] w w2 → wpList Takg.prog ops Q rest (a.put o1.dst (.pointer (some ⟨b, 0, none⟩))) w2) : wpList Takg.prog ops Q (o1 :: rest) a w := by
  refine wpList_allocVar hg1 147 ho1 _ alloc147 ?_
  exact h _ _ rfl (Blk.new w [.slice none 0 0, .slice none 0 0] 147) ((Chg.refl [] w).alloc _)
/-- The empty machine. -/
theorem Mac.zero {w : World} {B b : Nat} (h : Blk w b 147 [.slice none 0 0, .slice none 0 0]) (hb : B ≤ b) : Mac B w b (.slice none 0 0) [] (.slice none 0 0) [] :=
  ⟨h, hb, ⟨rfl, .inl ⟨rfl, rfl⟩⟩, ⟨rfl, .inl ⟨rfl, rfl⟩⟩, fun e he => by simp at he, fun e he => by simp at he, List.Pairwise.nil, by simp, by simp⟩
theorem Abv.blk {B b t : Nat} {w w2 : World} {cs : List Value} (h : Abv B w w2) (hb : Blk w b t cs) (hlt : b < B) : Blk w2 b t cs := by
  obtain ⟨S, h1, h2⟩ := h
  exact h2.blk hb (fun hx => by have := h1 b hx; omega)
theorem Abv.chg0 {B : Nat} {w w2 : World} (h : Abv B w w2) (w0 : World) (h0 : Chg [] w0 w) (hB : w0.heap.size ≤ B) : Chg [] w0 w2 := by
  obtain ⟨S, h1, h2⟩ := h
  exact h0.news h2 (fun x hx => .inr (Nat.le_trans hB (h1 x hx)))

set_option maxRecDepth 10000 in
set_option maxHeartbeats 4000000 in
theorem Run_any (eng n cap : Nat) (sa : Option Addr) (ops : List (Nat × Nat)) (w : World) (he : eng ≤ 3) (hpr : Prod eng) (h : Scr w sa n cap ops) (hn : n ≤ 128) :
    Calls Takg.prog 53 #[.int .u8 eng, .slice sa n cap] w fun e w' => ∃ a1 a2 es', e = .returned (.agg #[.bool false, .slice a1 es'.length es'.length, .slice a2 (runS ops).2.length (runS ops).2.length]) ∧ Oc w' a1 es'.length es' ∧ es'.map (·.2) = (runS ops).1 ∧ Ot w' a2 (runS ops).2 ∧ Chg [] w w' := by
  have HS := hide h
  have hcn := h.hc
  have hcm := h.hc2
  have HL := hide h.len
  have HPR := hide hpr
  clear h hpr
  go_enter Takg.func53, Takg.ntmps53
  go_upto_region 1 with (refine wpList_new98 (by rfl) (by rfl) ?_; intro b4 w4 hb4 k4 c4)
  go_upto_region 4 with (refine wpList_new147 (by rfl) (by rfl) ?_; intro bm w5 hb5 k5 c5)
  simp only [Act.put, List.setIfInBounds_toArray, List.set_cons_zero, List.set_cons_succ]
  have b4lt : b4 < bm := by have := k4.lt; have := hb5.out; omega
  have hB : w.heap.size ≤ bm := by have := hb5.out; have := c4.size; omega
  have h4 : w.heap.size ≤ b4 := by have := hb4.out; omega
  have k45 := c5.blk k4 (by simp)
  have c45 := c4.trans c5
  have HK := hide (And.intro k45 c45)
  have hM0 := Mac.zero (B := bm) k5 (Nat.le_refl _)
  clear hb4 hb5 k4 c4 k5 c5 k45 c45
  go_upto_region 5 with fail
  go_loopw [6] (fun x wr => ∃ (i : Nat) (v1 : Value) (es : Es) (v2 : Value) (os : List Int), x = .int .i64 i ∧ i ≤ n ∧ Mac bm wr bm v1 es v2 os ∧ Hid (runS (ops.take i) = (es.map (·.2), os)) ∧ Abv bm w5 wr) (fun x _ => n - (intOf x).toNat)
  case atStart => exact ⟨0, _, [], _, [], rfl, by omega, hM0, rfl, Abv.of (Chg.refl _ _)⟩
  case round =>
    clear hM0
    obtain ⟨i, v1, es, v2, os, rfl, hi, hM, HRS, hA⟩ := hrel
    have cw : Chg [] w wr := hA.chg0 w HK.out.2 hB
    have HA := hide hA
    have HCW := hide cw
    by_cases hlt : i < n
    · obtain ⟨o, ho⟩ : ∃ o, ops[i]? = some o := by
        rw [← HL.out] at hlt
        exact ⟨_, List.getElem?_eq_getElem hlt⟩
      obtain ⟨b, off, aa, na, ca, rfl, hbl, hc0, hc1, hArg, hkd⟩ := (HS.out.chg cw).at_ i o ho
      have hol : os.length < 1000 := by
        have h1 := runS_len (ops.take i)
        rw [HRS.out] at h1
        have h2 : (ops.take i).length ≤ i := by simp; omega
        have h3 : os.length ≤ (ops.take i).length := h1
        omega
      have HST := hide (Step_any bm bm eng o.1 na ca o.2 aa v1 v2 es os wr hM hol he HPR.out hArg hkd)
      have HRN : Hid (runS (ops.take (i + 1)) = stp o.1 o.2 (es.map (·.2), os)) := by
        have := runS_succ ho
        rw [HRS.out] at this
        exact this
      obtain ⟨kd, u⟩ := o
      dsimp only at hc0 HST HRN hkd
      clear hM hA cw ho hArg hol
      go_wp2_with fail
      refine HST.out.mono ?_
      rintro r w6 ⟨rfl, v1', es2, v2', hM6, hv6, hA6⟩
      have HM6 := hide (And.intro hM6 (And.intro hv6 hA6))
      clear hM6 hv6 hA6 hc0 hc1
      go_wp2_with fail
      go_roundw
      case rel => exact ⟨i + 1, v1', es2, v2', _, by go_num, by omega, HM6.out.1, (by unfold Hid; rw [HRN.out, HM6.out.2.1]), HA.out.trans HM6.out.2.2⟩
      case measure => simp [intOf]; omega
    · have : i = n := by omega
      subst this
      have HOU := hide (outcome_any bm bm v1 v2 es os wr hM)
      have HRF : Hid (runS ops = (es.map (·.2), os)) := by
        have := HRS.out
        rwa [← HL.out, List.take_length] at this
      have k4 := HA.out.blk HK.out.1 b4lt
      clear hM hA cw
      go_wp2_with fail
      refine HOU.out.mono ?_
      rintro r w6 ⟨a1, a2, es', rfl, hOc, hmap, hCo, c6⟩
      have k6 := c6.blk k4 (by simp)
      have el : es'.length = es.length := by
        have := congrArg List.length hmap
        simpa using this
      rw [← el] at hOc ⊢
      have HEL := hide el
      have HRF2 : Hid ((runS ops).1 = es'.map (·.2) ∧ (runS ops).2 = os) := by
        unfold Hid
        rw [HRF.out, hmap]
        exact ⟨rfl, rfl⟩
      have y0 := k6.cell 0 _ rfl
      have y1 := k6.cell 1 _ rfl
      have y2 := k6.cell 2 _ rfl
      have z0 := k6.frozen 0 none
      have z1 := k6.frozen 1 none
      have z2 := k6.frozen 2 none
      obtain ⟨n1, hn1⟩ : ∃ n1, n1 = es'.length := ⟨_, rfl⟩
      rw [← hn1] at hOc ⊢
      have HN1 := hide hn1
      clear hn1
      obtain ⟨m1, hm1⟩ : ∃ m1, m1 = os.length := ⟨_, rfl⟩
      rw [← hm1] at HOU ⊢
      have HMM := hide hm1
      have V1 := ((k6.set 0 (.bool false)).set 1 (.slice a1 n1 n1)).set 2 (.slice a2 m1 m1)
      have C1 := ((((Chg.refl [b4] w6)).setCell ⟨b4, 0, none⟩ (by simp) (.bool false)).setCell ⟨b4, 1, none⟩ (by simp) (.slice a1 n1 n1)).setCell ⟨b4, 2, none⟩ (by simp) (.slice a2 m1 m1)
      have HV := hide (And.intro V1 (And.intro C1 (And.intro (HCW.out.trans c6) (And.intro hOc hCo))))
      have HK6 := hide k6
      clear V1 C1 k4 k6 hCo hOc c6 hmap el hm1
      go_wp2_with fail
      refine bodyPost_ret (results_cell rfl _ _ _ b4 0 rfl [.bool false, .slice a1 n1 n1, .slice a2 m1 m1] _ (fun j v hj => by rw [Nat.zero_add]; exact HV.out.1.cell j v hj) Takg.underlying98 rfl info98) rfl ?_
      refine ⟨a1, a2, es', by rw [HRF2.out.2, ← HN1.out, ← HMM.out], ?_, HRF2.out.1.symm, ?_, HV.out.2.2.1.news HV.out.2.1 (by simp; omega)⟩
      · rw [← HN1.out]
        exact HV.out.2.2.2.1.chg HK6.out (by decide) (by decide) HV.out.2.1
      · rw [HRF2.out.2]
        exact HV.out.2.2.2.2.chg HK6.out (by decide) HV.out.2.1

set_option maxRecDepth 10000 in
set_option maxHeartbeats 4000000 in
theorem Run_bad (eng n cap : Nat) (sa : Option Addr) (w : World) (he : eng ≤ 3) (hn : 128 < n) (hc : n ≤ 9223372036854775807) :
    Calls Takg.prog 53 #[.int .u8 eng, .slice sa n cap] w fun e w' => e = .returned (.agg #[.bool true, .slice none 0 0, .slice none 0 0]) ∧ Chg [] w w' := by
  go_enter Takg.func53, Takg.ntmps53
  go_upto_region 1 with (refine wpList_new98 (by rfl) (by rfl) ?_; intro b4 w4 hb4 k4 c4)
  simp only [Act.put, List.setIfInBounds_toArray, List.set_cons_zero, List.set_cons_succ]
  have h4 : w.heap.size ≤ b4 := by have := hb4.out; omega
  have y0 := k4.cell 0 _ rfl
  have y1 := k4.cell 1 _ rfl
  have y2 := k4.cell 2 _ rfl
  have z0 := k4.frozen 0 none
  have z1 := k4.frozen 1 none
  have z2 := k4.frozen 2 none
  have hbd : ∀ W, (Instr.build 98 #[(0, Value.bool true)]).run Takg.prog W = .ok (.agg #[.bool true, .slice none 0 0, .slice none 0 0]) W := fun W => by kernel_rfl
  have V1 := ((k4.set 0 (.bool true)).set 1 (.slice none 0 0)).set 2 (.slice none 0 0)
  have C1 := ((c4.setNew ⟨b4, 0, none⟩ h4 (.bool true)).setNew ⟨b4, 1, none⟩ h4 (.slice none 0 0)).setNew ⟨b4, 2, none⟩ h4 (.slice none 0 0)
  have HV := hide (And.intro V1 C1)
  clear V1 C1 k4 c4 hb4
  go_wp2_with fail
  refine bodyPost_ret (results_cell rfl _ _ _ b4 0 rfl [.bool true, .slice none 0 0, .slice none 0 0] _ (fun j v hj => by rw [Nat.zero_add]; exact HV.out.1.cell j v hj) Takg.underlying98 rfl info98) rfl ?_
  exact ⟨rfl, HV.out.2⟩
end Na
end Go.Proofs.Ygctak
