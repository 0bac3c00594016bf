/-
  law.sameOut, law.onlyBad, law.isOutcome, law.cutScript.
-/
import Derived.Test.YgctakNa29
import Derived.Test.YgctakNa31
import Derived.BigQuiet
namespace Go.Proofs.Ygctak
open Go.RowKit
set_option linter.unusedVariables false
set_option linter.unusedSimpArgs false
attribute [local go_sem ↓] Go.wp_at_zero Go.wp_at_succ
namespace Na

set_option maxRecDepth 10000 in
set_option maxHeartbeats 2000000 in
theorem sameOut_any (a b : Option Addr) (c d : Nat) (os : List Int) (w : World) (hn : os.length ≤ 1000) (h1 : Cells w a (Ov os)) (h2 : Cells w b (Ov os)) :
    Calls Takg.prog 95 #[.slice a os.length c, .slice b os.length d] w fun e w' => e = .returned (.bool true) ∧ Chg [] w w' := by
  have H1 := hide h1
  have H2 := hide h2
  obtain ⟨n, en⟩ : ∃ n, n = os.length := ⟨_, rfl⟩
  rw [← en] at hn ⊢
  have HEN := hide en
  clear en h1 h2
  go_enter Takg.func95, Takg.ntmps95
  go_upto_region 4 with fail
  go_loopw [5] (fun x wr => ∃ m : Nat, x = .int .i64 m ∧ m ≤ n ∧ Chg [] w wr) (fun x _ => n - (intOf x).toNat)
  case atStart => exact ⟨0, rfl, by omega, Chg.refl _ _⟩
  case round =>
    obtain ⟨m, rfl, hm, cw⟩ := hrel
    by_cases hlt : m < n
    · obtain ⟨z, hz⟩ : ∃ z, os[m]? = some z := by
        rw [HEN.out] at hlt
        exact ⟨_, List.getElem?_eq_getElem hlt⟩
      have hz2 : (Ov os)[m]? = some (.int .i8 z) := by unfold Ov; rw [List.getElem?_map, hz]; rfl
      obtain ⟨ba, rfl, c1⟩ : ∃ ba, a = some ⟨ba, 0, none⟩ ∧ wr.cell? ⟨ba, m, none⟩ = some (.int .i8 z) := by
        rcases H1.out.chg0 cw with h | ⟨b, h1, h2, h3⟩
        · rw [h] at hz2; simp at hz2
        · exact ⟨b, h1, h3 m _ hz2⟩
      obtain ⟨bb, rfl, c2⟩ : ∃ bb, b = some ⟨bb, 0, none⟩ ∧ wr.cell? ⟨bb, m, none⟩ = some (.int .i8 z) := by
        rcases H2.out.chg0 cw with h | ⟨b, h1, h2, h3⟩
        · rw [h] at hz2; simp at hz2
        · exact ⟨b, h1, h3 m _ hz2⟩
      have q : (z != z) = false := by simp
      have i1 : (0 : Int) ≤ (m : Int) := by omega
      have i2 : (m : Int) < (n : Int) := by omega
      have HCW := hide cw
      clear hz hz2 cw
      go_upto_region 6 with fail
      go_quiet (fail)
      have HC := hide (HCW.out.drewN nq)
      clear c1 c2
      go_wp2_with fail
      go_roundw
      case rel => exact ⟨m + 1, by go_num, by omega, HC.out⟩
      case measure => simp [intOf]; omega
    · have : m = n := by omega
      subst this
      go_wp2_with fail
      go_ret
      exact ⟨rfl, cw⟩

theorem wpList_box98 {ops : Array Oper} {rest : List Oper} {o1 : Oper} {a : Act} {w : World} {Q : Exit → Act → World → Prop} (hg1 : o1.guard = none) (x : Operand) (ho1 : o1.op = .box 98 x) (p q r : Value) (hx : a.eval x = .agg #[p, q, r])
    (h : ∀ b w2, Hid (b = w.heap.size) → Blk w2 b 98 [p, q, r] → Chg [] w w2 → wpList Takg.prog ops Q rest (a.put o1.dst (.pointer (some ⟨b, 0, none⟩))) w2) : wpList Takg.prog ops Q (o1 :: rest) a w := by
  refine wpList_plain hg1 fun K hK => ?_
  unfold Oper.wp
  have : (execOp a.eval o1).run Takg.prog w = .ok (.value (.pointer (some ⟨w.heap.size, 0, none⟩))) (w.alloc (.cells #[p, q, r] 98)) := by
    unfold execOp
    rw [ho1]
    simp only [hx]
    rfl
  rw [this, Oper.upon_value]
  exact hK _ _ (h _ _ rfl (Blk.new w [p, q, r] 98) ((Chg.refl [] w).alloc _))

set_option maxHeartbeats 1000000 in
theorem onlyBad_any (w : World) : Calls Takg.prog 54 #[.agg #[.bool true, .slice none 0 0, .slice none 0 0]] w fun e w' => e = .returned (.bool true) ∧ Chg [] w w' := by
  have E1 := eql_nil 96 22 none 0 0 Takg.underlying96
  have E2 := eql_nil 90 62 none 0 0 Takg.underlying90
  have q : (none : Option Addr).isNone = true := rfl
  go_enter Takg.func54, Takg.ntmps54
  go_upto_region 1 with (refine wpList_box98 (by rfl) (.tmp 0) (by rfl) (.bool true) (.slice none 0 0) (.slice none 0 0) (by rfl) ?_; intro b1 w1 hb1 k1 c1)
  have f0 := k1.cell 0 _ rfl
  have f1 := k1.cell 1 _ rfl
  have f2 := k1.cell 2 _ rfl
  go_wp2_with fail
  go_ret
  exact ⟨rfl, c1⟩

set_option maxHeartbeats 1000000 in
theorem cut_no (sa : Option Addr) (n cap : Nat) (w : World) (hn : n ≤ 129) : Calls Takg.prog 51 #[.slice sa n cap] w fun e w' => e = .returned (.slice sa n cap) ∧ w' = w := by
  go_enter Takg.func51, Takg.ntmps51
  go_wp2_with fail
  go_ret
  exact ⟨rfl, rfl⟩

set_option maxHeartbeats 1000000 in
theorem cut_yes (b off n cap : Nat) (w : World) (hn : 129 < n) (hc : n ≤ cap) (hc2 : cap ≤ 9223372036854775807) : Calls Takg.prog 51 #[.slice (some ⟨b, off, none⟩) n cap] w fun e w' => e = .returned (.slice (some ⟨b, off, none⟩) 129 129) ∧ w' = w := by
  go_enter Takg.func51, Takg.ntmps51
  go_wp2_with fail
  go_ret
  exact ⟨rfl, rfl⟩

set_option maxRecDepth 10000 in
set_option maxHeartbeats 4000000 in
theorem isOutcome_any (a1 a2 b1 b2 : Option Addr) (c1 c2 : Nat) (es es' : Es) (os : List Int) (w : World) (h : StE w b1 c1 es b2 c2 os) (ho : Oc w a1 es'.length es') (hm : es'.map (·.2) = es.map (·.2)) (hot : Ot w a2 os) :
    Calls Takg.prog 55 #[.agg #[.bool false, .slice a1 es'.length es'.length, .slice a2 os.length os.length], .slice b1 es.length c1, .slice b2 os.length c2] w fun e w' => e = .returned (.bool true) ∧ Chg [] w w' := by
  have el : es'.length = es.length := by
    have := congrArg List.length hm
    simpa using this
  have HSO := hide (fun W (hW : Chg [] w W) => sameOut_any a2 b2 os.length c2 os W h.n2 (hot.chg0 hW).cells (h.cel2.chg0 hW))
  have HH := hide h
  have HOC := hide ho
  have HMP := hide hm
  have hn16 := h.n1
  obtain ⟨n, en⟩ : ∃ n, n = es.length := ⟨_, rfl⟩
  rw [el] at HOC ⊢
  rw [← en] at hn16 HOC ⊢
  generalize os.length = m at *
  have HEN := hide en
  have HEL := hide el
  clear h ho hm hot en el
  go_enter Takg.func55, Takg.ntmps55
  go_upto_region 1 with (refine wpList_box98 (by rfl) (.tmp 0) (by rfl) (.bool false) (.slice a1 n n) (.slice a2 m m) (by rfl) ?_; intro b3 w1 hb3 k3 cw1)
  have f0 := k3.cell 0 _ rfl
  have f1 := k3.cell 1 _ rfl
  have f2 := k3.cell 2 _ rfl
  have q : (((n : Nat) : Int) != (n : Nat)) = false := by simp
  go_wp2_with fail
  refine (HSO.out _ cw1).mono ?_
  rintro r w2 ⟨rfl, cw2⟩
  have k32 := cw2.blk k3 (by simp)
  have cw12 := cw1.trans cw2
  clear f0 f1 f2 k3 cw1 cw2 hb3
  go_upto_region 4 with fail
  go_loopw [7] (fun x wr => ∃ i : Nat, x = .int .i64 i ∧ i ≤ n ∧ Blk wr b3 98 [.bool false, .slice a1 n n, .slice a2 m m] ∧ Chg [] w wr) (fun x _ => n - (intOf x).toNat)
  case atStart => exact ⟨0, rfl, by omega, k32, cw12⟩
  case round =>
    clear k32 cw12
    obtain ⟨i, rfl, hi, k3, cw⟩ := hrel
    by_cases hlt : i < n
    · obtain ⟨f, hf⟩ : ∃ f, es[i]? = some f := by
        rw [HEN.out] at hlt
        exact ⟨_, List.getElem?_eq_getElem hlt⟩
      obtain ⟨f', hf'⟩ : ∃ f', es'[i]? = some f' := by
        rw [HEN.out, ← HEL.out] at hlt
        exact ⟨_, List.getElem?_eq_getElem hlt⟩
      have hff : f'.2 = f.2 := by
        have h1 : (es'.map (·.2))[i]? = some f'.2 := by rw [List.getElem?_map, hf']; rfl
        have h2 : (es.map (·.2))[i]? = some f.2 := by rw [List.getElem?_map, hf]; rfl
        rw [HMP.out] at h1
        rw [h1] at h2
        injection h2
      obtain ⟨bs, hbs, hcs⟩ := HH.out.at hf
      subst hbs
      have x1 := hcs wr cw
      obtain ⟨go, hgo, hkgo⟩ : ∃ go, a1 = some ⟨go, 0, none⟩ ∧ Blk w go 22 (Sv es' ++ List.replicate (n - es'.length) (.slice none 0 0)) := by
        rcases HOC.out.stk with h1 | h1
        · omega
        · exact h1
      subst hgo
      have x2 := (cw.blk hkgo (by simp)).cell i (.slice f'.1 (dlen f'.2) (dlen f'.2)) (by
        have := (List.getElem?_eq_some_iff.1 hf').1
        rw [List.getElem?_append_left (by rw [Sv_length]; exact this)]
        unfold Sv; rw [List.getElem?_map, hf']; rfl)
      have e1 := ((HH.out.ent f (List.mem_of_getElem? hf)).1).chg0 cw
      have d1 := (HH.out.ent f (List.mem_of_getElem? hf)).2
      have e2 := ((HOC.out.ent f' (List.mem_of_getElem? hf')).1).chg0 cw
      rw [hff] at x2 e2
      have HT := hide (fun k => Cmp_same f'.1 f.1 f.2 (wr.drewN k) (by omega) (e2.chg0 ((Chg.refl [] wr).drewN k)) (e1.chg0 ((Chg.refl [] wr).drewN k)))
      obtain ⟨d, hd⟩ : ∃ d, d = dlen f.2 := ⟨_, rfl⟩
      rw [← hd] at x1 x2 HT d1
      have y1 := k3.cell 1 _ rfl
      have q2 : (((d : Nat) : Int) != (d : Nat)) = false := by simp
      have i1 : (0 : Int) ≤ (i : Int) := by omega
      have i2 : (i : Int) < (n : Int) := by omega
      have HK := hide (And.intro k3 cw)
      clear hf hf' hff hcs hkgo e1 e2 hd k3 cw
      go_upto_region 6 with fail
      go_cut [55] (fun x wc => x = .bool false ∧ Chg [] wr wc)
      case first =>
        go_quiet ((go_at_call 96; exact Calls.quiet_of (HT.out _)))
        go_wp2_with fail
        go_meet
        exact ⟨rfl, (Chg.refl [] wr).drewN _⟩
      case rest =>
        obtain ⟨rfl, cw4⟩ := hcut
        have HC4 := hide cw4
        clear x1 x2 y1 cw4
        go_wp2_with fail
        go_roundw
        case rel => exact ⟨i + 1, by go_num, by omega, HC4.out.blk HK.out.1 (by simp), HK.out.2.trans HC4.out⟩
        case measure => simp [intOf]; omega
    · have : i = n := by omega
      subst this
      go_wp2_with fail
      go_ret
      exact ⟨rfl, cw⟩
end Na
end Go.Proofs.Ygctak
