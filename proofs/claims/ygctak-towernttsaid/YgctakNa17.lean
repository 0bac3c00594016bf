/-
  calc.Check: the machine is in order. calc.copied.
-/
import Derived.Test.YgctakNa16
import Derived.Test.YgctakNa14
namespace Go.Proofs.Ygctak
open Go.RowKit
set_option linter.unusedVariables false
set_option linter.unusedSimpArgs false
attribute [local go_sem ↓] Go.wp_at_zero Go.wp_at_succ
namespace Na

/-- The machine's stack, as it lies. -/
theorem Mac.stk {B bm : Nat} {w : World} {v1 v2 : Value} {es : Es} {os : List Int} (h : Mac B w bm v1 es v2 os) :
    ∃ a cap, v1 = .slice a es.length cap ∧ es.length ≤ cap ∧ cap ≤ maxLen ∧ (es = [] ∨ ∃ g, a = some ⟨g, 0, none⟩ ∧ Stk w g cap es) := by
  rcases h.s.2 with ⟨h1, h2⟩ | ⟨g, cap, cur, e1, hb, hg, hn, hm, hsz, ht⟩
  · exact ⟨none, 0, by rw [h2]; exact h1, by omega, by unfold maxLen; omega, .inl (List.eq_nil_of_length_eq_zero h2)⟩
  · refine ⟨some ⟨g, 0, none⟩, cap, e1, hn, hm, .inr ⟨g, rfl, ⟨(Array.getElem?_eq_some_iff.1 hg).1, fun j e he => ?_, h.ent, h.dis, h.n1, hn⟩⟩⟩
    have hk : Blk w g 83 cur.toList := by unfold Blk; simpa using hg
    rw [hk.cellq j]
    have hj := (List.getElem?_eq_some_iff.1 he).1
    have : (Sv es)[j]? = some (.slice e.1 (dlen e.2) (dlen e.2)) := by unfold Sv; rw [List.getElem?_map, he]; rfl
    rw [← ht, List.getElem?_take] at this
    rw [if_pos (by omega)] at this
    exact this

set_option maxRecDepth 10000 in
set_option maxHeartbeats 2000000 in
theorem Check_any (B bm : Nat) (v1 v2 : Value) (es : Es) (os : List Int) (w : World) (h : Mac B w bm v1 es v2 os) :
    Calls Takg.prog 125 #[.pointer (some ⟨bm, 0, none⟩)] w fun e w' => e = .returned (.bool true) ∧ Chg [] w w' := by
  obtain ⟨a, cap, rfl, hcap, hmax, hst⟩ := h.stk
  have f0 := h.m.cell 0 _ rfl
  have hbm := h.m.lt
  have hn16 := h.n1
  have HM := hide h.m
  have HS := hide hst
  obtain ⟨n, en⟩ : ∃ n, n = es.length := ⟨_, rfl⟩
  rw [← en] at hcap hn16 f0
  have HEN := hide en
  clear h hst en
  go_enter Takg.func125, Takg.ntmps125
  go_upto_region 4 with fail
  go_loop [3] (fun x => ∃ m : Nat, x = .int .i64 m ∧ m ≤ n) (fun x => n - (intOf x).toNat)
  case atStart => exact ⟨0, rfl, by omega⟩
  case round =>
    obtain ⟨m, rfl, m1⟩ := hrel
    by_cases hm : m < n
    · obtain ⟨f, hf⟩ : ∃ f, es[m]? = some f := by
        rw [HEN.out] at hm
        exact ⟨_, List.getElem?_eq_getElem hm⟩
      rcases HS.out with h0 | ⟨g, rfl, hS⟩
      · rw [h0] at hf; simp at hf
      have hcf := hS.cell m f hf
      have hE := hS.ent f (List.mem_of_getElem? hf)
      have HN := hide (Normal_any f.1 f.2 w (by omega) hE.1)
      have hdl := hE.2
      generalize dlen f.2 = df at *
      clear hf hS hE
      go_wp2_with fail
      refine HN.out.mono ?_
      rintro r w2 ⟨rfl, rfl⟩
      go_wp2_with fail
      go_round
      case rel => exact ⟨m + 1, by go_num, by omega⟩
      case measure => simp [intOf]; omega
    · have : m = n := by omega
      subst this
      clear hm m1
      go_upto_region 9 with fail
      clear f0
      go_loopw [4] (fun x wr => ∃ m2 : Nat, x = .int .i64 m2 ∧ m2 ≤ m ∧ Chg [] w wr) (fun x _ => m - (intOf x).toNat)
      case atStart => exact ⟨0, rfl, by omega, Chg.refl _ _⟩
      case round =>
        obtain ⟨m2, rfl, hm2, cw⟩ := hrel
        have f0 := (cw.blk HM.out (by simp)).cell 0 _ rfl
        rw [← HEN.out] at f0
        have hbm2 : bm < wr.heap.size := Nat.lt_of_lt_of_le hbm cw.size
        by_cases hlt : m2 < m
        · obtain ⟨f, hf⟩ : ∃ f, es[m2]? = some f := by
            rw [HEN.out] at hlt
            exact ⟨_, List.getElem?_eq_getElem hlt⟩
          rcases HS.out with h0 | ⟨g, rfl, hS⟩
          · rw [h0] at hf; simp at hf
          have hcf := (hS.chg0 cw).cell m2 f hf
          have hE := (hS.chg0 cw).ent f (List.mem_of_getElem? hf)
          have HN := hide (fun h => shares_any g cap m2 es f wr (hS.chg0 cw) hf h)
          rw [← HEN.out] at HN
          have HNL := hide hE.1.nil
          have HSM := hide hE.1.som
          have hdl := hE.2
          have HCW := hide cw
          obtain ⟨f1, f2⟩ := f
          dsimp only at hcf HN HNL HSM hdl
          generalize dlen f2 = df at *
          clear hf hS hE cw
          rcases Nat.eq_zero_or_pos f2 with h0 | h0
          · have hn := HNL.out h0
            subst hn
            have q2 := neq_nil 83 5 none df df Takg.underlying83 wr
            have q3 : (none : Option Addr).isNone = true := rfl
            go_wp2_with fail
            go_roundw
            case rel => exact ⟨m2 + 1, by go_num, by omega, HCW.out⟩
            case measure => simp [intOf]; omega
          · obtain ⟨c, rfl, _⟩ := HSM.out h0
            have q2 := neq_nil 83 5 (some ⟨c, 0, none⟩) df df Takg.underlying83 wr
            have q3 : (some (⟨c, 0, none⟩ : Addr)).isNone = false := rfl
            go_wp2_with fail
            refine (HN.out h0).mono ?_
            rintro r w2 ⟨rfl, cw2⟩
            have HC2 := hide (HCW.out.trans cw2)
            clear cw2 f0
            go_wp2_with fail
            go_roundw
            case rel => exact ⟨m2 + 1, by go_num, by omega, HC2.out⟩
            case measure => simp [intOf]; omega
        · have : m2 = m := by omega
          subst this
          go_wp2_with fail
          go_ret
          exact ⟨rfl, cw⟩

set_option maxRecDepth 10000 in
set_option maxHeartbeats 2000000 in
theorem copied_any (a : Option Addr) (v : Nat) (w : World) (hl : dlen v ≤ 1024) (h : Ent w a v) :
    Calls Takg.prog 129 #[.slice a (dlen v) (dlen v)] w fun e w' => ∃ a', e = .returned (.slice a' (dlen v) (dlen v)) ∧ New w w' a' v ∧ Chg [] w w' := by
  have E := eql_nil 83 5 a (dlen v) (dlen v) Takg.underlying83
  rcases Nat.eq_zero_or_pos v with h0 | h0
  · subst h0
    have := h.nil rfl
    subst this
    rw [dlen_zero] at E ⊢
    have E2 : ∀ w, (binOp .eql 83 (.slice none 0 0) (.slice none 0 0)).run Takg.prog w = .ok (.bool true) w := E
    clear E h
    go_enter Takg.func129, Takg.ntmps129
    go_wp2_with fail
    go_ret
    exact ⟨none, rfl, New.zero _ _, Chg.refl _ _⟩
  · obtain ⟨b, rfl, hr⟩ := h.som h0
    have E2 : ∀ w, (binOp .eql 83 (.slice (some ⟨b, 0, none⟩) (dlen v) (dlen v)) (.slice none 0 0)).run Takg.prog w = .ok (.bool false) w := E
    obtain ⟨L, hL⟩ : ∃ L, L = dlen v := ⟨_, rfl⟩
    have hL0 : 0 < L := by rw [hL]; exact dlen_pos h0
    rw [← hL] at E2 hl hr ⊢
    have HL := hide hL
    have HR := hide hr
    have HV := hide h0
    clear E hL h h0 hr
    have hmk := make_run (P := Takg.prog) 83 5 (.int .u8 0) 1 L rfl Takg.underlying83 info5 (by omega) (by omega)
    go_enter Takg.func129, Takg.ntmps129
    go_upto_region 5 with fail
    clear hmk E2
    obtain ⟨g, hg⟩ : ∃ g, g = w.heap.size := ⟨_, rfl⟩
    have hbn := Blk.newRep w L (Value.int .u8 0) 5
    have hch := (Chg.refl [] w).alloc (.cells (Array.replicate L (Value.int .u8 0)) 5)
    rw [← hg] at hbn ⊢
    have gg : w.heap.size ≤ g := by omega
    have hbg : b ≠ g := by have := HR.out.lt; omega
    clear hg
    generalize w.alloc (.cells (Array.replicate L (Value.int .u8 0)) 5) = w2 at *
    go_loopw [4] (fun x wr => ∃ (m : Nat) (cs : List Value), x = .int .i64 m ∧ m ≤ L ∧ Blk wr g 5 cs ∧ cs.length = L ∧ Hid (∀ j, j < m → cs[j]? = some (.int .u8 (dgt v j : Nat))) ∧ Chg [] w wr) (fun x _ => L - (intOf x).toNat)
    case atStart => exact ⟨0, _, rfl, Nat.zero_le _, hbn, by simp, fun j hj => by omega, hch⟩
    case round =>
      clear hbn hch
      obtain ⟨m, cs, rfl, hm, hk, hcl, hd, cw⟩ := hrel
      by_cases hlt : m < L
      · have hcb := (HR.out.chg cw (by simp)).cell m hlt
        rw [Nat.zero_add] at hcb
        have V1 := hk.set m (.int .u8 (dgt v m : Nat))
        have V2 := cw.setNew ⟨g, m, none⟩ gg (.int .u8 (dgt v m : Nat))
        have hfz := hk.frozen m none
        have hcg := hk.cell m _ (List.getElem?_eq_getElem (by omega : m < cs.length))
        generalize cs[m]'(by omega) = pk at hcg
        have hdg := dgt_lt v m
        have HD2 : Hid (∀ j, j < m + 1 → (cs.set m (.int .u8 (dgt v m : Nat)))[j]? = some (.int .u8 (dgt v j : Nat))) := fun j hj => by
          rw [List.getElem?_set]
          by_cases hjm : m = j
          · subst hjm; simp [hcl, hlt]
          · rw [if_neg hjm]; exact hd.out j (by omega)
        have HL2 : (cs.set m (.int .u8 (dgt v m : Nat))).length = L := by simp [hcl]
        have HV2 := hide (And.intro HL2 (And.intro V1 V2))
        clear HL2 V1 V2 hk cw hd
        generalize dgt v m = dd at *
        go_wp2_with fail
        go_roundw
        case rel => exact ⟨m + 1, _, by go_num, by omega, HV2.out.2.1, HV2.out.1, HD2, HV2.out.2.2⟩
        case measure => simp [intOf]; omega
      · have : m = L := by omega
        subst this
        go_wp2_with fail
        go_ret
        refine ⟨some ⟨g, 0, none⟩, rfl, ⟨⟨fun h => absurd h (by have := HV.out; omega), fun _ => ⟨g, rfl, hk.lt, fun j hj => ?_⟩, fun b' hb' => (by simp only [Option.some.injEq, Addr.mk.injEq] at hb'; exact hb'.1 : g = b') ▸ ⟨5, _, hk⟩⟩, fun b' hb' => ?_⟩, cw⟩
        · rw [← HL.out] at hj
          rw [Nat.zero_add]
          exact hk.cell j _ (hd.out j hj)
        · simp only [Option.some.injEq, Addr.mk.injEq] at hb'
          omega
end Na
end Go.Proofs.Ygctak
