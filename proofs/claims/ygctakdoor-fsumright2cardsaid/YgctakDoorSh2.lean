/-
  Walk: shew.Grow.
-/
import Derived.Test.YgctakDoorSh1
import Derived.ArgAppend
namespace Go.Proofs.YgctakDoor
open Go.RowKit
set_option linter.unusedVariables false
set_option linter.unusedSimpArgs false
attribute [local go_sem ↓] Go.wp_at_zero Go.wp_at_succ
namespace Shw
open Ac Rn Fl

theorem run_store_float {P : Program} (w : World) (a : Addr) (m : Mode) (k : FloatKind) (x : Nat) : (store a (.float k x) m).run P w = stored P w a (.float k x) m := run_store P w a _ m rfl
attribute [local go_sem] run_store_float

/-- The cells of a row of doubles. -/
def fls (ps : List Nat) : List Value := ps.map fun p => .float .f64 p
theorem fls_length (ps : List Nat) : (fls ps).length = ps.length := by simp [fls]
theorem fls_get (ps : List Nat) (i : Nat) (h : i < ps.length) : (fls ps)[i]? = some (.float .f64 (ps.getD i 0)) := by simp [fls, h]

theorem info33 : (Takg.prog.info? 33).map (fun i => (i.zero, i.size, i.bytes)) = some (some (.float .f64 0), 1, 8) := by kernel_rfl

/-- The first cells hold the doubles qs. -/
def Pre (cs : List Value) (qs : List Nat) : Prop := ∀ j, j < qs.length → cs[j]? = some (.float .f64 (qs.getD j 0))

theorem Pre.set {cs : List Value} {qs : List Nat} (h : Pre cs qs) (t : Nat) (hl : qs.length < cs.length) : Pre (cs.set qs.length (.float .f64 t)) (qs ++ [t]) := by
  intro j hj
  by_cases e : j = qs.length
  · subst e
    rw [List.getElem?_set_self hl]
    simp [List.getD_eq_getElem?_getD]
  · have hj2 : j < qs.length := by simp at hj; omega
    rw [List.getElem?_set_ne (Ne.symm e), h j hj2]
    simp [List.getD_eq_getElem?_getD, List.getElem?_append_left hj2]

theorem drop_map (ps : List Nat) (i : Nat) (h : i < ps.length) : (ps.drop i).map V = V (ps.getD i 0) :: (ps.drop (i + 1)).map V := by
  rw [List.drop_eq_getElem_cons h, List.map_cons, List.getD_eq_getElem?_getD, List.getElem?_eq_getElem h]
  rfl

set_option maxHeartbeats 1000000 in
theorem Grow_any (E b cap : Nat) (ps : List Nat) (cs0 : List Value) (x0 : Nat) (w : World) (hE : E ≤ 1006) (hn : ps.length ≤ 3) (hlen : cs0.length = cap) (hcap : 4 ≤ cap) (hcap2 : cap ≤ 2000) (hpre : Pre cs0 ps) (hb : Blk w b 33 cs0)
    (hps : ∀ p ∈ ps, Dbl E p) (hx : Dbl E x0) :
    Calls Takg.prog 28 #[.slice (some ⟨b, 0, none⟩) ps.length cap, .float .f64 x0] w fun e w' => ∃ qs cs, e = .returned (.slice (some ⟨b, 0, none⟩) (qs : List Nat).length cap) ∧ qs.length ≤ ps.length + 1 ∧ (cs : List Value).length = cap ∧ Pre cs qs ∧
      qs.map V = growV (ps.map V) (V x0) ∧ (∀ q ∈ qs, Dbl (E + ps.length) q) ∧ Blk w' b 33 cs ∧ Chg [b] w w' := by
  obtain ⟨i33, hi33⟩ : ∃ i, Takg.prog.info? 33 = some i := by
    have := info33
    cases h : Takg.prog.info? 33 with
    | none => rw [h] at this; cases this
    | some i => exact ⟨i, rfl⟩
  have hinf := info33
  rw [hi33] at hinf
  simp only [Option.map_some, Option.some.injEq, Prod.mk.injEq] at hinf
  obtain ⟨hz33, hs33, hb33⟩ := hinf
  have HI := hide hi33
  have HZ33 := hide hz33
  have HS33 := hide hs33
  have HB33 := hide hb33
  obtain ⟨G, hG⟩ : ∃ G, G = growV (ps.map V) (V x0) := ⟨_, rfl⟩
  rw [← hG]
  obtain ⟨n, hnn0⟩ : ∃ n, n = ps.length := ⟨_, rfl⟩
  have HP := hide hps
  have hp0 := hide hpre
  rw [← hnn0] at hn ⊢
  have hnn := hide hnn0
  clear hnn0 hi33 hz33 hs33 hb33 hps hpre
  go_enter Takg.func28, Takg.ntmps28
  go_wp2_with fail
  go_loopw [1, 5, 6] (fun x k i wr => ∃ (i' : Nat) (qs : List Nat) (xw : Nat) (cs : List Value), x = .float .f64 xw ∧ k = .int .i64 qs.length ∧ i = .int .i64 i' ∧ i' ≤ n ∧ qs.length ≤ i' ∧ cs.length = cap ∧ Hid (Pre cs qs) ∧ Hid (∀ j, i' ≤ j → j < n → cs[j]? = some (.float .f64 (ps.getD j 0))) ∧
    Hid (qs.map V ++ growV ((ps.drop i').map V) (V xw) = G) ∧ Hid (Dbl (E + i') xw) ∧ Hid (∀ q ∈ qs, Dbl (E + n) q) ∧ Blk wr b 33 cs ∧ Chg [b] w wr) (fun _ _ i _ => n - (intOf i).toNat)
  case atStart => exact ⟨0, [], x0, cs0, rfl, rfl, rfl, by omega, by simp, hlen, (fun j hj => by simp at hj), (fun j _ hj => hp0.out j (by have := hnn.out; omega)), (by unfold Hid; rw [hG]; simp), hx, (fun q hq => by cases hq), hb, Chg.refl _ _⟩
  case round =>
    clear hb hx hG hlen
    obtain ⟨i, qs, xw, cs, rfl, rfl, rfl, hi, hq, hlen, HPRE, HREST, HEQ, HX, HQ, hb, hc⟩ := hrel
    obtain ⟨kept, hk0⟩ : ∃ k, k = qs.length := ⟨_, rfl⟩
    rw [← hk0] at hq ⊢
    have hk := hide hk0
    clear hk0
    by_cases hlt : i < n
    · have hcell := hb.cell i _ (HREST.out i (Nat.le_refl _) hlt)
      obtain ⟨p, hp⟩ : ∃ p, p = ps.getD i 0 := ⟨_, rfl⟩
      rw [← hp] at hcell
      have hpD : Dbl (E + i) p := by
        apply Dbl.mono (E := E) _ (by omega)
        rw [hp]
        apply HP.out
        rw [List.getD_eq_getElem?_getD, List.getElem?_eq_getElem (by have := hnn.out; omega)]
        exact List.getElem_mem _
      have HT := hide (fun W : World => TwoSum_any (E + i) xw p W (by omega) HX.out hpD)
      have HG1 := hide (drop_map ps i (by have := hnn.out; omega))
      rw [← hp] at HG1
      clear hpD hp
      go_wp2_with fail
      refine (HT.out _).mono ?_
      rintro e w' ⟨s, t, rfl, hs, ht, vs, vt, rfl⟩
      have hne := ne0_V ht.fin
      have heq := HEQ.out
      rw [HG1.out] at heq
      simp only [growV] at heq
      rw [← vt, ← vs] at heq
      have HS := hide hs
      have HTT := hide ht
      clear vs vt hs ht HT HG1 HEQ hcell
      by_cases h0 : V t = 0
      · rw [decide_eq_false (by simpa using h0)] at hne
        rw [if_pos h0] at heq
        have HEQ := hide heq
        clear heq h0
        go_wp2_with fail
        go_roundw
        case rel => exact ⟨i + 1, qs, s, cs, rfl, by rw [hk.out], by go_num, by omega, by have := hk.out; omega, hlen, HPRE, (fun j h1 h2 => HREST.out j (by omega) h2), HEQ, HS, HQ, hb, hc⟩
        case measure => simp [intOf]; omega
      · rw [decide_eq_true (by simpa using h0)] at hne
        rw [if_neg h0] at heq
        have hcell2 : ∃ v, cs[kept]? = some v := ⟨_, List.getElem?_eq_getElem (by omega)⟩
        obtain ⟨v0, hv0⟩ := hcell2
        have k1 := hb.cell kept _ hv0
        have f0 := hb.frozen kept none
        have hnext := hb.set kept (.float .f64 t)
        have HEQ : Hid ((qs ++ [t]).map V ++ growV ((ps.drop (i + 1)).map V) (V s) = G) := by unfold Hid; rw [← heq]; simp
        clear heq h0 hv0
        go_wp2_with fail
        go_roundw
        case rel =>
          refine ⟨i + 1, qs ++ [t], s, _, rfl, ?_, by go_num, by omega, by have := hk.out; simp; omega, ?_, ?_, ?_, HEQ, HS, ?_, hnext, hc.setCell _ (by simp) _⟩
          · rw [hk.out]; simp
          · simp [hlen]
          · have := HPRE.out.set t (by have := hk.out; omega); rw [← hk.out] at this; exact this
          · intro j h1 h2
            rw [List.getElem?_set_ne (by omega)]
            exact HREST.out j (by omega) h2
          · intro q hq'
            rw [List.mem_append, List.mem_singleton] at hq'
            rcases hq' with h | rfl
            · exact HQ.out q h
            · exact HTT.out.mono (by omega)
        case measure => simp [intOf]; omega
    · have hin : i = n := by omega
      subst hin
      have heq := HEQ.out
      rw [List.drop_eq_nil_of_le (by have := hnn.out; omega)] at heq
      simp only [List.map_nil, growV] at heq
      have hne := ne0_V HX.out.fin
      clear HEQ HREST
      by_cases h0 : V xw = 0
      · rw [decide_eq_false (by simpa using h0)] at hne
        rw [if_pos h0, List.append_nil] at heq
        have HEQ := hide heq
        clear heq h0
        go_wp2_with fail
        go_ret
        exact ⟨qs, cs, by rw [hk.out]; rfl, by have := hk.out; omega, hlen, HPRE.out, HEQ.out, HQ.out, hb, hc⟩
      · rw [decide_eq_true (by simpa using h0)] at hne
        rw [if_neg h0] at heq
        have HEQ := hide heq
        clear heq h0
        have hcell2 : ∃ v, cs[kept]? = some v := ⟨_, List.getElem?_eq_getElem (by omega)⟩
        obtain ⟨v0, hv0⟩ := hcell2
        have hold : ∀ (j : Nat) (u : Value), (cs.take kept)[j]? = some u → (wr.alloc (Obj.cells #[Value.float .f64 xw] 33)).cell? ⟨b, 0 + j, none⟩ = some u := fun j u hj => by
          rw [Nat.zero_add]
          apply (hb.alloc _).cell
          rw [List.getElem?_take] at hj
          split at hj
          · exact hj
          · cases hj
        have hnw : ∀ (j : Nat) (u : Value), [Value.float .f64 xw][j]? = some u → (wr.alloc (Obj.cells #[Value.float .f64 xw] 33)).cell? ((⟨wr.heap.size, 0, none⟩ : Addr).add j) = some u := fun j u hj => by
          rw [Addr.add_lit, Nat.zero_add]
          exact (Blk.new wr [Value.float .f64 xw] 33).cell j u hj
        have hsp : kept + 1 ≤ cap → ∀ j, j < [Value.float .f64 xw].length → ((wr.alloc (Obj.cells #[Value.float .f64 xw] 33)).cell? ⟨b, 0 + kept * 1 + j, none⟩).isSome = true ∧ (wr.alloc (Obj.cells #[Value.float .f64 xw] 33)).frozen? ⟨b, 0 + kept * 1 + j, none⟩ = false := fun _ j hj => by
          have hj0 : j = 0 := by simpa using hj
          subst hj0
          rw [show 0 + kept * 1 + 0 = kept by omega, (hb.alloc _).cell kept _ hv0]
          exact ⟨rfl, (hb.alloc _).frozen kept none⟩
        have HOLD := hide hold
        have HNW := hide hnw
        have HSP := hide hsp
        have X1 := hb.alloc (Obj.cells #[Value.float .f64 xw] 33)
        have X4 := hc.alloc (Obj.cells #[Value.float .f64 xw] 33)
        have hlk : (cs.take kept).length = kept := by rw [List.length_take]; omega
        clear hold hnw hsp hv0
        go_wp2_with (refine wpList_append_arg _ (by rfl) (.tmp 38) (.tmp 40) 27 (by rfl) 33 i33 (.float .f64 0) 1 8 Takg.underlying27 HI.out HZ33.out HS33.out HB33.out (by rfl) (by omega) b 0 kept cap (cs.take kept) (by rfl) (by rw [hlk]; omega) HOLD.out _ 1 1 [.float .f64 xw] (by rfl) (by simp) HNW.out (by intro u hu; simp at hu; subst hu; rfl) HSP.out (by unfold maxLen; omega) (by omega) (fun _ => ?_) (fun h => by omega))
        go_ret
        have hset : ∀ W : World, W.setCells b kept [.float .f64 xw] = W.setCell ⟨b, kept, none⟩ (.float .f64 xw) := fun W => by simp [World.setCells]
        refine ⟨qs ++ [xw], cs.set kept (.float .f64 xw), ?_, by have := hk.out; simp; omega, by simp [hlen], ?_, by rw [← HEQ.out]; simp, ?_, ?_, ?_⟩
        · rw [hk.out]; simp
        · have := HPRE.out.set xw (by have := hk.out; omega); rw [← hk.out] at this; exact this
        · intro q hq'
          rw [List.mem_append, List.mem_singleton] at hq'
          rcases hq' with h | rfl
          · exact HQ.out q h
          · exact HX.out.mono (by omega)
        · rw [hset]; exact X1.set kept _
        · rw [hset]; exact X4.setCell _ (by simp) _
end Shw
end Go.Proofs.YgctakDoor
