/-
  Slices of a machine: law.appended, law.stacked.
-/
import Derived.Test.YgctakNa7
namespace Go.Proofs.Ygctak
open Go.RowKit
set_option linter.unusedVariables false
set_option linter.unusedSimpArgs false
attribute [local go_sem ↓] Go.wp_at_zero Go.wp_at_succ
namespace Na

/-- The cells of a slice. -/
def Cells (w : World) (a : Option Addr) (cs : List Value) : Prop := cs = [] ∨ ∃ b, a = some ⟨b, 0, none⟩ ∧ b < w.heap.size ∧ ∀ j v, cs[j]? = some v → w.cell? ⟨b, j, none⟩ = some v
theorem Cells.chg {S : List Nat} {w w2 : World} {a : Option Addr} {cs : List Value} (h : Cells w a cs) (hc : Chg S w w2) (hn : ∀ b, a = some ⟨b, 0, none⟩ → b ∉ S) : Cells w2 a cs := by
  rcases h with h | ⟨b, h1, h2, h3⟩
  · exact .inl h
  · exact .inr ⟨b, h1, Nat.lt_of_lt_of_le h2 hc.size, fun j v hv => (hc.cell b _ h2 (hn b h1)).trans (h3 j v hv)⟩
theorem Cells.chg0 {w w2 : World} {a : Option Addr} {cs : List Value} (h : Cells w a cs) (hc : Chg [] w w2) : Cells w2 a cs := h.chg hc (fun _ _ => by simp)
theorem Cells.of {w : World} {b t : Nat} {cs : List Value} (h : Blk w b t cs) : Cells w (some ⟨b, 0, none⟩) cs := .inr ⟨b, rfl, h.lt, fun j v hv => h.cell j v hv⟩
theorem Cells.take {w : World} {a : Option Addr} {cs : List Value} (h : Cells w a cs) (n : Nat) : Cells w a (cs.take n) := by
  rcases h with h | ⟨b, h1, h2, h3⟩
  · exact .inl (by rw [h]; simp)
  · exact .inr ⟨b, h1, h2, fun j v hv => h3 j v (by
      rw [List.getElem?_take] at hv
      split at hv
      · exact hv
      · cases hv)⟩
theorem Ent.chg0 {w w2 : World} {a : Option Addr} {v : Nat} (h : Ent w a v) (hc : Chg [] w w2) : Ent w2 a v := h.chg hc (fun _ _ => by simp)

/-- What was put out. -/
def Ov (os : List Int) : List Value := os.map fun v => .int .i8 v
theorem Ov_length (os : List Int) : (Ov os).length = os.length := by simp [Ov]
theorem Ov_one (os : List Int) : ∀ x ∈ Ov os, x.oneCell' = true := fun x hx => by
  unfold Ov at hx
  rw [List.mem_map] at hx
  obtain ⟨j, _, rfl⟩ := hx
  rfl
/-- The entries of a stack. -/
abbrev Es := List (Option Addr × Nat)
def sv (e : Option Addr × Nat) : Value := .slice e.1 (dlen e.2) (dlen e.2)
def Sv (es : Es) : List Value := es.map sv
theorem Sv_length (es : Es) : (Sv es).length = es.length := by simp [Sv]
theorem Sv_one (es : Es) : ∀ x ∈ Sv es, x.oneCell' = true := fun x hx => by
  unfold Sv at hx
  rw [List.mem_map] at hx
  obtain ⟨j, _, rfl⟩ := hx
  rfl
theorem info62 : (Takg.prog.info? 62).map (fun i => (i.zero, i.size, i.bytes)) = some (some (.int .i8 0), 1, 1) := by kernel_rfl
theorem size62 : (Takg.prog.info? 62).map (·.size) = some 1 := by kernel_rfl
theorem info83 : (Takg.prog.info? 83).map (fun i => (i.zero, i.size, i.bytes)) = some (some (.slice none 0 0), 1, 24) := by kernel_rfl
theorem size83 : (Takg.prog.info? 83).map (·.size) = some 1 := by kernel_rfl

set_option maxHeartbeats 1000000 in
theorem appended_any (a : Option Addr) (cap : Nat) (os : List Int) (v : Int) (w : World) (hl : os.length ≤ 5000) (hc : os.length ≤ cap) (h : Cells w a (Ov os)) :
    Calls Takg.prog 89 #[.slice a os.length cap, .int .i8 v] w fun e w' => ∃ b, e = .returned (.slice (some ⟨b, 0, none⟩) (os.length + 1) (os.length + 1)) ∧ w.heap.size ≤ b ∧ Blk w' b 62 (Ov (os ++ [v])) ∧ Chg [] w w' := by
  obtain ⟨n, hn⟩ : ∃ n, n = os.length := ⟨_, rfl⟩
  rw [← hn] at hl hc ⊢
  have HN := hide hn
  have H := hide h
  clear hn h
  have hmk := make_run (P := Takg.prog) 90 62 (.int .i8 0) 1 (n + 1) rfl Takg.underlying90 info62 (by omega) (by omega)
  rw [show ((n + 1 : Nat) : Int) = (n : Int) + 1 by omega] at hmk
  go_enter Takg.func89, Takg.ntmps89
  go_upto_region 2 with fail
  clear hmk
  obtain ⟨g, hg⟩ : ∃ g, g = w.heap.size := ⟨_, rfl⟩
  have hbn := Blk.newRep w (n + 1) (Value.int .i8 0) 62
  have hch := (Chg.refl [] w).alloc (.cells (Array.replicate (n + 1) (Value.int .i8 0)) 62)
  rw [← hg] at hbn ⊢
  have gg : w.heap.size ≤ g := by omega
  have h2 := H.out.chg0 hch
  clear hg
  generalize w.alloc (.cells (Array.replicate (n + 1) (Value.int .i8 0)) 62) = w2 at *
  have e0 : List.replicate (n + 1) (Value.int .i8 0) = List.replicate n (Value.int .i8 0) ++ [Value.int .i8 0] := by rw [List.replicate_succ']
  rw [e0] at hbn
  clear e0
  go_upto_region 3 with (refine wpList_copyF (by rfl) (.tmp 10) (.tmp 11) 90 90 (by rfl) 62 Takg.underlying90 size62 (some ⟨g, 0, none⟩) a (n + 1) (n + 1) n cap (by rfl) (by rfl) g 62 (List.replicate n (.int .i8 0)) [.int .i8 0] (Ov os) (by rw [Ov_length, ← HN.out]; simp) hbn (by rw [Ov_length, ← HN.out]; exact (Nat.min_eq_left (by omega)).symm) (fun hp => ⟨rfl, by
      rcases h2 with h | ⟨b, h1, _, h3⟩
      · rw [h] at hp; simp at hp
      · exact ⟨_, h1, fun j x hx => by rw [addr_add, Nat.zero_add]; exact h3 j x hx⟩⟩) (Ov_one os) ?_; intro w3 hk3 hc3)
  have kc : w3.cell? ⟨g, n, none⟩ = some (.int .i8 0) := hk3.cell n _ (by
    rw [List.getElem?_append_right (by rw [Ov_length, ← HN.out]; exact Nat.le_refl _), Ov_length, ← HN.out, Nat.sub_self]; rfl)
  have fz := hk3.frozen n none
  have V0 := hk3.set n (.int .i8 v)
  have e1 : (Ov os ++ [Value.int .i8 0]).set n (.int .i8 v) = Ov (os ++ [v]) := by
    rw [List.set_append_right _ _ (by rw [Ov_length, ← HN.out]; exact Nat.le_refl _), Ov_length, ← HN.out, Nat.sub_self]
    simp [Ov]
  rw [e1] at V0
  have V4 := (hch.news hc3 (by simp; omega)).setNew ⟨g, n, none⟩ gg (.int .i8 v)
  clear e1 hk3
  go_wp2_with fail
  go_ret
  exact ⟨g, rfl, gg, V0, V4⟩

set_option maxRecDepth 10000 in
set_option maxHeartbeats 1000000 in
theorem stacked_any (a a' : Option Addr) (cap k v : Nat) (es : Es) (w : World) (hl : es.length ≤ 5000) (hc : es.length ≤ cap) (hk : k ≤ es.length) (hc2 : cap ≤ 9223372036854775807) (hnil : a = none → cap = 0) (hs : ∀ x, a = some x → ∃ b, x = ⟨b, 0, none⟩) (h : Cells w a (Sv es)) :
    Calls Takg.prog 90 #[.slice a es.length cap, .int .i64 k, .slice a' (dlen v) (dlen v)] w fun e w' => ∃ b, e = .returned (.slice (some ⟨b, 0, none⟩) (es.length - k + 1) (es.length - k + 1)) ∧ w.heap.size ≤ b ∧ Blk w' b 83 (Sv (es.take (es.length - k) ++ [(a', v)])) ∧ Chg [] w w' := by
  obtain ⟨N, hN⟩ : ∃ n, n = es.length := ⟨_, rfl⟩
  rw [← hN] at hl hc hk ⊢
  obtain ⟨n, hn⟩ : ∃ n, n = N - k := ⟨_, rfl⟩
  rw [← hn]
  have hni : (N : Int) - (k : Int) = (n : Int) := by omega
  have hnN : n ≤ N := by omega
  have HL : Hid ((es.take n).length = n) := by unfold Hid; rw [List.length_take]; omega
  have H := hide (h.take n)
  have HS : Hid ((Sv es).take n = Sv (es.take n)) := by unfold Hid Sv; rw [List.map_take]
  rw [HS.out] at H
  clear hn hN h HS
  have hmk := make_run (P := Takg.prog) 89 83 (.slice none 0 0) 24 (n + 1) rfl Takg.underlying89 info83 (by omega) (by omega)
  rw [show ((n + 1 : Nat) : Int) = (n : Int) + 1 by omega] at hmk
  cases a with
  | none =>
    have hcap := hnil rfl
    subst hcap
    have hn0 : n = 0 := by omega
    subst hn0
    have hN0 : N = 0 := by omega
    subst hN0
    have hk0 : k = 0 := by omega
    subst hk0
    clear hnil hs hni
    have hmk1 := make_run (P := Takg.prog) 89 83 (.slice none 0 0) 24 1 rfl Takg.underlying89 info83 (by omega) (by omega)
    rw [show ((1 : Nat) : Int) = 1 from rfl] at hmk1
    clear hmk
    go_enter Takg.func90, Takg.ntmps90
    go_upto_region 3 with fail
    clear hmk1
    obtain ⟨g, hg⟩ : ∃ g, g = w.heap.size := ⟨_, rfl⟩
    have hbn := Blk.new w [Value.slice none 0 0] 83
    have hch := (Chg.refl [] w).alloc (.cells #[Value.slice none 0 0] 83)
    rw [← hg] at hbn ⊢
    have gg : w.heap.size ≤ g := by omega
    clear hg
    have ew : ∃ W, W = w.alloc (.cells #[Value.slice none 0 0] 83) := ⟨_, rfl⟩
    have e0 : w.alloc (.cells (Array.replicate 1 (Value.slice none 0 0)) 83) = w.alloc (.cells #[Value.slice none 0 0] 83) := rfl
    try rw [e0]
    clear e0 ew
    have hbn : Blk (w.alloc (.cells #[Value.slice none 0 0] 83)) g 83 [Value.slice none 0 0] := hbn
    generalize w.alloc (.cells #[Value.slice none 0 0] 83) = w2 at *
    go_upto_region 4 with (refine wpList_copy_nothing (by rfl) (.tmp 16) (.tmp 19) 89 89 (by rfl) 83 Takg.underlying89 size83 (some ⟨g, 0, none⟩) none 1 1 0 0 (by rfl) (by rfl) (by rfl) ?_)
    have kc : w2.cell? ⟨g, 0, none⟩ = some (.slice none 0 0) := hbn.cell 0 _ rfl
    have fz := hbn.frozen 0 none
    have V0 := hbn.set 0 (.slice a' (dlen v) (dlen v))
    have e1 : [Value.slice none 0 0].set 0 (.slice a' (dlen v) (dlen v)) = Sv (es.take 0 ++ [(a', v)]) := by simp [Sv, sv]
    rw [e1] at V0
    have V4 := hch.setNew ⟨g, 0, none⟩ gg (.slice a' (dlen v) (dlen v))
    clear e1 hbn
    go_wp2_with fail
    go_ret
    exact ⟨g, rfl, gg, V0, V4⟩
  | some x =>
    obtain ⟨b0, rfl⟩ := hs x rfl
    clear hnil hs
    go_enter Takg.func90, Takg.ntmps90
    go_upto_region 3 with fail
    clear hmk
    obtain ⟨g, hg⟩ : ∃ g, g = w.heap.size := ⟨_, rfl⟩
    have hbn := Blk.newRep w (n + 1) (Value.slice none 0 0) 83
    have hch := (Chg.refl [] w).alloc (.cells (Array.replicate (n + 1) (Value.slice none 0 0)) 83)
    rw [← hg] at hbn ⊢
    have gg : w.heap.size ≤ g := by omega
    have h2 := H.out.chg0 hch
    clear hg
    generalize w.alloc (.cells (Array.replicate (n + 1) (Value.slice none 0 0)) 83) = w2 at *
    have e0 : List.replicate (n + 1) (Value.slice none 0 0) = List.replicate n (Value.slice none 0 0) ++ [Value.slice none 0 0] := by rw [List.replicate_succ']
    rw [e0] at hbn
    clear e0
    go_upto_region 4 with (refine wpList_copyF (by rfl) (.tmp 16) (.tmp 19) 89 89 (by rfl) 83 Takg.underlying89 size83 (some ⟨g, 0, none⟩) (some ⟨b0, 0, none⟩) (n + 1) (n + 1) n cap (by rfl) (by rfl) g 83 (List.replicate n (.slice none 0 0)) [.slice none 0 0] (Sv (es.take n)) (by rw [Sv_length, HL.out]; simp) hbn (by rw [Sv_length, HL.out]; exact (Nat.min_eq_left (by omega)).symm) (fun hp => ⟨rfl, by
        rcases h2 with h | ⟨b, h1, _, h3⟩
        · rw [h] at hp; simp at hp
        · exact ⟨_, h1, fun j x hx => by rw [addr_add, Nat.zero_add]; exact h3 j x hx⟩⟩) (Sv_one _) ?_; intro w3 hk3 hc3)
    have kc : w3.cell? ⟨g, n, none⟩ = some (.slice none 0 0) := hk3.cell n _ (by
      rw [List.getElem?_append_right (by rw [Sv_length, HL.out]; exact Nat.le_refl _), Sv_length, HL.out, Nat.sub_self]; rfl)
    have fz := hk3.frozen n none
    have V0 := hk3.set n (.slice a' (dlen v) (dlen v))
    have e1 : (Sv (es.take n) ++ [Value.slice none 0 0]).set n (.slice a' (dlen v) (dlen v)) = Sv (es.take n ++ [(a', v)]) := by
      rw [List.set_append_right _ _ (by rw [Sv_length, HL.out]; exact Nat.le_refl _), Sv_length, HL.out, Nat.sub_self]
      simp [Sv, sv]
    rw [e1] at V0
    have V4 := (hch.news hc3 (by simp; omega)).setNew ⟨g, n, none⟩ gg (.slice a' (dlen v) (dlen v))
    clear e1 hk3
    go_wp2_with fail
    go_ret
    exact ⟨g, rfl, gg, V0, V4⟩
end Na
end Go.Proofs.Ygctak
