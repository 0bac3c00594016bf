/-
  The calculator's machine: replace, add, multiply, room, copied.
-/
import Derived.Test.YgctakNa11
import Derived.Test.YgctakNa13
namespace Go.Proofs.Ygctak
open Go.RowKit
set_option linter.unusedVariables false
set_option linter.unusedSimpArgs false
attribute [local go_sem ↓] Go.wp_at_zero Go.wp_at_succ
namespace Na

theorem slice_h0 {P : Program} (t : TypeId) (b off len cap h size : Nat) (ht : P.underlying t = some (.slice (P.elem t))) (hz : ∀ w, (sizeOf (P.elem t)).run P w = .ok size w) (hc : h ≤ cap) (w : World) :
    (Instr.slice t (.slice (some ⟨b, off, none⟩) len cap) none (some (.int .i64 (h : Nat))) none).run P w = .ok (.slice (some ⟨b, off, none⟩) h cap) w := by
  rw [run_slice_h w t (some ⟨b, off, none⟩) len cap ht .i64 _ (by omega) (by omega), hz]
  simp only [Result.andThen, sliced, Int.toNat_natCast, Nat.zero_mul, Nat.sub_zero]
  split <;> simp [Option.map, addr_add]

set_option maxRecDepth 10000 in
theorem replace_any (B bm k v : Nat) (v1 v2 : Value) (es : Es) (os : List Int) (a : Option Addr) (w : World) (h : Mac B w bm v1 es v2 os) (hk : k ≤ es.length) (h0 : 0 < es.length) (hl : es.length - k < 16) (he : Ent w a v) (hd : dlen v ≤ 1024) (hf : Free B bm v1 v2 es a) :
    Calls Takg.prog 132 #[.pointer (some ⟨bm, 0, none⟩), .int .i64 k, .slice a (dlen v) (dlen v)] w fun e w' => e = .returned (.tuple #[]) ∧ ∃ v1', Mac B w' bm v1' (es.take (es.length - k) ++ [(a, v)]) v2 os ∧ Abv B w w' := by
  obtain ⟨g, cap, e1, hcap, hm, hM, hA⟩ := h.cutTo (k := es.length - k) (by omega) h0
  have c3 := (Chg.refl [bm] w).setCell ⟨bm, 0, none⟩ (by simp) (.slice (some ⟨g, 0, none⟩) (es.length - k) cap)
  have HP := hide (fun W (hW : Chg [] _ W) => push_any B bm v _ v2 _ os a W (hM.chg0 hW) (by simp; omega) ((he.chg c3 (fun b hb => by have := (hf b hb).1; simpa using this)).chg0 hW) hd (hf.take _ (by rw [e1]; rfl) rfl))
  subst e1
  have f0 := h.m.cell 0 _ rfl
  have fz := h.m.frozen 0 none
  have hs3 := slice_h0 (P := Takg.prog) 89 g 0 es.length cap (es.length - k) 1 Takg.underlying89 size89 (by omega)
  have HA := hide hA
  have hn16 := h.n1
  generalize es.length = n at *
  have hwr : IntKind.i64.wrap ((n : Int) - (k : Int)) = ((n - k : Nat) : Int) := by rw [IntKind.wrap_i64]; omega
  clear h hM hA he hf c3
  go_enter Takg.func132, Takg.ntmps132
  go_upto_region 0 with fail
  go_region
  go_wp2_with fail
  refine (HP.out _ (Chg.refl [] _).drew).mono ?_
  rintro e w' ⟨rfl, v1', hM', hA'⟩
  go_wp2_with fail
  go_end0
  exact ⟨rfl, v1', hM', (HA.out.trans (Abv.of (Chg.refl [] _).drew)).trans hA'⟩

/-- An engine's product is the product. -/
def Prod (eng : Nat) : Prop := ∀ (a1 a2 : Option Addr) (x y : Nat) (w : World), dlen x ≤ 512 → dlen y ≤ 512 → Ent w a1 x → Ent w a2 y →
  Calls Takg.prog 148 #[.int .u8 eng, .slice a1 (dlen x) (dlen x), .slice a2 (dlen y) (dlen y)] w fun e w' => ∃ a', e = .returned (.tuple #[.slice a' (dlen (x * y)) (dlen (x * y)), .bool true]) ∧ New w w' a' (x * y) ∧ Chg [] w w'

theorem prod0 : Prod 0 := fun a1 a2 x y w l1 l2 h1 h2 => by
  have HM := hide (MulSchool_any a1 a2 x y w (by omega) (by omega) h1 h2)
  clear h1 h2
  go_enter Takg.func148, Takg.ntmps148
  go_wp2_with fail
  refine HM.out.mono ?_
  rintro e w1 ⟨a', rfl, hn, hc⟩
  go_wp2_with fail
  refine bodyPost_ret (results2 rfl _ _ _) rfl ?_
  exact ⟨a', rfl, hn, hc⟩

/-- The machine does the sum. -/
theorem addNo_any (B bm x y : Nat) (v1 v2 : Value) (es : Es) (os : List Int) (a1 a2 : Option Addr) (w : World) (h : Mac B w bm v1 es v2 os) (h1 : Ent w a1 x) (h2 : Ent w a2 y) (l1 : dlen x ≤ 1024) (l2 : dlen y ≤ 1024) (hd : 1024 < dlen (x + y)) (hl : os.length < 1000) :
    Calls Takg.prog 131 #[.pointer (some ⟨bm, 0, none⟩), .slice a1 (dlen x) (dlen x), .slice a2 (dlen y) (dlen y)] w fun e w' => e = .returned (.tuple #[]) ∧ ∃ v2', Mac B w' bm v1 es v2' (os ++ [-2]) ∧ Abv B w w' := by
  have HA := hide (Add_any a1 a2 x y w (by omega) (by omega) h1 h2)
  have HP := hide (fun W (hW : Chg [] w W) => put_any B bm v1 v2 es os (-2) W (h.chg0 hW) hl)
  clear h h1 h2
  generalize dlen (x + y) = dd at *
  go_enter Takg.func131, Takg.ntmps131
  go_wp2_with fail
  refine HA.out.mono ?_
  rintro e w1 ⟨a', rfl, hn, hc⟩
  go_wp2_with fail
  refine (HP.out _ hc).mono ?_
  rintro e w2 ⟨rfl, v2', hM, hA⟩
  go_wp2_with fail
  refine bodyPost_ret (results_none rfl _ _ _) rfl ?_
  exact ⟨rfl, v2', hM, (Abv.of hc).trans hA⟩
theorem replace_two (B bm v : Nat) (v1 v2 : Value) (es : Es) (os : List Int) (a : Option Addr) (w : World) (h : Mac B w bm v1 es v2 os) (hk : 2 ≤ es.length) (he : Ent w a v) (hd : dlen v ≤ 1024) (hf : Free B bm v1 v2 es a) :
    Calls Takg.prog 132 #[.pointer (some ⟨bm, 0, none⟩), .int .i64 2, .slice a (dlen v) (dlen v)] w fun e w' => e = .returned (.tuple #[]) ∧ ∃ v1', Mac B w' bm v1' (es.take (es.length - 2) ++ [(a, v)]) v2 os ∧ Abv B w w' :=
  replace_any B bm 2 v v1 v2 es os a w h hk (by omega) (by have := h.n1; omega) he hd hf
theorem add_any (B bm x y : Nat) (v1 v2 : Value) (es : Es) (os : List Int) (a1 a2 : Option Addr) (w : World) (h : Mac B w bm v1 es v2 os) (hk : 2 ≤ es.length) (h1 : Ent w a1 x) (h2 : Ent w a2 y) (l1 : dlen x ≤ 1024) (l2 : dlen y ≤ 1024) (hd : dlen (x + y) ≤ 1024) :
    Calls Takg.prog 131 #[.pointer (some ⟨bm, 0, none⟩), .slice a1 (dlen x) (dlen x), .slice a2 (dlen y) (dlen y)] w fun e w' => e = .returned (.tuple #[]) ∧ ∃ v1' a', Mac B w' bm v1' (es.take (es.length - 2) ++ [(a', x + y)]) v2 os ∧ Abv B w w' := by
  have HA := hide (Add_any a1 a2 x y w (by omega) (by omega) h1 h2)
  have HP := hide (fun a' W (hN : New w W a' (x + y)) (hW : Chg [] w W) => replace_two B bm (x + y) v1 v2 es os a' W (h.chg0 hW) hk hN.ent hd (h.free hN))
  clear h h1 h2
  generalize EZ : dlen (x + y) = dd at *
  clear EZ
  go_enter Takg.func131, Takg.ntmps131
  go_wp2_with fail
  refine HA.out.mono ?_
  rintro e w1 ⟨a', rfl, hn, hc⟩
  go_wp2_with fail
  refine (HP.out a' _ hn hc).mono ?_
  rintro e w2 ⟨rfl, v1', hM, hA⟩
  go_wp2_with fail
  go_end0
  exact ⟨rfl, v1', a', hM, (Abv.of hc).trans hA⟩

theorem mulNo_any (eng B bm x y k : Nat) (v1 v2 : Value) (es : Es) (os : List Int) (a1 a2 : Option Addr) (w : World) (h : Mac B w bm v1 es v2 os) (hd : 512 < dlen x ∨ 512 < dlen y) (l1 : dlen x ≤ 1024) (l2 : dlen y ≤ 1024) (hl : os.length < 1000) :
    Calls Takg.prog 130 #[.pointer (some ⟨bm, 0, none⟩), .int .u8 eng, .int .i64 k, .slice a1 (dlen x) (dlen x), .slice a2 (dlen y) (dlen y)] w fun e w' => e = .returned (.tuple #[]) ∧ ∃ v2', Mac B w' bm v1 es v2' (os ++ [-2]) ∧ Abv B w w' := by
  have HP := hide (put_any B bm v1 v2 es os (-2) w h hl)
  clear h
  generalize dlen x = dx at *
  generalize dlen y = dy at *
  rcases Nat.lt_or_ge 512 dx with hx | hx
  · go_enter Takg.func130, Takg.ntmps130
    go_wp2_with fail
    refine HP.out.mono ?_
    rintro e w2 ⟨rfl, v2', hM, hA⟩
    go_wp2_with fail
    refine bodyPost_ret (results_none rfl _ _ _) rfl ?_
    exact ⟨rfl, v2', hM, hA⟩
  · have hy : 512 < dy := by omega
    go_enter Takg.func130, Takg.ntmps130
    go_wp2_with fail
    refine HP.out.mono ?_
    rintro e w2 ⟨rfl, v2', hM, hA⟩
    go_wp2_with fail
    refine bodyPost_ret (results_none rfl _ _ _) rfl ?_
    exact ⟨rfl, v2', hM, hA⟩
theorem mul_any (eng B bm x y k : Nat) (hpr : Prod eng) (v1 v2 : Value) (es : Es) (os : List Int) (a1 a2 : Option Addr) (w : World) (h : Mac B w bm v1 es v2 os) (hk : k ≤ es.length) (hk1 : 1 ≤ k) (dx : dlen x ≤ 512) (dy : dlen y ≤ 512) (h1 : Ent w a1 x) (h2 : Ent w a2 y) :
    Calls Takg.prog 130 #[.pointer (some ⟨bm, 0, none⟩), .int .u8 eng, .int .i64 k, .slice a1 (dlen x) (dlen x), .slice a2 (dlen y) (dlen y)] w fun e w' => e = .returned (.tuple #[]) ∧ ∃ v1' a', Mac B w' bm v1' (es.take (es.length - k) ++ [(a', x * y)]) v2 os ∧ Abv B w w' := by
  have HA := hide (hpr a1 a2 x y w dx dy h1 h2)
  have HP := hide (fun a' W (hN : New w W a' (x * y)) (hW : Chg [] w W) => replace_any B bm k (x * y) v1 v2 es os a' W (h.chg0 hW) hk (by omega) (by have := h.n1; omega) hN.ent (dlen_mul dx dy) (h.free hN))
  clear h h1 h2
  generalize dlen x = dx at *
  generalize dlen y = dy at *
  go_enter Takg.func130, Takg.ntmps130
  go_wp2_with fail
  refine HA.out.mono ?_
  rintro e w1 ⟨a', rfl, hn, hc⟩
  go_wp2_with fail
  refine (HP.out a' _ hn hc).mono ?_
  rintro e w2 ⟨rfl, v1', hM, hA⟩
  go_wp2_with fail
  go_end0
  exact ⟨rfl, v1', a', hM, (Abv.of hc).trans hA⟩

/-- How many entries a kind takes. -/
def need (kd : Nat) : Int := if kd = 0 then 0 else if kd = 6 ∨ kd = 4 ∨ kd = 8 then 1 else if kd ≤ 8 then 2 else -1
def more (kd : Nat) : Bool := kd == 0 || kd == 6
theorem room_any (kd : Nat) (w : World) (hk : kd < 256) :
    Calls Takg.prog 124 #[.int .u8 kd] w fun e w' => e = .returned (.tuple #[.int .i64 (need kd), .bool (more kd)]) ∧ w' = w := by
  rcases Nat.lt_or_ge 8 kd with h | h
  · have e1 : need kd = -1 := by unfold need; rw [if_neg (by omega), if_neg (by omega), if_neg (by omega)]
    have e2 : more kd = false := by unfold more; simp; omega
    rw [e1, e2]
    go_enter Takg.func124, Takg.ntmps124
    go_wp2_with fail
    go_ret2
    exact ⟨rfl, rfl⟩
  · have hk9 : kd = 0 ∨ kd = 1 ∨ kd = 2 ∨ kd = 3 ∨ kd = 4 ∨ kd = 5 ∨ kd = 6 ∨ kd = 7 ∨ kd = 8 := by omega
    rcases hk9 with rfl | rfl | rfl | rfl | rfl | rfl | rfl | rfl | rfl
    all_goals
      go_enter Takg.func124, Takg.ntmps124
      go_wp2_with fail
      go_ret2
      exact ⟨rfl, rfl⟩
end Na
end Go.Proofs.Ygctak
