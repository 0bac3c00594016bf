/-
  An accumulator loaded and stored whole; a new one.
-/
import Derived.Test.YgctakDoorAcc4
import Derived.Deep.MidRow
namespace Go.Proofs.YgctakDoor
open Go.RowKit
set_option linter.unusedVariables false
set_option linter.unusedSimpArgs false
attribute [local go_sem ↓] Go.wp_at_zero Go.wp_at_succ

theorem Blk.setCells_ne (b2 : Nat) : ∀ (cs : List Value) (o : Nat) (w : World) {b : Nat} {t : TypeId} {m : List Value}, Blk w b t m → b ≠ b2 → Blk (w.setCells b2 o cs) b t m
  | [], _, _, _, _, _, h, _ => h
  | v :: r, o, w, _, _, _, h, hne => Blk.setCells_ne b2 r (o + 1) _ (h.set_ne _ hne _) hne
theorem Chg.setCells {S : List Nat} {a : World} (b : Nat) (hb : b ∈ S) : ∀ (cs : List Value) (o : Nat) (w : World), Chg S a w → Chg S a (w.setCells b o cs)
  | [], _, _, h => h
  | v :: r, o, w, h => Chg.setCells b hb r (o + 1) _ (h.setCell _ hb _)
theorem Chg.setCellsNew {S : List Nat} {a : World} (b : Nat) (hb : a.heap.size ≤ b) : ∀ (cs : List Value) (o : Nat) (w : World), Chg S a w → Chg S a (w.setCells b o cs)
  | [], _, _, h => h
  | v :: r, o, w, h => Chg.setCellsNew b hb r (o + 1) _ (h.setNew _ hb _)

theorem Blk.newRep2 (w : World) (n : Nat) (z : Value) (t : TypeId) : Blk (w.alloc (.cells (Array.replicate n z) t)) w.heap.size t (List.replicate n z) := by
  have := Blk.new w (List.replicate n z) t
  simpa using this

namespace Ac

theorem At.rangeAt {w : World} {b o : Nat} {t : TypeId} {p m s : List Value} (h : At w b o t p m s) : w.rangeAt b o m := by
  intro j v hv
  refine h.blk.cell _ _ ?_
  have hj : j < m.length := (List.getElem?_eq_some_iff.1 hv).1
  rw [List.append_assoc, List.getElem?_append_right (by have := h.off; omega), show o + j - p.length = j by have := h.off; omega, List.getElem?_append_left hj, hv]
theorem At.there {w : World} {b o : Nat} {t : TypeId} {p m s : List Value} (h : At w b o t p m s) (n : Nat) (hn : n = m.length) : w.there b o n := by
  intro j hj
  subst hn
  refine ⟨?_, h.blk.frozen _ _⟩
  rw [h.rangeAt j _ (List.getElem?_eq_getElem hj)]
  rfl
theorem At.setCells {b : Nat} {t : TypeId} {s : List Value} : ∀ (cs m p : List Value) (o : Nat) (w : World), At w b o t p m s → m.length = cs.length → At (w.setCells b o cs) b o t p cs s
  | [], m, p, o, w, h, hl => by
    have : m = [] := List.eq_nil_of_length_eq_zero (by simpa using hl)
    subst this; exact h
  | v :: r, m, p, o, w, h, hl => by
    match m, hl with
    | u :: m', hl =>
      have h1 := h.blk.set o v
      rw [List.append_assoc, List.set_append_right _ _ (by have := h.off; omega), show o - p.length = 0 by have := h.off; omega, List.cons_append, List.set_cons_zero] at h1
      have h2 : At (w.setCell ⟨b, o, none⟩ v) b (o + 1) t (p ++ [v]) m' s := ⟨by simp [h.off], by simpa using h1⟩
      have h3 := At.setCells r m' (p ++ [v]) (o + 1) _ h2 (by simpa using hl)
      have e : p ++ (v :: r) ++ s = p ++ [v] ++ r ++ s := by simp
      exact ⟨h.off, by rw [e]; exact h3.blk⟩

theorem Wd_one (f : Nat → Int) : (Wd f).toArray.all (·.oneCell') = true :=
  all_oneCell_toArray (fun v hv => by
    unfold Wd at hv
    rw [List.mem_map] at hv
    obtain ⟨j, _, rfl⟩ := hv
    rfl)

/-- A block that is one accumulator. -/
theorem At.whole {w : World} {b : Nat} {t : TypeId} {m : List Value} (h : Blk w b t m) : At w b 0 t [] m [] := ⟨rfl, by simpa using h⟩
theorem At.toBlk {w : World} {b : Nat} {t : TypeId} {m : List Value} (h : At w b 0 t [] m []) : Blk w b t m := by simpa using h.blk

theorem alloc31 (w : World) : (Instr.alloc 31 true (.tuple #[])).run Takg.prog w = .ok (.pointer (some ⟨w.heap.size, 0, none⟩)) (w.alloc (.cells (Array.replicate 68 (.int .u64 0)) 31)) := by kernel_rfl
theorem W_zero : W 0 = List.replicate 68 (.int .u64 0) := by
  apply List.ext_getElem?
  intro j
  by_cases h : j < 68
  · unfold W; rw [Wd_get _ _ h, List.getElem?_replicate, if_pos h]; simp [word]
  · rw [List.getElem?_eq_none (by rw [W_length]; omega), List.getElem?_eq_none (by rw [List.length_replicate]; omega)]
theorem info31 : (Takg.prog.info? 31).map (·.size) = some 68 := by kernel_rfl

theorem or_comm64 (a b : Int) : bits .or .u64 a b = bits .or .u64 b a := by
  show IntKind.u64.wrap ((BitVec.ofInt 64 a ||| BitVec.ofInt 64 b).toNat : Int) = IntKind.u64.wrap ((BitVec.ofInt 64 b ||| BitVec.ofInt 64 a).toNat : Int)
  rw [BitVec.or_comm]
/-- A function whose one result lies in a variable of many cells. -/
theorem results_row {fn : Func} {p : Tmp} {ty : TypeId} (h : fn.results = #[.cell p ty]) (tmps : Array Value) (P : Program) (w : World) (b o : Nat) (hp : tmps.getD p undef = .pointer (some ⟨b, o, none⟩)) (cs : List Value) (d : TypeDesc)
    (hc : w.rangeAt b o cs) (hu : P.underlying ty = some d) (hd : d.isRow = true) (hi : (P.info? ty).map (·.size) = some cs.length) : (results fn tmps).run P w = .ok (.agg cs.toArray) w := by
  have hl := run_loadVar_mid w b o ty cs d hc hu hd hi
  simp only [results, h]
  simp [Sem.run_bind, Result.andThen, hp, asAddr, hl]
  simp [Array.getD_eq_getD_getElem?] at hp
  simp [hp, hl, asAddr]

/-- 'alloc', then the whole is stored: a new accumulator. -/
theorem wpList_newAcc {ops : Array Oper} {rest : List Oper} {o1 o2 : Oper} {a : Act} {w : World} {Q : Exit → Act → World → Prop} (hg1 : o1.guard = none) (ho1 : o1.op = .alloc 31) (hg2 : o2.guard = none) (x y : Operand) (ho2 : o2.op = .store 31 x y)
    (z : Int) (hd2 : o2.dst = none)
    (hx : ∀ v, (a.put o1.dst v).eval x = v) (hy : ∀ v, (a.put o1.dst v).eval y = .agg (W z).toArray)
    (h : ∀ b w2, Hid (b = w.heap.size) → Blk w2 b 31 (W z) → Chg [] w w2 → wpList Takg.prog ops Q rest (a.put o1.dst (.pointer (some ⟨b, 0, none⟩))) w2) : wpList Takg.prog ops Q (o1 :: o2 :: rest) a w := by
  refine wpList_allocVar hg1 31 ho1 _ alloc31 ?_
  have hb := Blk.newRep2 w 68 (Value.int .u64 0) 31
  rw [← W_zero] at hb
  have hA := At.whole hb
  refine wpList_store_mid hg2 31 x y ho2 w.heap.size 0 (W z).toArray (hx _) (hy _) (hA.there _ (by simp [W_length])) (by rw [List.size_toArray, W_length]; exact info31) (Wd_one _) ?_
  have h2 := At.setCells (W z) _ _ _ _ hA (by rw [W_length, W_length])
  have h3 := Chg.setCellsNew w.heap.size (Nat.le_refl _) (W z) 0 _ ((Chg.refl [] w).alloc (.cells (Array.replicate 68 (.int .u64 0)) 31))
  rw [hd2]
  exact h _ _ rfl h2.toBlk h3

/-- 'var x acc.Acc'. -/
theorem wpList_zeroAcc {ops : Array Oper} {rest : List Oper} {o1 : Oper} {a : Act} {w : World} {Q : Exit → Act → World → Prop} (hg1 : o1.guard = none) (ho1 : o1.op = .alloc 31)
    (h : ∀ b w2, Hid (b = w.heap.size) → Blk w2 b 31 (W 0) → Chg [] w w2 → wpList Takg.prog ops Q rest (a.put o1.dst (.pointer (some ⟨b, 0, none⟩))) w2) : wpList Takg.prog ops Q (o1 :: rest) a w := by
  refine wpList_allocVar hg1 31 ho1 _ alloc31 ?_
  have hb := Blk.newRep2 w 68 (Value.int .u64 0) 31
  rw [← W_zero] at hb
  exact h _ _ rfl hb ((Chg.refl [] w).alloc _)

/-- The whole of one variable into another. -/
theorem wpList_moveAcc {ops : Array Oper} {rest : List Oper} {o1 o2 : Oper} {a : Act} {w : World} {Q : Exit → Act → World → Prop} (hg1 : o1.guard = none) (x : Operand) (ho1 : o1.op = .load 31 x) (hg2 : o2.guard = none) (y v : Operand) (ho2 : o2.op = .store 31 y v) (hd2 : o2.dst = none)
    (b1 p1 t1 b2 p2 t2 : Nat) (pre1 suf1 pre2 suf2 old : List Value) (z : Int) (hx : a.eval x = .pointer (some ⟨b1, p1, none⟩)) (h1 : At w b1 p1 t1 pre1 (W z) suf1) (hl : old.length = 68) (h2 : At w b2 p2 t2 pre2 old suf2)
    (hv : ∀ u, (a.put o1.dst u).eval v = u) (hy : ∀ u, (a.put o1.dst u).eval y = .pointer (some ⟨b2, p2, none⟩))
    (h : ∀ w2, At w2 b2 p2 t2 pre2 (W z) suf2 → Chg [b2] w w2 → wpList Takg.prog ops Q rest (a.put o1.dst (.agg (W z).toArray)) w2) : wpList Takg.prog ops Q (o1 :: o2 :: rest) a w := by
  refine wpList_load_mid hg1 31 x ho1 b1 p1 hx (W z) _ h1.rangeAt Takg.underlying31 (by rfl) (by rw [W_length]; exact info31) ?_
  refine wpList_store_mid hg2 31 y v ho2 b2 p2 (W z).toArray (hy _) (hv _) (h2.there _ (by simp [W_length, hl])) (by rw [List.size_toArray, W_length]; exact info31) (Wd_one _) ?_
  rw [hd2]
  exact h _ (At.setCells (W z) _ _ _ _ h2 (by rw [W_length, hl])) (Chg.setCells b2 (by simp) (W z) p2 _ (Chg.refl _ _))

theorem wpList_loadAcc {ops : Array Oper} {rest : List Oper} {o1 : Oper} {a : Act} {w : World} {Q : Exit → Act → World → Prop} (hg1 : o1.guard = none) (x : Operand) (ho1 : o1.op = .load 31 x)
    (b1 p1 t1 : Nat) (pre1 suf1 : List Value) (z : Int) (hx : a.eval x = .pointer (some ⟨b1, p1, none⟩)) (h1 : At w b1 p1 t1 pre1 (W z) suf1)
    (h : wpList Takg.prog ops Q rest (a.put o1.dst (.agg (W z).toArray)) w) : wpList Takg.prog ops Q (o1 :: rest) a w :=
  wpList_load_mid hg1 31 x ho1 b1 p1 hx (W z) _ h1.rangeAt Takg.underlying31 (by rfl) (by rw [W_length]; exact info31) h

theorem wpList_storeAcc {ops : Array Oper} {rest : List Oper} {o2 : Oper} {a : Act} {w : World} {Q : Exit → Act → World → Prop} (hg2 : o2.guard = none) (y v : Operand) (ho2 : o2.op = .store 31 y v) (hd2 : o2.dst = none)
    (b2 p2 t2 : Nat) (pre2 suf2 old : List Value) (z : Int) (hl : old.length = 68) (h2 : At w b2 p2 t2 pre2 old suf2)
    (hv : a.eval v = .agg (W z).toArray) (hy : a.eval y = .pointer (some ⟨b2, p2, none⟩))
    (h : ∀ w2, At w2 b2 p2 t2 pre2 (W z) suf2 → Chg [b2] w w2 → wpList Takg.prog ops Q rest a w2) : wpList Takg.prog ops Q (o2 :: rest) a w := by
  refine wpList_store_mid hg2 31 y v ho2 b2 p2 (W z).toArray hy hv (h2.there _ (by simp [W_length, hl])) (by rw [List.size_toArray, W_length]; exact info31) (Wd_one _) ?_
  rw [hd2]
  exact h _ (At.setCells (W z) _ _ _ _ h2 (by rw [W_length, hl])) (Chg.setCells b2 (by simp) (W z) p2 _ (Chg.refl _ _))

end Ac
end Go.Proofs.YgctakDoor
