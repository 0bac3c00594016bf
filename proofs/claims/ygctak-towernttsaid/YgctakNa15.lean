/-
  calc.anyOf: no digit lies at one of eight places in other blocks.
-/
import Derived.Test.YgctakNa10
import Derived.OwnWalk
import Derived.BigQuiet
import Derived.LaidEql
namespace Go.Proofs.Ygctak
open Go.RowKit
set_option linter.unusedVariables false
set_option linter.unusedSimpArgs false
attribute [local go_sem ↓] Go.wp_at_zero Go.wp_at_succ
namespace Na

/-- A place that is not in block b. -/
def Pv (w : World) (b : Nat) (p : Value) : Prop := p = .pointer none ∨ ∃ c t cs, p = .pointer (some ⟨c, 0, none⟩) ∧ c ≠ b ∧ Blk w c t cs
theorem Pv.chg {S : List Nat} {w w2 : World} {b : Nat} {p : Value} (h : Pv w b p) (hc : Chg S w w2) (hn : ∀ c, p = .pointer (some ⟨c, 0, none⟩) → c ∉ S) : Pv w2 b p := by
  rcases h with h | ⟨c, t, cs, h1, h2, h3⟩
  · exact .inl h
  · exact .inr ⟨c, t, cs, h1, h2, hc.blk h3 (hn c h1)⟩
theorem ptr197 : Takg.prog.underlying 197 = some (.pointer (Takg.prog.pointee 197)) := by kernel_rfl
theorem bsize5 (w : World) : (sizeOf 5).run Takg.prog w = .ok 1 w := by kernel_rfl
theorem eqlP (w : World) (b k : Nat) (t : Nat) (cs : List Value) (hb : Blk w b t cs) (p : Value) (h : Pv w b p) :
    (binOp .eql 197 (.pointer (some ⟨b, k, none⟩)) p).run Takg.prog w = .ok (.bool false) w := by
  rcases h with rfl | ⟨c, t2, cs2, rfl, h2, h3⟩
  · exact run_eql_pointer_nil w 197 _ ptr197
  · have hz := bsize5
    have hne : (⟨b, k, none⟩ : Addr) ≠ ⟨c, 0, none⟩ := fun h => by
      injection h with h4
      exact h2 h4.symm
    have hs := run_sameAddr_other (P := Takg.prog) w hne hb h3
    have h : ∀ d : Nat, (Op.equalIn (d + 1) 197 (.pointer (some ⟨b, k, none⟩)) (.pointer (some ⟨c, 0, none⟩))).run Takg.prog w = .ok false w := fun d => by simp [Op.equalIn, run_underlying Takg.underlying197, hz, hs]
    simp only [binOp]
    simp [Op.equal, Op.maxDepth, h 9999]

set_option maxRecDepth 10000 in
set_option maxHeartbeats 2000000 in
theorem anyOf_8 (b n bp t : Nat) (cs : List Value) (p0 p1 p2 p3 p4 p5 p6 p7 : Value) (w : World) (hn : n ≤ 5000) (hb : Blk w b t cs) (hp : Blk w bp 198 [p0, p1, p2, p3, p4, p5, p6, p7])
    (h0 : Pv w b p0) (h1 : Pv w b p1) (h2 : Pv w b p2) (h3 : Pv w b p3) (h4 : Pv w b p4) (h5 : Pv w b p5) (h6 : Pv w b p6) (h7 : Pv w b p7) :
    Calls Takg.prog 155 #[.slice (some ⟨b, 0, none⟩) n n, .pointer (some ⟨bp, 0, none⟩)] w fun e w' => e = .returned (.bool false) ∧ Chg [] w w' := by
  have e0 := fun W k (hc : Chg [] w W) => eqlP W b k t cs (hc.blk hb (by simp)) p0 (h0.chg hc (by simp))
  have e1 := fun W k (hc : Chg [] w W) => eqlP W b k t cs (hc.blk hb (by simp)) p1 (h1.chg hc (by simp))
  have e2 := fun W k (hc : Chg [] w W) => eqlP W b k t cs (hc.blk hb (by simp)) p2 (h2.chg hc (by simp))
  have e3 := fun W k (hc : Chg [] w W) => eqlP W b k t cs (hc.blk hb (by simp)) p3 (h3.chg hc (by simp))
  have e4 := fun W k (hc : Chg [] w W) => eqlP W b k t cs (hc.blk hb (by simp)) p4 (h4.chg hc (by simp))
  have e5 := fun W k (hc : Chg [] w W) => eqlP W b k t cs (hc.blk hb (by simp)) p5 (h5.chg hc (by simp))
  have e6 := fun W k (hc : Chg [] w W) => eqlP W b k t cs (hc.blk hb (by simp)) p6 (h6.chg hc (by simp))
  have e7 := fun W k (hc : Chg [] w W) => eqlP W b k t cs (hc.blk hb (by simp)) p7 (h7.chg hc (by simp))
  have c0 := hp.cell 0 _ rfl
  have c1 := hp.cell 1 _ rfl
  have c2 := hp.cell 2 _ rfl
  have c3 := hp.cell 3 _ rfl
  have c4 := hp.cell 4 _ rfl
  have c5 := hp.cell 5 _ rfl
  have c6 := hp.cell 6 _ rfl
  have c7 := hp.cell 7 _ rfl
  have HE := hide (And.intro e0 (And.intro e1 (And.intro e2 (And.intro e3 (And.intro e4 (And.intro e5 (And.intro e6 e7)))))))
  clear e0 e1 e2 e3 e4 e5 e6 e7 h0 h1 h2 h3 h4 h5 h6 h7 hp hb
  go_enter Takg.func155, Takg.ntmps155
  go_wp2_with (go_quiet (fail))
  have HC : Chg [] w (w.drewN nq) := (Chg.refl [] w).drewN nq
  generalize w.drewN nq = w1 at *
  have HC := hide HC
  clear c0 c1 c2 c3 c4 c5 c6 c7
  go_loop [13] (fun x => ∃ m : Nat, x = .int .i64 m ∧ m ≤ n) (fun x => n - (intOf x).toNat)
  case atStart => exact ⟨0, rfl, by omega⟩
  case round =>
    obtain ⟨m, rfl, m1⟩ := hrel
    by_cases hm : m < n
    · obtain ⟨e0, e1, e2, e3, e4, e5, e6, e7⟩ := HE.out
      have f0 := e0 w1 m HC.out
      have f1 := e1 w1 m HC.out
      have f2 := e2 w1 m HC.out
      have f3 := e3 w1 m HC.out
      have f4 := e4 w1 m HC.out
      have f5 := e5 w1 m HC.out
      have f6 := e6 w1 m HC.out
      have f7 := e7 w1 m HC.out
      clear e0 e1 e2 e3 e4 e5 e6 e7
      go_wp2_with fail
      go_round
      case rel => exact ⟨m + 1, by go_num, by omega⟩
      case measure => simp [intOf]; omega
    · have : m = n := by omega
      subst this
      go_wp2_with fail
      go_ret
      exact ⟨rfl, HC.out⟩
end Na
end Go.Proofs.Ygctak
