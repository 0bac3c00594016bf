/-
  Regions that draw their order, by hand: the operations as a list.
-/
import Derived.Test.YgctakPt2
namespace Go.Proofs.Ygctak
open Go.RowKit
set_option linter.unusedVariables false
set_option linter.unusedSimpArgs false

theorem takeL {P : Program} {Q : Exit → Act → World → Prop} {md : Region.Mode} {S : World → Prop} {L : List Oper} (i : Nat) {oi : Oper} {v : Value} {fuel : Nat} {listed : Array Bool} {a : Act} {w : World} (hi : L[i]? = some oi)
    (hs : Region.noSelect L.toArray = true) (hf : Region.free md L.toArray listed i = true) (hr : (Region.ready md L.toArray listed).contains i = true)
    (hQ : ∀ c a w, Q (.panic c) (a.put oi.dst v) w → Q (.panic c) a w) (hw : Region.wanted oi (yielded L.toArray a.tmps) = true) (hy : ∀ w, S w → (execOp a.eval oi).run P w = .ok (.value v) w) (hS : S w)
    (h : wpAnyH P md L.toArray Q S fuel (listed.setIfInBounds i true) (a.put oi.dst v) w) : wpAnyH P md L.toArray Q S (fuel + 1) listed a w :=
  wpAnyH_take (i := i) (by simpa using hi) hs hf hr hQ (Or.inl ⟨hw, hy⟩) hS h

theorem run_load58 {a : Act} {o : Oper} (x : Operand) (h : o.op = .load 58 x) (b p : Nat) (z : Int) (w : World) (hx : a.eval x = .pointer (some ⟨b, p, none⟩)) (hr : w.rangeAt b p (Ac.W z)) : (execOp a.eval o).run Takg.prog w = .ok (.value (.agg (Ac.W z).toArray)) w := by
  unfold execOp
  simp only [h, hx, Instr.loadAt, Instr.sureAddr, Sem.run_bind, Sem.run_pure, Result.andThen_ok, run_loadVar_mid w b p 58 (Ac.W z) _ hr Takg.underlying58 (by rfl) (by rw [Ac.W_length]; exact Ac.info58)]

theorem consL {P : Program} {Q : Exit → Act → World → Prop} {md : Region.Mode} {S : World → Prop} {L : List Oper} {fuel : Nat} {listed : Array Bool} {a : Act} {w : World} {i : Nat} {o : Oper} {rs : List Nat} (ho : L[i]? = some o) (hg : o.guard = none)
    (h : ∀ K' : Act → World → Prop, Shut (∀ a w, S w → (S w → wpAnyH P md L.toArray Q S fuel (listed.setIfInBounds i true) a w) → K' a w) → Oper.wp P o a w K' Q)
    (hs : AllReadyH P md L.toArray Q S fuel listed a w rs) : AllReadyH P md L.toArray Q S fuel listed a w (i :: rs) :=
  AllReadyH.cons (by simpa using ho) (fun K hK => by
    rw [if_pos (by simp [Region.wanted, hg])]
    exact h K hK) hs
namespace Sh
theorem four_sets (X : List P) (s q : Nat) (hs : s < X.length) (hq : q < X.length) (hne : s ≠ q) (za zb : Nat × Nat) (e1 er : Int) :
    let X1 := X.set s (za, e1)
    let X2 := X1.set q (zb, (X1.getD q p0).2)
    let X3 := X2.set s ((X2.getD s p0).1, er)
    X3.set q ((X3.getD q p0).1, er) = (X.set s (za, er)).set q (zb, er) := by
  intro X1 X2 X3
  have g2 : (X2.getD s p0).1 = za := by
    simp only [X2, X1, List.getD_eq_getElem?_getD, List.getElem?_set]
    simp [hs, Ne.symm hne]
  have g3 : (X3.getD q p0).1 = zb := by
    simp only [X3, List.getD_eq_getElem?_getD, List.getElem?_set]
    rw [if_neg hne]
    simp only [X2, X1, List.getElem?_set]
    simp [hq]
  rw [g3]
  simp only [X3]
  rw [g2]
  apply List.ext_getElem
  · simp [X2, X1]
  · intro i h1 h2
    simp only [List.getElem_set, X2, X1]
    by_cases i1 : q = i
    · simp [i1]
    · by_cases i2 : s = i
      · simp [i1, i2]
      · simp [i1, i2]
end Sh
end Go.Proofs.Ygctak
