/-
  'copy', as a law; nat.Take.
-/
import Derived.Test.YgctakNa1
import Derived.Laws.CopyOwn
namespace Go.Proofs.Ygctak
open Go.RowKit
set_option linter.unusedVariables false
set_option linter.unusedSimpArgs false
attribute [local go_sem ↓] Go.wp_at_zero Go.wp_at_succ
namespace Na

/-- 'copy' into the front of a row. -/
theorem wpList_copyF {ops : Array Oper} {rest : List Oper} {o : Oper} {a : Act} {w : World} {Q : Exit → Act → World → Prop} (hgd : o.guard = none) (d s : Operand) (dT sT : TypeId)
    (ho : o.op = .call { callee := .builtin .copy, args := #[d, s], argTypes := #[dT, sT] }) (elem : TypeId) (hu : Takg.prog.underlying dT = some (.slice elem)) (hsz : (Takg.prog.info? elem).map (·.size) = some 1)
    (dp sp : Option Addr) (dLen dCap sLen sCap : Nat) (hd : a.eval d = .slice dp dLen dCap) (hs : a.eval s = .slice sp sLen sCap)
    (g : Nat) (t : TypeId) (old more cs : List Value) (hlo : old.length = cs.length) (hB : Blk w g t (old ++ more)) (hn : cs.length = Nat.min sLen dLen)
    (hpos : 0 < cs.length → dp = some ⟨g, 0, none⟩ ∧ ∃ ad, sp = some ad ∧ ∀ j v, cs[j]? = some v → w.cell? (ad.add j) = some v) (h1 : ∀ v ∈ cs, v.oneCell' = true)
    (h : ∀ w2, Blk w2 g t (cs ++ more) → Chg [g] w w2 → wpList Takg.prog ops Q rest (a.put o.dst (goInt cs.length)) w2) : wpList Takg.prog ops Q (o :: rest) a w := by
  by_cases h0 : cs.length = 0
  · obtain rfl : cs = [] := List.eq_nil_of_length_eq_zero h0
    obtain rfl : old = [] := List.eq_nil_of_length_eq_zero hlo
    exact wpList_copy_nothing hgd d s dT sT ho elem hu hsz dp sp dLen dCap sLen sCap hd hs (by simpa using hn.symm) (h w hB (Chg.refl _ _))
  · obtain ⟨rfl, ad, rfl, hsrc⟩ := hpos (by omega)
    have hg : w.heap[g]? = some (.cells (old ++ more).toArray t (0, 0)) := hB
    refine wpList_copy_own hgd d s dT sT ho elem hu hsz g 0 dLen dCap ad sLen sCap hd hs (old ++ more).toArray t hg cs hn hsrc (by simp; omega) h1 ?_
    have e : (List.take 0 (old ++ more).toArray.toList ++ (cs ++ List.drop (0 + cs.length) (old ++ more).toArray.toList)) = cs ++ more := by
      simp [← hlo]
    rw [e]
    refine h _ ?_ ⟨rfl, rfl, rfl, by simp [World.setRow], fun k hk hn => setRow_other w g k _ (by simpa using hn)⟩
    have := setRow_heap w g (old ++ more).toArray (cs ++ more).toArray t _ hg
    exact this

/-- The cells of the digits. -/
def D8 (v n : Nat) : List Value := (List.range n).map fun j => .int .u8 (dgt v j : Nat)
theorem D8_length (v n : Nat) : (D8 v n).length = n := by simp [D8]
theorem D8_get (v n j : Nat) (h : j < n) : (D8 v n)[j]? = some (.int .u8 (dgt v j : Nat)) := by simp [D8, h]
theorem D8_one (v n : Nat) : ∀ x ∈ D8 v n, x.oneCell' = true := fun x hx => by
  unfold D8 at hx
  rw [List.mem_map] at hx
  obtain ⟨j, _, rfl⟩ := hx
  rfl
theorem D8_row {w : World} {b t v n : Nat} (h : Blk w b t (D8 v n)) : Row8 w b 0 n v := ⟨h.lt, fun j hj => by
  have := h.cell j _ (D8_get v n j hj)
  rwa [Nat.zero_add]⟩
theorem info5 : (Takg.prog.info? 5).map (fun i => (i.zero, i.size, i.bytes)) = some (some (.int .u8 0), 1, 1) := by kernel_rfl
theorem size5 : (Takg.prog.info? 5).map (·.size) = some 1 := by kernel_rfl
/-- What a function hands out: a number of its own. -/
structure New (w w' : World) (a : Option Addr) (v : Nat) : Prop where
  ent : Ent w' a v
  new : ∀ b, a = some ⟨b, 0, none⟩ → w.heap.size ≤ b
theorem New.zero (w w' : World) : New w w' none 0 := ⟨⟨fun _ => rfl, fun h => by omega, fun b h => by cases h⟩, fun b h => by cases h⟩

theorem addr_add (b off j : Nat) : (⟨b, off, none⟩ : Addr).add j = ⟨b, off + j, none⟩ := by unfold Addr.add; split <;> simp_all

set_option maxHeartbeats 1000000 in
theorem Take_any (a : Option Addr) (n cap v : Nat) (w : World) (hn : n ≤ 1024) (hc : n ≤ cap) (hc2 : cap ≤ 9223372036854775807) (hnil : a = none → n = 0 ∧ cap = 0) (hv : v < 256 ^ n) (h : Op8 w a n v) :
    Calls Takg.prog 48 #[.slice a n cap] w fun e w' => ∃ a', e = .returned (.slice a' (dlen v) (dlen v)) ∧ New w w' a' v ∧ Chg [] w w' := by
  have HT := hide (fun x (hx : Op8 w x n v) => trim_any x n n v w (by omega) (by omega) hv hx)
  have hdl := dlen_le hv
  have E := eql_nil 83 5 (trA a v) (dlen v) (dlen v) Takg.underlying83
  rcases Nat.eq_zero_or_pos v with h0 | h0
  · subst h0
    have e : trA a 0 = none := rfl
    rw [e, dlen_zero] at E
    have E2 : ∀ w, (binOp .eql 83 (.slice none 0 0) (.slice none 0 0)).run Takg.prog w = .ok (.bool true) w := E
    have HT2 : Hid (∀ x, (n = 0 ∨ x = a) → Calls Takg.prog 85 #[.slice x n n] w fun e w' => e = .returned (.slice none 0 0) ∧ w' = w) := fun x hx => by
      have := HT.out x (by
        rcases hx with h1 | h1
        · exact .inl h1
        · rw [h1]; exact h)
      exact this
    clear HT E e hv h
    cases a with
    | none =>
      obtain ⟨rfl, rfl⟩ := hnil rfl
      go_enter Takg.func48, Takg.ntmps48
      go_wp2_with fail
      refine (HT2.out _ (.inl trivial)).mono ?_
      rintro e w1 ⟨rfl, rfl⟩
      go_wp2_with fail
      go_ret
      exact ⟨none, rfl, New.zero _ _, Chg.refl _ _⟩
    | some x =>
      clear hnil
      go_enter Takg.func48, Takg.ntmps48
      go_wp2_with fail
      refine (HT2.out _ (by first | exact .inr rfl | (left; omega))).mono ?_
      rintro e w1 ⟨rfl, rfl⟩
      go_wp2_with fail
      go_ret
      exact ⟨none, rfl, New.zero _ _, Chg.refl _ _⟩
  · have hn0 : 0 < n := by have := dlen_pos h0; omega
    obtain ⟨b, off, rfl, hr⟩ : ∃ b off, a = some ⟨b, off, none⟩ ∧ Row8 w b off n v := by
      rcases h with h | h
      · omega
      · exact h
    have e : trA (some ⟨b, off, none⟩) v = some ⟨b, off, none⟩ := by unfold trA; rw [if_neg (by omega)]
    have HT2 := hide (HT.out _ (.inr ⟨b, off, rfl, hr⟩))
    rw [e] at E HT2
    have E2 : ∀ w, (binOp .eql 83 (.slice (some ⟨b, off, none⟩) (dlen v) (dlen v)) (.slice none 0 0)).run Takg.prog w = .ok (.bool false) w := E
    obtain ⟨L, hL⟩ : ∃ L, L = dlen v := ⟨_, rfl⟩
    have hL0 : 0 < L := by rw [hL]; exact dlen_pos h0
    rw [← hL] at E2 HT2 hdl ⊢
    have HL := hide hL
    have HR := hide (hr.less hdl)
    have HV := hide h0
    clear E HT hL h hnil hv h0 hr
    have hmk := make_run (P := Takg.prog) 83 5 (.int .u8 0) 1 L rfl Takg.underlying83 info5 (by omega) (by omega)
    go_enter Takg.func48, Takg.ntmps48
    go_wp2_with fail
    refine HT2.out.mono ?_
    rintro e w1 ⟨rfl, rfl⟩
    go_upto_region 8 with fail
    clear hmk E2 HT2
    obtain ⟨g, hg⟩ : ∃ g, g = w1.heap.size := ⟨_, rfl⟩
    have hbn := Blk.newRep w1 L (Value.int .u8 0) 5
    have hch := (Chg.refl [] w1).alloc (.cells (Array.replicate L (Value.int .u8 0)) 5)
    rw [← hg] at hbn ⊢
    have gg : w1.heap.size ≤ g := by omega
    have hr2 := HR.out.chg hch (by simp)
    clear hg
    generalize w1.alloc (.cells (Array.replicate L (Value.int .u8 0)) 5) = w2 at *
    go_wp2_with (refine wpList_copyF (by rfl) (.tmp 20) (.tmp 21) 83 83 (by rfl) 5 Takg.underlying83 size5 (some ⟨g, 0, none⟩) (some ⟨b, off, none⟩) L L L L (by rfl) (by rfl) g 5 (List.replicate L (.int .u8 0)) [] (D8 v L) (by simp [D8_length]) (by simpa using hbn) (by rw [D8_length]; exact (Nat.min_self L).symm) (fun _ => ⟨rfl, _, rfl, fun j x hx => by
        have hj : j < L := by
          rcases Nat.lt_or_ge j L with h | h
          · exact h
          · rw [List.getElem?_eq_none (by rw [D8_length]; exact h)] at hx; cases hx
        rw [D8_get v L j hj] at hx
        cases hx
        rw [addr_add]
        exact hr2.cell j hj⟩) (D8_one v L) ?_; intro w3 hk3 hc3)
    go_ret
    refine ⟨some ⟨g, 0, none⟩, rfl, ⟨⟨fun h => absurd h (by have := HV.out; omega), fun _ => ⟨g, rfl, ?_⟩, fun b' hb' => (by simp only [Option.some.injEq, Addr.mk.injEq] at hb'; exact hb'.1 : g = b') ▸ ⟨5, _, hk3⟩⟩, fun b' hb' => ?_⟩, hch.news hc3 (by simp; omega)⟩
    · rw [← HL.out]
      exact D8_row (t := 5) (by simpa using hk3)
    · simp only [Option.some.injEq, Addr.mk.injEq] at hb'
      omega
end Na
end Go.Proofs.Ygctak
