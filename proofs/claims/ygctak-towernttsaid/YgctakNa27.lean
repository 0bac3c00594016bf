/-
  One operation, plainly; calc.Step and law.row both do it.
-/
import Derived.Test.YgctakNa12
import Derived.Test.YgctakNa19
import Derived.Test.YgctakNa20
import Derived.Test.YgctakNa21
import Derived.Test.YgctakNa22
import Derived.Test.YgctakNa23
import Derived.Test.YgctakNa25
import Derived.Test.YgctakNa26
namespace Go.Proofs.Ygctak
open Go.RowKit
set_option linter.unusedVariables false
set_option linter.unusedSimpArgs false
namespace Na

/-- One operation on (stack, out). -/
def stp (kd u : Nat) (s : List Nat × List Int) : List Nat × List Int :=
  if 8 < kd then s
  else if (s.1.length : Int) < need kd ∨ (more kd = true ∧ 16 ≤ s.1.length) then (s.1, s.2 ++ [-2])
  else if kd = 0 then (s.1 ++ [u], s.2)
  else if kd = 6 then (s.1 ++ [s.1.getD (s.1.length - 1) 0], s.2)
  else if kd = 8 then (s.1.take (s.1.length - 1), s.2)
  else if kd = 4 then (if 512 < dlen (s.1.getD (s.1.length - 1) 0) then (s.1, s.2 ++ [-2]) else (s.1.take (s.1.length - 1) ++ [s.1.getD (s.1.length - 1) 0 * s.1.getD (s.1.length - 1) 0], s.2))
  else if kd = 1 then (if 512 < dlen (s.1.getD (s.1.length - 2) 0) ∨ 512 < dlen (s.1.getD (s.1.length - 1) 0) then (s.1, s.2 ++ [-2]) else (s.1.take (s.1.length - 2) ++ [s.1.getD (s.1.length - 2) 0 * s.1.getD (s.1.length - 1) 0], s.2))
  else if kd = 2 then (if 1024 < dlen (s.1.getD (s.1.length - 2) 0 + s.1.getD (s.1.length - 1) 0) then (s.1, s.2 ++ [-2]) else (s.1.take (s.1.length - 2) ++ [s.1.getD (s.1.length - 2) 0 + s.1.getD (s.1.length - 1) 0], s.2))
  else if kd = 3 then (s.1.take (s.1.length - 2) ++ [s.1.getD (s.1.length - 2) 0 - s.1.getD (s.1.length - 1) 0], if geB (s.1.getD (s.1.length - 2) 0) (s.1.getD (s.1.length - 1) 0) then s.2 else s.2 ++ [-4])
  else if kd = 5 then (s.1, s.2 ++ [cmpN (s.1.getD (s.1.length - 2) 0) (s.1.getD (s.1.length - 1) 0)])
  else (s.1.take (s.1.length - 2) ++ [s.1.getD (s.1.length - 1) 0, s.1.getD (s.1.length - 2) 0], s.2)

theorem ite_len {c : Prop} [Decidable c] {a b : List Nat × List Int} {n : Nat} (h1 : a.2.length ≤ n) (h2 : b.2.length ≤ n) : (if c then a else b).2.length ≤ n := by split <;> assumption
theorem ite_len2 {c : Prop} [Decidable c] {a b : List Int} {n : Nat} (h1 : a.length ≤ n) (h2 : b.length ≤ n) : (if c then a else b).length ≤ n := by split <;> assumption
theorem stp_len (kd u : Nat) (s : List Nat × List Int) : (stp kd u s).2.length ≤ s.2.length + 1 := by
  unfold stp
  have h0 : s.2.length ≤ s.2.length + 1 := Nat.le_succ _
  have h1 : ∀ x : Int, (s.2 ++ [x]).length ≤ s.2.length + 1 := fun x => by simp
  refine ite_len h0 (ite_len (h1 _) (ite_len h0 (ite_len h0 (ite_len h0 (ite_len (ite_len (h1 _) h0) (ite_len (ite_len (h1 _) h0) (ite_len (ite_len (h1 _) h0) (ite_len (ite_len2 h0 (h1 _)) (ite_len (h1 _) h0)))))))))

theorem getD_map {es : Es} {i : Nat} {a : Option Addr} {x : Nat} (h : es[i]? = some (a, x)) : (es.map (·.2)).getD i 0 = x := by
  rw [List.getD_eq_getElem?_getD, List.getElem?_map, h]; rfl
theorem some_at {es : Es} {i : Nat} (h : i < es.length) : ∃ a x, es[i]? = some (a, x) := ⟨es[i].1, es[i].2, by rw [List.getElem?_eq_getElem h]⟩

/-- calc.Step. -/
theorem Step_any (B bm eng kd na ca u : Nat) (aa : Option Addr) (v1 v2 : Value) (es : Es) (os : List Int) (w : World) (h : Mac B w bm v1 es v2 os) (ho : os.length < 1000) (he : eng ≤ 3) (hpr : Prod eng) (hA : Arg w aa na ca u) (hk : kd < 256) :
    Calls Takg.prog 93 #[.int .u8 eng, .pointer (some ⟨bm, 0, none⟩), .agg #[.int .u8 kd, .slice aa na ca]] w fun e w' => Sre B w w' bm e (stp kd u (es.map (·.2), os)).1 (stp kd u (es.map (·.2), os)).2 := by
  unfold stp
  simp only [List.length_map]
  by_cases h8 : 8 < kd
  · rw [if_pos h8]
    exact stepSame B bm eng kd na ca aa v1 v2 es os w h he h8 hk
  rw [if_neg h8]
  by_cases hno : (es.length : Int) < need kd ∨ (more kd = true ∧ 16 ≤ es.length)
  · rw [if_pos hno]
    exact stepNo B bm eng kd na ca aa v1 v2 es os w h ho he (by omega) hno
  rw [if_neg hno]
  by_cases k0 : kd = 0
  · subst k0
    rw [if_pos rfl]
    have hl : es.length < 16 := by
      rcases Nat.lt_or_ge es.length 16 with h1 | h1
      · exact h1
      · exact absurd (.inr ⟨rfl, h1⟩) hno
    exact stepPush B bm eng na ca u aa v1 v2 es os w h he hA hl
  rw [if_neg k0]
  by_cases k6 : kd = 6
  · subst k6
    rw [if_pos rfl]
    have hl : es.length < 16 := by
      rcases Nat.lt_or_ge es.length 16 with h1 | h1
      · exact h1
      · exact absurd (.inr ⟨rfl, h1⟩) hno
    have hl1 : 1 ≤ es.length := by
      have : need 6 = 1 := rfl
      rw [this] at hno; omega
    obtain ⟨a, x, hx⟩ := some_at (es := es) (i := es.length - 1) (by omega)
    rw [getD_map hx]
    exact stepDup B bm eng na ca aa v1 v2 es os w h he a x hx hl
  rw [if_neg k6]
  by_cases k8 : kd = 8
  · subst k8
    rw [if_pos rfl]
    have hl1 : 1 ≤ es.length := by
      have : need 8 = 1 := rfl
      rw [this] at hno; omega
    obtain ⟨a, x, hx⟩ := some_at (es := es) (i := es.length - 1) (by omega)
    have := stepDrop B bm eng na ca aa v1 v2 es os w h he a x hx
    rw [List.map_take] at this
    exact this
  rw [if_neg k8]
  by_cases k4 : kd = 4
  · subst k4
    rw [if_pos rfl]
    have hl1 : 1 ≤ es.length := by
      have : need 4 = 1 := rfl
      rw [this] at hno; omega
    obtain ⟨a, x, hx⟩ := some_at (es := es) (i := es.length - 1) (by omega)
    rw [getD_map hx]
    by_cases hd : 512 < dlen x
    · rw [if_pos hd]
      exact stepSqrNo B bm eng na ca aa v1 v2 es os w h he a x hx ho hd
    · rw [if_neg hd]
      have := stepSqr B bm eng na ca aa v1 v2 es os w h he a x hx hpr (by omega)
      rw [List.map_take] at this
      exact this
  rw [if_neg k4]
  have hn2 : need kd = 2 := by
    have : kd = 1 ∨ kd = 2 ∨ kd = 3 ∨ kd = 5 ∨ kd = 7 := by omega
    rcases this with h | h | h | h | h <;> subst h <;> rfl
  rw [hn2] at hno
  have hl2 : 2 ≤ es.length := by omega
  obtain ⟨a, x, hx⟩ := some_at (es := es) (i := es.length - 2) (by omega)
  obtain ⟨b, y, hy⟩ := some_at (es := es) (i := es.length - 1) (by omega)
  rw [getD_map hx, getD_map hy]
  by_cases k1 : kd = 1
  · subst k1
    rw [if_pos rfl]
    by_cases hd : 512 < dlen x ∨ 512 < dlen y
    · rw [if_pos hd]
      exact stepMulNo B bm eng na ca aa v1 v2 es os w h he a b x y hx hy hl2 ho hd
    · rw [if_neg hd]
      have := stepMul B bm eng na ca aa v1 v2 es os w h he a b x y hx hy hl2 hpr (by omega)
      rw [List.map_take] at this
      exact this
  rw [if_neg k1]
  by_cases k2 : kd = 2
  · subst k2
    rw [if_pos rfl]
    by_cases hd : 1024 < dlen (x + y)
    · rw [if_pos hd]
      exact stepAddNo B bm eng na ca aa v1 v2 es os w h he a b x y hx hy hl2 ho hd
    · rw [if_neg hd]
      have := stepAdd B bm eng na ca aa v1 v2 es os w h he a b x y hx hy hl2 (by omega)
      rw [List.map_take] at this
      exact this
  rw [if_neg k2]
  by_cases k3 : kd = 3
  · subst k3
    rw [if_pos rfl]
    cases hg : geB x y with
    | true =>
      rw [if_pos rfl]
      have := stepSub B bm eng na ca aa v1 v2 es os w h he a b x y hx hy hl2 hg
      rw [List.map_take] at this
      exact this
    | false =>
      rw [if_neg (by simp)]
      have := stepSubNo B bm eng na ca aa v1 v2 es os w h he a b x y hx hy hl2 ho hg
      rw [List.map_take] at this
      exact this
  rw [if_neg k3]
  by_cases k5 : kd = 5
  · subst k5
    rw [if_pos rfl]
    exact stepCmp B bm eng na ca aa v1 v2 es os w h he a b x y hx hy hl2 ho
  rw [if_neg k5]
  have k7 : kd = 7 := by omega
  subst k7
  have := stepSwap B bm eng na ca aa v1 v2 es os w h he a b x y hx hy hl2
  rw [List.map_take] at this
  exact this

/-- law.row. -/
theorem row_any (a1 a2 aa : Option Addr) (c1 c2 kd na ca u : Nat) (es : Es) (os : List Int) (w : World) (h : StE w a1 c1 es a2 c2 os) (ho : os.length < 1000) (hA : Arg w aa na ca u) (hk : kd < 256) :
    Calls Takg.prog 52 #[.int .u8 0, .agg #[.slice a1 es.length c1, .slice a2 os.length c2], .agg #[.int .u8 kd, .slice aa na ca]] w fun e w' => Res w w' e (stp kd u (es.map (·.2), os)).1 (stp kd u (es.map (·.2), os)).2 := by
  unfold stp
  simp only [List.length_map]
  by_cases h8 : 8 < kd
  · rw [if_pos h8]
    exact rowSame a1 a2 aa c1 c2 kd na ca u es os w h ho hA h8 hk
  rw [if_neg h8]
  have hn16 := h.n1
  have hk9 : kd = 0 ∨ kd = 6 ∨ kd = 8 ∨ kd = 4 ∨ kd = 1 ∨ kd = 2 ∨ kd = 3 ∨ kd = 5 ∨ kd = 7 := by omega
  by_cases hno : (es.length : Int) < need kd ∨ (more kd = true ∧ 16 ≤ es.length)
  · rw [if_pos hno]
    have h2 : ∀ k, k = 1 ∨ k = 2 ∨ k = 3 ∨ k = 5 ∨ k = 7 → need k = 2 ∧ more k = false := fun k hk => by
      rcases hk with h | h | h | h | h <;> subst h <;> exact ⟨rfl, rfl⟩
    rcases hk9 with k | k | k | k | k
    · subst k
      refine rowNoA a1 a2 aa c1 c2 0 na ca u es os w h ho hA (.inl ⟨rfl, ?_⟩)
      have : need 0 = 0 := rfl
      rw [this] at hno; omega
    · subst k
      refine rowNoA a1 a2 aa c1 c2 6 na ca u es os w h ho hA (.inr ?_)
      have : need 6 = 1 := rfl
      rw [this] at hno; omega
    · subst k
      refine rowNoB a1 a2 aa c1 c2 8 na ca u es os w h ho hA ⟨rfl, ?_⟩
      have : need 8 = 1 := rfl
      have h3 : more 8 = false := rfl
      rw [this, h3] at hno
      rcases hno with h | ⟨h, _⟩
      · omega
      · cases h
    · subst k
      refine rowNoD a1 a2 aa c1 c2 4 na ca u es os w h ho hA ⟨rfl, ?_⟩
      have : need 4 = 1 := rfl
      have h3 : more 4 = false := rfl
      rw [this, h3] at hno
      rcases hno with h | ⟨h, _⟩
      · omega
      · cases h
    · refine rowNoC a1 a2 aa c1 c2 kd na ca u es os w h ho hA ⟨k, ?_⟩
      obtain ⟨e1, e2⟩ := h2 kd k
      rw [e1, e2] at hno
      rcases hno with h | ⟨h, _⟩
      · omega
      · cases h
  rw [if_neg hno]
  by_cases k0 : kd = 0
  · subst k0
    rw [if_pos rfl]
    have hl : es.length < 16 := by
      rcases Nat.lt_or_ge es.length 16 with h1 | h1
      · exact h1
      · exact absurd (.inr ⟨rfl, h1⟩) hno
    exact rowPush a1 a2 aa c1 c2 0 na ca u es os w h ho hA rfl hl
  rw [if_neg k0]
  by_cases k6 : kd = 6
  · subst k6
    rw [if_pos rfl]
    have hl : es.length < 16 := by
      rcases Nat.lt_or_ge es.length 16 with h1 | h1
      · exact h1
      · exact absurd (.inr ⟨rfl, h1⟩) hno
    have hl1 : 1 ≤ es.length := by
      have : need 6 = 1 := rfl
      rw [this] at hno; omega
    obtain ⟨a, x, hx⟩ := some_at (es := es) (i := es.length - 1) (by omega)
    rw [getD_map hx]
    exact rowDup a1 a2 aa c1 c2 6 na ca u es os w h ho hA a x rfl hl hx
  rw [if_neg k6]
  by_cases k8 : kd = 8
  · subst k8
    rw [if_pos rfl]
    have hl1 : 1 ≤ es.length := by
      have : need 8 = 1 := rfl
      rw [this] at hno; omega
    obtain ⟨a, x, hx⟩ := some_at (es := es) (i := es.length - 1) (by omega)
    have := rowDrop a1 a2 aa c1 c2 8 na ca u es os w h ho hA a x rfl hx
    rw [List.map_take] at this
    exact this
  rw [if_neg k8]
  by_cases k4 : kd = 4
  · subst k4
    rw [if_pos rfl]
    have hl1 : 1 ≤ es.length := by
      have : need 4 = 1 := rfl
      rw [this] at hno; omega
    obtain ⟨a, x, hx⟩ := some_at (es := es) (i := es.length - 1) (by omega)
    rw [getD_map hx]
    by_cases hd : 512 < dlen x
    · rw [if_pos hd]
      exact rowSqrNo a1 a2 aa c1 c2 4 na ca u es os w h ho hA a x rfl hx hd
    · rw [if_neg hd]
      have := rowSqr a1 a2 aa c1 c2 4 na ca u es os w h ho hA a x rfl hx (by omega)
      rw [List.map_take] at this
      exact this
  rw [if_neg k4]
  have hkk : kd = 1 ∨ kd = 2 ∨ kd = 3 ∨ kd = 5 ∨ kd = 7 := by omega
  have hn2 : need kd = 2 := by
    rcases hkk with h | h | h | h | h <;> subst h <;> rfl
  rw [hn2] at hno
  have hl2 : 2 ≤ es.length := by omega
  obtain ⟨a, x, hx⟩ := some_at (es := es) (i := es.length - 2) (by omega)
  obtain ⟨b, y, hy⟩ := some_at (es := es) (i := es.length - 1) (by omega)
  rw [getD_map hx, getD_map hy]
  have ex := h.ent _ (List.mem_of_getElem? hx)
  have ey := h.ent _ (List.mem_of_getElem? hy)
  refine rowTwo a1 a2 aa c1 c2 kd na ca u es os w h ho hA a b x y _ _ hkk hl2 hx hy (fun W hW => ?_)
  have hs := h.chg0 hW
  have e1 := ex.1.chg0 hW
  have e2 := ey.1.chg0 hW
  by_cases k1 : kd = 1
  · subst k1
    rw [if_pos rfl]
    by_cases hd : 512 < dlen x ∨ 512 < dlen y
    · rw [if_pos hd]
      exact rowMulNo a1 a2 a b c1 c2 x y es os W hs hl2 ho ex.2 ey.2 e1 e2 hd
    · rw [if_neg hd]
      have := rowMul a1 a2 a b c1 c2 x y es os W hs hl2 ho ex.2 ey.2 e1 e2 (by omega) (by omega)
      rw [List.map_take] at this
      exact this
  rw [if_neg k1]
  by_cases k2 : kd = 2
  · subst k2
    rw [if_pos rfl]
    by_cases hd : 1024 < dlen (x + y)
    · rw [if_pos hd]
      exact rowAddNo a1 a2 a b c1 c2 x y es os W hs hl2 ho ex.2 ey.2 e1 e2 hd
    · rw [if_neg hd]
      have := rowAdd a1 a2 a b c1 c2 x y es os W hs hl2 ho ex.2 ey.2 e1 e2 (by omega)
      rw [List.map_take] at this
      exact this
  rw [if_neg k2]
  by_cases k3 : kd = 3
  · subst k3
    rw [if_pos rfl]
    cases hg : geB x y with
    | true =>
      rw [if_pos rfl]
      have := rowSub a1 a2 a b c1 c2 x y es os W hs hl2 ho ex.2 ey.2 e1 e2 hg
      rw [List.map_take] at this
      exact this
    | false =>
      rw [if_neg (by simp)]
      have := rowSubNo a1 a2 a b c1 c2 x y es os W hs hl2 ho ex.2 ey.2 e1 e2 hg
      have hz : x - y = 0 := by unfold geB at hg; have := of_decide_eq_false hg; omega
      rw [List.map_take] at this
      rw [hz]
      exact this
  rw [if_neg k3]
  by_cases k5 : kd = 5
  · subst k5
    rw [if_pos rfl]
    exact rowCmp a1 a2 a b c1 c2 x y es os W hs hl2 ho ex.2 ey.2 e1 e2
  rw [if_neg k5]
  have k7 : kd = 7 := by omega
  subst k7
  have := rowSwap a1 a2 a b c1 c2 x y es os W hs hl2 ho ex.2 ey.2 e1 e2
  rw [List.map_take] at this
  exact this
end Na
end Go.Proofs.Ygctak
