/-
  An accumulator loaded and stored whole; a new one. down.
-/
import Derived.Test.YgctakAcc4
import Derived.Deep.MidRow
namespace Go.Proofs.Ygctak
open Go.RowKit
set_option linter.unusedVariables false
set_option linter.unusedSimpArgs false
attribute [local go_sem ↓] Go.wp_at_zero Go.wp_at_succ

theorem Blk.setCells_ne (b2 : Nat) : ∀ (cs : List Value) (o : Nat) (w : World) {b : Nat} {t : TypeId} {m : List Value}, Blk w b t m → b ≠ b2 → Blk (w.setCells b2 o cs) b t m
  | [], _, _, _, _, _, h, _ => h
  | v :: r, o, w, _, _, _, h, hne => Blk.setCells_ne b2 r (o + 1) _ (h.set_ne _ hne _) hne
theorem Chg.setCells {S : List Nat} {a : World} (b : Nat) (hb : b ∈ S) : ∀ (cs : List Value) (o : Nat) (w : World), Chg S a w → Chg S a (w.setCells b o cs)
  | [], _, _, h => h
  | v :: r, o, w, h => Chg.setCells b hb r (o + 1) _ (h.setCell _ hb _)
theorem Chg.setCellsNew {S : List Nat} {a : World} (b : Nat) (hb : a.heap.size ≤ b) : ∀ (cs : List Value) (o : Nat) (w : World), Chg S a w → Chg S a (w.setCells b o cs)
  | [], _, _, h => h
  | v :: r, o, w, h => Chg.setCellsNew b hb r (o + 1) _ (h.setNew _ hb _)

namespace Ac

theorem At.rangeAt {w : World} {b o : Nat} {t : TypeId} {p m s : List Value} (h : At w b o t p m s) : w.rangeAt b o m := by
  intro j v hv
  refine h.blk.cell _ _ ?_
  have hj : j < m.length := (List.getElem?_eq_some_iff.1 hv).1
  rw [List.append_assoc, List.getElem?_append_right (by have := h.off; omega), show o + j - p.length = j by have := h.off; omega, List.getElem?_append_left hj, hv]
theorem At.there {w : World} {b o : Nat} {t : TypeId} {p m s : List Value} (h : At w b o t p m s) (n : Nat) (hn : n = m.length) : w.there b o n := by
  intro j hj
  subst hn
  refine ⟨?_, h.blk.frozen _ _⟩
  rw [h.rangeAt j _ (List.getElem?_eq_getElem hj)]
  rfl
theorem At.setCells {b : Nat} {t : TypeId} {s : List Value} : ∀ (cs m p : List Value) (o : Nat) (w : World), At w b o t p m s → m.length = cs.length → At (w.setCells b o cs) b o t p cs s
  | [], m, p, o, w, h, hl => by
    have : m = [] := List.eq_nil_of_length_eq_zero (by simpa using hl)
    subst this; exact h
  | v :: r, m, p, o, w, h, hl => by
    match m, hl with
    | u :: m', hl =>
      have h1 := h.blk.set o v
      rw [List.append_assoc, List.set_append_right _ _ (by have := h.off; omega), show o - p.length = 0 by have := h.off; omega, List.cons_append, List.set_cons_zero] at h1
      have h2 : At (w.setCell ⟨b, o, none⟩ v) b (o + 1) t (p ++ [v]) m' s := ⟨by simp [h.off], by simpa using h1⟩
      have h3 := At.setCells r m' (p ++ [v]) (o + 1) _ h2 (by simpa using hl)
      have e : p ++ (v :: r) ++ s = p ++ [v] ++ r ++ s := by simp
      exact ⟨h.off, by rw [e]; exact h3.blk⟩

theorem Wd_one (f : Nat → Int) : (Wd f).toArray.all (·.oneCell') = true :=
  all_oneCell_toArray (fun v hv => by
    unfold Wd at hv
    rw [List.mem_map] at hv
    obtain ⟨j, _, rfl⟩ := hv
    rfl)

/-- A block that is one accumulator. -/
theorem At.whole {w : World} {b : Nat} {t : TypeId} {m : List Value} (h : Blk w b t m) : At w b 0 t [] m [] := ⟨rfl, by simpa using h⟩
theorem At.toBlk {w : World} {b : Nat} {t : TypeId} {m : List Value} (h : At w b 0 t [] m []) : Blk w b t m := by simpa using h.blk

theorem alloc58 (w : World) : (Instr.alloc 58 true (.tuple #[])).run Takg.prog w = .ok (.pointer (some ⟨w.heap.size, 0, none⟩)) (w.alloc (.cells (Array.replicate 68 (.int .u64 0)) 58)) := by kernel_rfl
theorem W_zero : W 0 = List.replicate 68 (.int .u64 0) := by
  apply List.ext_getElem?
  intro j
  by_cases h : j < 68
  · unfold W; rw [Wd_get _ _ h, List.getElem?_replicate, if_pos h]; simp [word]
  · rw [List.getElem?_eq_none (by rw [W_length]; omega), List.getElem?_eq_none (by rw [List.length_replicate]; omega)]
theorem info58 : (Takg.prog.info? 58).map (·.size) = some 68 := by kernel_rfl

theorem or_comm64 (a b : Int) : bits .or .u64 a b = bits .or .u64 b a := by
  show IntKind.u64.wrap ((BitVec.ofInt 64 a ||| BitVec.ofInt 64 b).toNat : Int) = IntKind.u64.wrap ((BitVec.ofInt 64 b ||| BitVec.ofInt 64 a).toNat : Int)
  rw [BitVec.or_comm]
theorem mix_step2 {f g h : Nat → Int} {k : Nat} (hf : ∀ j, f j = if j < k then g j else h j) (u : Int) {v : Int} (hv : g k = v) : ∀ j, upd (upd f k u) k v j = if j < k + 1 then g j else h j := by
  intro j
  rw [← mix_step hf hv j]
  unfold upd
  by_cases e : j = k
  · rw [if_pos e, if_pos e]
  · rw [if_neg e, if_neg e, if_neg e]

/-- A function whose one result lies in a variable of many cells. -/
theorem results_row {fn : Func} {p : Tmp} {ty : TypeId} (h : fn.results = #[.cell p ty]) (tmps : Array Value) (P : Program) (w : World) (b o : Nat) (hp : tmps.getD p undef = .pointer (some ⟨b, o, none⟩)) (cs : List Value) (d : TypeDesc)
    (hc : w.rangeAt b o cs) (hu : P.underlying ty = some d) (hd : d.isRow = true) (hi : (P.info? ty).map (·.size) = some cs.length) : (results fn tmps).run P w = .ok (.agg cs.toArray) w := by
  have hl := run_loadVar_mid w b o ty cs d hc hu hd hi
  simp only [results, h]
  simp [Sem.run_bind, Result.andThen, hp, asAddr, hl]
  simp [Array.getD_eq_getD_getElem?] at hp
  simp [hp, hl, asAddr]

set_option maxHeartbeats 1000000 in
theorem down_any (x : Int) (k : Nat) (w : World) (hx0 : 0 ≤ x) (hx1 : x < half) (hk0 : 0 < k) (hk1 : k < 64) :
    Calls Takg.prog 104 #[.agg (W x).toArray, .int .u8 k] w fun e w' => e = .returned (.agg (W (x / 2 ^ k)).toArray) ∧ Chg [] w w' := by
  go_enter Takg.func104, Takg.ntmps104
  go_wp2_with (refine wpList_allocVar (by rfl) 58 (by rfl) _ alloc58 ?_)
  obtain ⟨b, hb⟩ : ∃ b, b = w.heap.size := ⟨_, rfl⟩
  have h1 : At (w.alloc (Obj.cells (W x).toArray 58)) b 0 58 [] (W x) [] := by rw [hb]; exact At.whole (Blk.new w (W x) 58)
  have h2 := h1.alloc (Obj.cells (Array.replicate 68 (Value.int IntKind.u64 0)) 58)
  have h3 : At ((w.alloc (Obj.cells (W x).toArray 58)).alloc (Obj.cells (Array.replicate 68 (Value.int IntKind.u64 0)) 58)) (b + 1) 0 58 [] (W 0) [] := by
    have := Blk.newRep (w.alloc (Obj.cells (W x).toArray 58)) 68 (Value.int .u64 0) 58
    rw [World.size_alloc, ← hb, ← W_zero] at this
    exact At.whole this
  have hc := ((Chg.refl [] w).alloc (Obj.cells (W x).toArray 58)).alloc (Obj.cells (Array.replicate 68 (Value.int IntKind.u64 0)) 58)
  rw [← hb]
  have HB := hide hb
  generalize (w.alloc (Obj.cells (W x).toArray 58)).alloc (Obj.cells (Array.replicate 68 (Value.int IntKind.u64 0)) 58) = w1 at *
  clear hb h1
  have hdiv := fun i => word_div x k i hk0 hk1
  have HD := hide hdiv
  have HL := hide (word_last hx0 hx1)
  clear hdiv
  go_loopw [5] (fun i wr => ∃ (m : Nat) (f : Nat → Int), i = .int .i64 m ∧ m ≤ 68 ∧ (∀ j, f j = if j < m then word (x / 2 ^ k) j else word x j) ∧ At wr b 0 58 [] (Wd f) [] ∧ At wr (b + 1) 0 58 [] (W 0) [] ∧ Chg [] w wr) (fun i _ => 68 - (intOf i).toNat)
  case atStart => exact ⟨0, word x, rfl, by omega, fun j => by simp, h2, h3, hc⟩
  case round =>
    clear h2 h3 hc
    obtain ⟨m, f, rfl, hm, hf, ha, hz, hch⟩ := hrel
    have HF := hide hf
    clear hf
    by_cases hlt : m < 68
    · have hcell : ∀ j, j < 68 → m ≤ j → wr.cell? ⟨b, j, none⟩ = some (.int .u64 (word x j)) := fun j h1 h2 => by
        have := ha.cell j h1
        rw [Nat.zero_add] at this
        rw [this, HF.out j, if_neg (by omega)]
      have k0 := hcell m hlt (Nat.le_refl _)
      have ub := word_bd x m
      obtain ⟨u, hu⟩ : ∃ u, u = word x m := ⟨_, rfl⟩
      rw [← hu] at k0 ub
      obtain ⟨u0, u1⟩ := ub
      have f0 := ha.blk.frozen m none
      have hn1 := ha.set m hlt (u / 2 ^ k)
      rw [Nat.zero_add] at hn1
      have hz1 := hz.setNe ⟨b, m, none⟩ (by simp) (.int .u64 (u / 2 ^ k))
      have hc1 := hch.setNew ⟨b, m, none⟩ (by have := HB.out; simp; omega) (.int .u64 (u / 2 ^ k))
      have hdm := HD.out m
      rw [← hu] at hdm
      have HDM := hide hdm
      have HC := hide hcell
      clear hcell hdm hu
      by_cases h67 : m < 67
      · have vb := word_bd x (m + 1)
        have k1 : (wr.setCell ⟨b, m, none⟩ (.int .u64 (u / 2 ^ k))).cell? ⟨b, m + 1, none⟩ = some (.int .u64 (word x (m + 1))) := by
          have := hn1.cell (m + 1) (by omega)
          rw [Nat.zero_add] at this
          rw [this]
          unfold upd
          rw [if_neg (by omega), HF.out, if_neg (by omega)]
        obtain ⟨v, hv⟩ : ∃ v, v = word x (m + 1) := ⟨_, rfl⟩
        rw [← hv] at k1 vb HDM
        obtain ⟨v0, v1⟩ := vb
        have k2 : (wr.setCell ⟨b, m, none⟩ (.int .u64 (u / 2 ^ k))).cell? ⟨b, m, none⟩ = some (.int .u64 (u / 2 ^ k)) := by
          have := hn1.cell m (by omega)
          rw [Nat.zero_add] at this
          rw [this]
          unfold upd
          rw [if_pos rfl]
        have f2 := hn1.blk.frozen m none
        have hw64 : IntKind.u8.wrap (64 - (k : Int)) = 64 - (k : Int) := by rw [IntKind.wrap_u8]; omega
        clear hv
        go_upto_if 18 with fail
        clear k0 f0
        generalize wr.setCell ⟨b, m, none⟩ (.int .u64 (u / 2 ^ k)) = w2 at *
        go_wp2_with fail
        go_region
        go_wp2_with fail
        have hor : word (x / 2 ^ k) m = bits BinOp.or IntKind.u64 (u / 2 ^ k) (IntKind.u64.wrap (v * 2 ^ (64 - k))) := by
          have := or_shift v u (64 - k) (by omega) v0 u0 u1
          rw [show 64 - (64 - k) = k by omega] at this
          rw [or_comm64, this, HDM.out]
        go_roundw
        case rel =>
          refine ⟨m + 1, _, by go_num, by omega, mix_step2 HF.out (u / 2 ^ k) hor, ?_, ?_, ?_⟩
          · have := hn1.set m hlt (bits BinOp.or IntKind.u64 (u / 2 ^ k) (IntKind.u64.wrap (v * 2 ^ (64 - k))))
            rw [Nat.zero_add] at this
            exact this.drew
          · exact (hz1.setNe _ (by simp) _).drew
          · exact (hc1.setNew _ (by have := HB.out; simp; omega) _).drew
        case measure => simp [intOf]; omega
      · have hm67 : m = 67 := by omega
        subst hm67
        have hwd : word (x / 2 ^ k) 67 = u / 2 ^ k := by rw [HDM.out, HL.out]; simp
        have HWD := hide hwd
        clear hwd
        go_wp2_with fail
        go_roundw
        case rel => exact ⟨68, _, by go_num, by omega, mix_step HF.out HWD.out, hn1, hz1, hc1⟩
        case measure => simp [intOf]
    · have hm68 : m = 68 := by omega
      subst hm68
      have hfe : Wd f = W (x / 2 ^ k) := Wd_congr fun j hj => by rw [HF.out j, if_pos hj]
      rw [hfe] at ha
      go_upto_region 7 with fail
      apply wp_region_lit
      refine wpList_load_mid (by rfl) 58 _ (by rfl) b 0 (by rfl) (W (x / 2 ^ k)) _ ha.rangeAt Takg.underlying58 (by rfl) (by rw [W_length]; exact info58) ?_
      refine wpList_store_mid (by rfl) 58 _ _ (by rfl) (b + 1) 0 (W (x / 2 ^ k)).toArray (by rfl) (by rfl) (hz.there _ (by simp [W_length])) (by rw [List.size_toArray, W_length]; exact info58) (Wd_one _) ?_
      have hz2 := At.setCells (W (x / 2 ^ k)) _ _ _ _ hz (by rw [W_length, W_length])
      have hc2 := Chg.setCellsNew (b + 1) (by have := HB.out; omega) (W (x / 2 ^ k)) 0 _ hch
      simp only [List.toList_toArray]
      generalize wr.setCells (b + 1) 0 (W (x / 2 ^ k)) = w3 at *
      go_wp2_with fail
      exact bodyPost_ret (results_row (by rfl) _ _ _ (b + 1) 0 (by rfl) (W (x / 2 ^ k)) _ hz2.rangeAt Takg.underlying58 (by rfl) (by rw [W_length]; exact info58)) rfl ⟨rfl, hc2⟩
end Ac
end Go.Proofs.Ygctak
