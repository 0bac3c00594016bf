/-
  Walks: Inverse, elems.
-/
import Derived.Test.YgctakNtt6
namespace Go.Proofs.Ygctak
open Go.RowKit
set_option linter.unusedVariables false
set_option linter.unusedSimpArgs false
attribute [local go_sem ↓] Go.wp_at_zero Go.wp_at_succ
namespace Ntt

set_option maxHeartbeats 1000000 in
theorem Inverse_any (b k : Nat) (xs : List Int) (w : World) (hk0 : 1 ≤ k) (hk : k ≤ 11) (hn : xs.length = 2 ^ k) (hx : Lt 998244353 xs) (hb : Blk w b 25 (E xs)) :
    Calls Takg.prog 15 #[.slice (some ⟨b, 0, none⟩) (2 ^ k) (2 ^ k)] w fun e w' =>
      e = .returned (.bool true) ∧ Blk w' b 25 (E (bwd xs k)) ∧ Chg [b] w w' := by
  have hxw : Word xs := fun j hj => by have := hx j hj; omega
  have hlev := fun W => level_any k W hk
  have hn2 : 2 ^ k ≤ 2048 := Nat.pow_le_pow_right (n := 2) (by omega) hk
  have hbel := Below_any b xs w (by rw [hn]; exact hn2) hx hb
  rw [hn] at hbel
  have rb := powm_bd 3 (998244352 / 2 ^ k)
  have ib := powm_bd (root k) 998244351
  have htr := transform_any b k xs (inv (root k)) w hk0 hk hn hxw ib.1 ib.2 hb
  have htk := trans_keep xs k (inv (root k)) hn hxw
  obtain ⟨ts, hts⟩ : ∃ ts, ts = trans xs k (inv (root k)) := ⟨_, rfl⟩
  obtain ⟨n, hnn⟩ : ∃ n, n = 2 ^ k := ⟨_, rfl⟩
  have HBW : Hid (bwd xs k = ts.map fun v => fold (times (inv n) (rat (inv n)) v)) := by unfold Hid bwd; rw [hn, ← hnn, ← hts]
  rw [← hnn] at hlev hbel htr htk hn2 ⊢
  rw [← hts] at htr htk
  obtain ⟨htl, htw⟩ := htk
  have HL := hide hlev
  have HB := hide hbel
  have HT := hide htr
  have HTL := hide htl
  clear hlev hbel htr hnn hn hx hxw hts htl
  go_enter Takg.func15, Takg.ntmps15
  go_wp2_with fail
  refine (HL.out _).mono ?_
  rintro e w' ⟨rfl, rfl⟩
  go_wp2_with fail
  refine HB.out.mono ?_
  rintro e w' ⟨rfl, rfl⟩
  go_wp2_with fail
  refine (root_any k _ hk).mono ?_
  rintro e w' ⟨rfl, rfl⟩
  go_wp2_with fail
  refine (invmod_any _ _ rb.1 (by have := rb.2; omega)).mono ?_
  rintro e w' ⟨rfl, rfl⟩
  go_wp2_with fail
  refine HT.out.mono ?_
  rintro e w1 ⟨rfl, hb1, hc1⟩
  go_wp2_with fail
  refine (invmod_any _ _ (by omega) (by omega)).mono ?_
  rintro e w2 ⟨rfl, rfl⟩
  obtain ⟨v, hv⟩ : ∃ v, v = inv n := ⟨_, rfl⟩
  have vb := powm_bd n 998244351
  rw [show powm n 998244351 = inv n from rfl, ← hv] at vb
  rw [← hv]
  rw [← hv] at HBW
  clear hv HL HB HT rb ib hb
  obtain ⟨hv0, hv1⟩ := vb
  go_wp2_with fail
  refine (factorOf_any _ _ hv0 (by omega)).mono ?_
  rintro e w3 ⟨rfl, hc3⟩
  go_wp2_with fail
  have hb4 : Blk (w3.alloc (Obj.cells #[Value.int IntKind.u32 v, Value.int IntKind.u32 (rat v)] 78)) b 25 (E ts) := (hc3.blk hb1 (by simp)).alloc _
  have hbn := Blk.new' w3 #[Value.int IntKind.u32 v, Value.int IntKind.u32 (rat v)] 78
  have hch : Chg [b] w' (w3.alloc (Obj.cells #[Value.int IntKind.u32 v, Value.int IntKind.u32 (rat v)] 78)) := (hc1.trans (hc3.mono (by simp))).alloc _
  have hlt2 : b < w3.heap.size := Nat.lt_of_lt_of_le hb1.lt hc3.size
  obtain ⟨bb, hbb⟩ : ∃ bb, bb = w3.heap.size := ⟨_, rfl⟩
  rw [← hbb] at hbn hlt2
  rw [← hbb]
  clear hb1 hc1 hc3
  generalize w3.alloc (Obj.cells #[Value.int IntKind.u32 v, Value.int IntKind.u32 (rat v)] 78) = w4 at *
  clear hbb
  have rtb := rat_bd v
  go_loopw [6] (fun x wr => ∃ i : Nat, x = .int .i64 i ∧ i ≤ n ∧ Blk wr b 25 (E (mapTo (fun u => fold (times v (rat v) u)) ts i)) ∧ Blk wr bb 78 #[Value.int IntKind.u32 v, Value.int IntKind.u32 (rat v)].toList ∧ Chg [b] w' wr) (fun x _ => n - (intOf x).toNat)
  case atStart => exact ⟨0, rfl, by omega, by simpa [mapTo] using hb4, hbn, hch⟩
  case round =>
    clear hb4 hbn hch
    obtain ⟨i, rfl, hi, hbr, hbbr, hcr⟩ := hrel
    by_cases hin : i < n
    · have hip : i < ts.length := by rw [HTL.out]; exact hin
      have hil : i < (mapTo (fun u => fold (times v (rat v) u)) ts i).length := by rw [mapTo_length _ _ _ (by omega)]; exact hip
      obtain ⟨u, hu⟩ : ∃ u, u = ts.getD i 0 := ⟨_, rfl⟩
      have hub := htw i hip
      rw [← hu] at hub
      have k0 : wr.cell? ⟨b, i, none⟩ = some (.int .u32 u) := by rw [hu, ← mapTo_get (fun u => fold (times v (rat v) u)) ts i hip]; exact hbr.cell _ _ (E_get _ _ hil)
      have k1 := hbbr.cell 0 _ rfl
      have k2 := hbbr.cell 1 _ rfl
      obtain ⟨hu0, hu1⟩ := hub
      have tb := times_bd v (rat v) u
      have hset := mapTo_set (fun u => fold (times v (rat v) u)) ts i hip
      rw [← hu] at hset
      have HS := hide hset
      clear hu hset hip
      go_wp2_with fail
      go_region_with (first | (go_at_call 45; refine (times_any _ _ _ _ hv0 (by omega) rtb.1 rtb.2 hu0 hu1).mono ?_; rintro e w5 ⟨rfl, hc5⟩) | (go_at_call 44; refine (fold_any _ _ tb.1 tb.2).mono ?_; rintro e w6 ⟨rfl, rfl⟩; have hb6 := hc5.blk hbr.drew (by simp); have s0 := hb6.cell _ _ (E_get _ i hil); have s1 := hb6.frozen i none))
      all_goals
        go_wp2_with fail
        go_roundw
        case rel =>
          refine ⟨i + 1, by go_num, by omega, ?_, ?_, ?_⟩
          · have := hb6.set i (.int .u32 (fold (times v (rat v) u)))
            rw [E_set, HS.out] at this
            exact this
          · exact (hc5.blk hbbr.drew (by simp)).set_ne _ (by simp; omega) _
          · exact (hcr.drew.trans (hc5.mono (by simp))).setCell _ (by simp) _
        case measure => simp [intOf]; omega
    · have hie : i = n := by omega
      subst hie
      go_wp2_with fail
      go_ret
      refine ⟨rfl, ?_, hcr⟩
      have : mapTo (fun u => fold (times v (rat v) u)) ts i = ts.map fun u => fold (times v (rat v) u) := by
        unfold mapTo
        rw [← HTL.out, List.take_length, List.drop_length, List.append_nil]
      rw [this] at hbr
      rw [HBW.out]
      exact hbr
end Ntt
end Go.Proofs.Ygctak
