/-
  The modular transform, plainly: sums of roots; ntt.Convolve is the convolution.
-/
import Derived.Test.YgctakNc2
import Derived.Test.YgctakNtt9
import Derived.Test.YgctakCx6
import Derived.Test.YgctakFt12
set_option linter.unusedVariables false
set_option linter.unusedSimpArgs false
namespace Go.Proofs.Ygctak.Nc
open Ntt (mulm fold rat times fwd bwd root inv convFull pad)
open Ft (sm sm_congr sm_add sm_sub sm_mul sm_neg sm_zero sm_two sm_append sm_swap rev rev_lt rev_rev odd_split dg cv s2)
open Sh (Digs)

/-- The roots are what they should be. -/
def okR (k : Nat) : Bool :=
  decide (0 ≤ root k) && decide (root k < 998244353) && decide (0 ≤ inv (root k)) && decide (inv (root k) < 998244353) && decide (0 ≤ inv ((2 ^ k : Nat) : Int)) && decide (inv ((2 ^ k : Nat) : Int) < 998244353) &&
  decide ((root k ^ 2 ^ (k - 1) + 1) % 998244353 = 0) && decide ((inv (root k) ^ 2 ^ (k - 1) + 1) % 998244353 = 0) && decide ((root k * inv (root k) - 1) % 998244353 = 0) && decide ((inv ((2 ^ k : Nat) : Int) * ((2 ^ k : Nat) : Int) - 1) % 998244353 = 0)
theorem okR_all : ∀ k : Fin 11, k.val = 0 ∨ okR k.val = true := by decide +kernel

structure Rts (k : Nat) (w v u : Int) : Prop where
  w0 : 0 ≤ w
  w1 : w < 998244353
  v0 : 0 ≤ v
  v1 : v < 998244353
  u0 : 0 ≤ u
  u1 : u < 998244353
  hw : Cg (w ^ 2 ^ (k - 1)) (-1)
  hv : Cg (v ^ 2 ^ (k - 1)) (-1)
  wv : Cg (w * v) 1
  un : Cg (u * ((2 ^ k : Nat) : Int)) 1
theorem rts (k : Nat) (h1 : 1 ≤ k) (h2 : k ≤ 10) : Rts k (root k) (inv (root k)) (inv ((2 ^ k : Nat) : Int)) := by
  have h := (okR_all ⟨k, by omega⟩).resolve_left (by simp; omega)
  simp only [okR, Bool.and_eq_true, decide_eq_true_eq] at h
  obtain ⟨⟨⟨⟨⟨⟨⟨⟨⟨a, b⟩, c⟩, d⟩, e⟩, f⟩, g⟩, i⟩, j⟩, l⟩ := h
  have z : ∀ {x y : Int}, (x - y) % 998244353 = 0 → Cg x y := fun {x y} h => ⟨(x - y) / 998244353, by omega⟩
  exact ⟨a, b, c, d, e, f, z (by rw [Int.sub_neg]; exact g), z (by rw [Int.sub_neg]; exact i), z j, z l⟩

theorem sm_pair0 {f : Nat → Int} {h : Nat} (hf : ∀ m, Cg (f (m + h)) (-f m)) : ∀ c, Cg (sm f (c * (2 * h))) 0
  | 0 => by simp [sm]; exact Cg.refl _
  | c + 1 => by
    rw [Nat.add_mul, Nat.one_mul, sm_append, Nat.two_mul, sm_append]
    have e : Cg (sm (fun m => f (c * (h + h) + (h + m))) h) (-sm (fun m => f (c * (h + h) + m)) h) := by
      rw [← sm_neg]
      refine Cg.sm fun m _ => ?_
      rw [show c * (h + h) + (h + m) = c * (h + h) + m + h by omega]
      exact hf _
    have ih := sm_pair0 hf c
    rw [Nat.two_mul] at ih
    have := ih.add ((Cg.refl (sm (fun m => f (c * (h + h) + m)) h)).add e)
    have e0 : (0 : Int) + (sm (fun m => f (c * (h + h) + m)) h + -sm (fun m => f (c * (h + h) + m)) h) = 0 := by omega
    rw [e0] at this
    exact this

theorem odd_pow (o : Nat) : (-1 : Int) ^ (2 * o + 1) = -1 := by
  rw [Int.pow_succ, Int.pow_mul, show (-1 : Int) ^ 2 = 1 by rfl, Int.one_pow]; rfl

/-- The sum of the roots' powers. -/
theorem roots_sum {k : Nat} {w v u : Int} (h : Rts k w v u) (h1 : 1 ≤ k) (s i : Nat) (hi : i < 2 ^ k) :
    Cg (sm (fun j => w ^ (s * j) * v ^ (j * i)) (2 ^ k)) (if ((s : Int) - i) % ((2 ^ k : Nat) : Int) = 0 then ((2 ^ k : Nat) : Int) else 0) := by
  have hwv : ∀ n, Cg (w ^ n * v ^ n) 1 := fun n => by
    rw [← Int.mul_pow]
    have := h.wv.pow n
    rwa [Int.one_pow] at this
  have hwn : Cg (w ^ 2 ^ k) 1 := by
    have e : w ^ 2 ^ k = (w ^ 2 ^ (k - 1)) ^ 2 := by rw [← Int.pow_mul]; congr 1; conv => lhs; rw [show k = (k - 1) + 1 by omega, Nat.pow_succ]
    rw [e]
    exact h.hw.pow 2
  by_cases hd : ((s : Int) - i) % ((2 ^ k : Nat) : Int) = 0
  · rw [if_pos hd]
    obtain ⟨c, hc⟩ : ∃ c : Nat, s = i + c * 2 ^ k := by
      have hdv := Int.mul_ediv_cancel' (Int.dvd_of_emod_eq_zero hd)
      have hc0 : 0 ≤ ((s : Int) - i) / ((2 ^ k : Nat) : Int) := by
        rcases Int.lt_or_le (((s : Int) - i) / ((2 ^ k : Nat) : Int)) 0 with h2 | h2
        · exfalso
          have h3 : ((2 ^ k : Nat) : Int) * (((s : Int) - i) / ((2 ^ k : Nat) : Int)) ≤ ((2 ^ k : Nat) : Int) * (-1) := Int.mul_le_mul_of_nonneg_left (by omega) (by omega)
          omega
        · exact h2
      refine ⟨(((s : Int) - i) / ((2 ^ k : Nat) : Int)).toNat, ?_⟩
      have : ((i + (((s : Int) - i) / ((2 ^ k : Nat) : Int)).toNat * 2 ^ k : Nat) : Int) = (s : Int) := by
        rw [Int.natCast_add, Int.natCast_mul, Int.toNat_of_nonneg hc0, Int.mul_comm _ ((2 ^ k : Nat) : Int), hdv]; omega
      omega
    have e : sm (fun _ => (1 : Int)) (2 ^ k) = ((2 ^ k : Nat) : Int) := by
      generalize 2 ^ k = n
      induction n with
      | zero => rfl
      | succ n ih => show sm (fun _ => (1 : Int)) n + 1 = _; rw [ih]; omega
    rw [← e]
    refine Cg.sm fun j _ => ?_
    have e2 : w ^ (s * j) * v ^ (j * i) = (w ^ (j * i) * v ^ (j * i)) * (w ^ 2 ^ k) ^ (c * j) := by
      have e3 : w ^ (s * j) = w ^ (j * i) * (w ^ 2 ^ k) ^ (c * j) := by
        rw [← Int.pow_mul, ← Int.pow_add]; congr 1; rw [hc]; grind
      rw [e3]; grind
    rw [e2]
    have h5 := hwn.pow (c * j)
    rw [Int.one_pow] at h5
    have := (hwv (j * i)).mul h5
    rwa [Int.mul_one] at this
  · rw [if_neg hd]
    obtain ⟨e, he, o, ho⟩ := odd_split k _ hd
    have hn : 2 ^ k = 2 ^ e * (2 * 2 ^ (k - 1 - e)) := by
      rw [← Nat.mul_assoc, Nat.mul_comm (2 ^ e) 2, Nat.mul_assoc, ← Nat.pow_add, show e + (k - 1 - e) = k - 1 by omega]
      conv => lhs; rw [show k = (k - 1) + 1 by omega, Nat.pow_succ, Nat.mul_comm]
    have hp : 2 ^ (k - 1) = 2 ^ e * 2 ^ (k - 1 - e) := by rw [← Nat.pow_add]; congr 1; omega
    rw [hn]
    obtain ⟨H, hH⟩ : ∃ H, H = 2 ^ (k - 1 - e) := ⟨_, rfl⟩
    rw [← hH] at hp ⊢
    have key : Cg (w ^ (s * H) * v ^ (H * i)) (-1) := by
      have hDH : ((s * H : Nat) : Int) - ((H * i : Nat) : Int) = ((2 ^ (k - 1) : Nat) : Int) * (2 * o + 1) := by
        rw [hp, Int.natCast_mul, Int.natCast_mul, Int.natCast_mul]
        have : ((s : Int) - i) * H = ((2 ^ e : Nat) : Int) * (2 * o + 1) * H := by rw [ho]
        grind
      rcases Int.lt_or_le o 0 with h0 | h0
      · obtain ⟨o', ho'⟩ : ∃ o' : Nat, o = -(o' : Int) - 1 := ⟨(-o - 1).toNat, by omega⟩
        have e1 : H * i = s * H + 2 ^ (k - 1) * (2 * o' + 1) := by
          have : ((H * i : Nat) : Int) = ((s * H + 2 ^ (k - 1) * (2 * o' + 1) : Nat) : Int) := by
            rw [Int.natCast_add, Int.natCast_mul (2 ^ (k - 1))]
            rw [ho'] at hDH
            have e4 : ((2 * o' + 1 : Nat) : Int) = 2 * (o' : Int) + 1 := by omega
            rw [e4]
            have e5 : ((2 ^ (k - 1) : Nat) : Int) * (2 * (-(o' : Int) - 1) + 1) = -(((2 ^ (k - 1) : Nat) : Int) * (2 * (o' : Int) + 1)) := by grind
            rw [e5] at hDH
            omega
          omega
        have e2 : v ^ (2 ^ (k - 1) * (2 * o' + 1)) = (v ^ 2 ^ (k - 1)) ^ (2 * o' + 1) := Int.pow_mul
        rw [e1, Int.pow_add, e2, ← Int.mul_assoc]
        have h6 := h.hv.pow (2 * o' + 1)
        rw [odd_pow] at h6
        have := (hwv (s * H)).mul h6
        rwa [Int.one_mul] at this
      · obtain ⟨o', ho'⟩ : ∃ o' : Nat, o = (o' : Int) := ⟨o.toNat, by omega⟩
        have e1 : s * H = H * i + 2 ^ (k - 1) * (2 * o' + 1) := by
          have : ((s * H : Nat) : Int) = ((H * i + 2 ^ (k - 1) * (2 * o' + 1) : Nat) : Int) := by
            rw [Int.natCast_add, Int.natCast_mul (2 ^ (k - 1))]
            rw [ho'] at hDH
            have e4 : ((2 * o' + 1 : Nat) : Int) = 2 * (o' : Int) + 1 := by omega
            rw [e4]
            omega
          omega
        have e2 : w ^ (2 ^ (k - 1) * (2 * o' + 1)) = (w ^ 2 ^ (k - 1)) ^ (2 * o' + 1) := Int.pow_mul
        rw [e1, Int.pow_add, e2]
        have h6 := h.hw.pow (2 * o' + 1)
        rw [odd_pow] at h6
        have := (hwv (H * i)).mul h6
        rw [Int.one_mul] at this
        refine Cg.trans (Cg.of ?_) this
        grind
    refine sm_pair0 (fun m => ?_) (2 ^ e)
    have e1 : w ^ (s * (m + H)) * v ^ ((m + H) * i) = (w ^ (s * m) * v ^ (m * i)) * (w ^ (s * H) * v ^ (H * i)) := by
      rw [Nat.mul_add, Nat.add_mul, Int.pow_add, Int.pow_add]; grind
    rw [e1]
    have := (Cg.refl (w ^ (s * m) * v ^ (m * i))).mul key
    rwa [Int.mul_neg, Int.mul_one] at this

theorem pad_get (ds : List Int) (n i : Nat) : (pad ds n).getD i 0 = dg ds i := by
  unfold dg
  simp only [Ntt.pad, Ntt.padTo, List.take_length]
  rcases Nat.lt_or_ge i ds.length with hl | hl
  · rw [List.getD_eq_getElem?_getD, List.getElem?_append_left hl, List.getD_eq_getElem?_getD]
  · rw [List.getD_eq_getElem?_getD, List.getElem?_append_right hl, List.getElem?_replicate, List.getD_eq_getElem?_getD, List.getElem?_eq_none hl]
    split <;> rfl
theorem zip_get (xs ys : List Int) (i : Nat) (h1 : i < xs.length) (h2 : i < ys.length) : (List.zipWith mulm xs ys).getD i 0 = mulm (xs.getD i 0) (ys.getD i 0) := by
  rw [List.getD_eq_getElem?_getD, List.getElem?_eq_getElem (by rw [List.length_zipWith]; omega), List.getElem_zipWith]
  simp [h1, h2]

theorem fwd_get {k : Nat} (h1 : 1 ≤ k) (h2 : k ≤ 10) (ds : List Int) (hb : Byte ds) (hl : ds.length ≤ 2 ^ k) (j : Nat) (hj : j < 2 ^ k) :
    Cg ((fwd (pad ds (2 ^ k)) k).getD j 0) (sm (fun m => dg ds m * root k ^ (m * j)) (2 ^ k)) := by
  have hr := rts k h1 h2
  have hlt := Ntt.pad_lt ds (2 ^ k) hb
  have hpl := Ntt.pad_length ds (2 ^ k) hl
  have := (trans_get (root k) k h1 (by omega) hr.w0 hr.w1 hr.hw (pad ds (2 ^ k)) hpl (fun i hi => by have := hlt i (by rw [hpl]; exact hi); omega) j hj).2.2
  unfold Ntt.fwd
  refine this.trans (Cg.of (sm_congr fun m _ => ?_))
  rw [pad_get]

theorem conv_get {k : Nat} (h1 : 1 ≤ k) (h2 : k ≤ 10) (xa xb : List Int) (ba : Byte xa) (bb : Byte xb) (la : xa.length ≤ 2 ^ k) (lb : xb.length ≤ 2 ^ k) (i : Nat) (hi : i < 2 ^ k) :
    0 ≤ (convFull xa xb k).getD i 0 ∧ (convFull xa xb k).getD i 0 < 998244353 ∧ Cg ((convFull xa xb k).getD i 0) (cv xa xb k i) := by
  have hr := rts k h1 h2
  have l1 := (Ntt.trans_keep (pad xa (2 ^ k)) k (root k) (Ntt.pad_length _ _ la) (Ntt.lt_word (Ntt.pad_lt _ _ ba))).1
  have l2 := (Ntt.trans_keep (pad xb (2 ^ k)) k (root k) (Ntt.pad_length _ _ lb) (Ntt.lt_word (Ntt.pad_lt _ _ bb))).1
  obtain ⟨Z, hZ⟩ : ∃ Z, Z = List.zipWith mulm (fwd (pad xa (2 ^ k)) k) (fwd (pad xb (2 ^ k)) k) := ⟨_, rfl⟩
  have lf1 : (fwd (pad xa (2 ^ k)) k).length = 2 ^ k := l1
  have lf2 : (fwd (pad xb (2 ^ k)) k).length = 2 ^ k := l2
  have lZ : Z.length = 2 ^ k := by rw [hZ, List.length_zipWith, lf1, lf2, Nat.min_self]
  have gZ : ∀ j, j < 2 ^ k → Z.getD j 0 = mulm ((fwd (pad xa (2 ^ k)) k).getD j 0) ((fwd (pad xb (2 ^ k)) k).getD j 0) := fun j hj => by
    rw [hZ, zip_get _ _ _ (by omega) (by omega)]
  have bZ : ∀ j, j < 2 ^ k → 0 ≤ Z.getD j 0 ∧ Z.getD j 0 < 998244353 := fun j hj => by
    rw [gZ j hj]
    have := Ntt.mulm_bd ((fwd (pad xa (2 ^ k)) k).getD j 0) ((fwd (pad xb (2 ^ k)) k).getD j 0)
    omega
  obtain ⟨t0, t1, t2⟩ := trans_get (inv (root k)) k h1 (by omega) hr.v0 hr.v1 hr.hv Z lZ bZ i hi
  have lT := (Ntt.trans_keep Z k (inv (root k)) lZ (fun j hj => by have := bZ j (by omega); omega)).1
  have e0 : (convFull xa xb k).getD i 0 = fold (times (inv ((2 ^ k : Nat) : Int)) (rat (inv ((2 ^ k : Nat) : Int))) ((Ntt.trans Z k (inv (root k))).getD i 0)) := by
    unfold Ntt.convFull Ntt.bwd
    rw [← hZ, lZ, List.getD_eq_getElem?_getD, List.getElem?_map, List.getElem?_eq_getElem (by omega), List.getD_eq_getElem?_getD, List.getElem?_eq_getElem (by omega)]
    rfl
  rw [e0]
  obtain ⟨a1, a2, a3⟩ := times_spec hr.u0 hr.u1 t0 (by omega)
  obtain ⟨b1, b2, b3⟩ := fold_spec a2 a3
  refine ⟨b2, b3, b1.trans (a1.trans ?_)⟩
  have hsum : Cg ((Ntt.trans Z k (inv (root k))).getD i 0) (((2 ^ k : Nat) : Int) * cv xa xb k i) := by
    refine t2.trans ?_
    have s1 : Cg (sm (fun m => Z.getD m 0 * inv (root k) ^ (m * i)) (2 ^ k)) (sm (fun j => sm (fun p => sm (fun q => (dg xa p * dg xb q) * (root k ^ ((p + q) * j) * inv (root k) ^ (j * i))) (2 ^ k)) (2 ^ k)) (2 ^ k)) := Cg.sm fun j hj => by
      rw [gZ j hj]
      have hx := (mulm_spec _ _).trans ((fwd_get h1 h2 xa ba la j hj).mul (fwd_get h1 h2 xb bb lb j hj))
      refine (hx.mul (Cg.refl (inv (root k) ^ (j * i)))).trans (Cg.of ?_)
      rw [Int.mul_assoc, Int.mul_comm, ← sm_mul]
      refine sm_congr fun p _ => ?_
      rw [Int.mul_comm _ (dg xa p * root k ^ (p * j)), ← Int.mul_assoc, Int.mul_comm _ (inv (root k) ^ (j * i)), ← Int.mul_assoc, ← sm_mul]
      refine sm_congr fun q _ => ?_
      rw [Nat.add_mul, Int.pow_add]
      grind
    refine s1.trans ?_
    rw [sm_swap]
    unfold Ft.cv Ft.s2
    rw [← sm_mul]
    refine Cg.sm fun p _ => ?_
    rw [sm_swap, ← sm_mul]
    refine Cg.sm fun q _ => ?_
    rw [sm_mul]
    have hs := roots_sum hr h1 (p + q) i hi
    refine ((Cg.refl (dg xa p * dg xb q)).mul hs).trans (Cg.of ?_)
    dsimp only
    by_cases hd : (((p + q : Nat) : Int) - i) % ((2 ^ k : Nat) : Int) = 0
    · rw [if_pos hd, if_pos hd]; grind
    · rw [if_neg hd, if_neg hd]; grind
  refine ((Cg.refl _).mul hsum).trans ?_
  rw [← Int.mul_assoc]
  have := hr.un.mul (Cg.refl (cv xa xb k i))
  rwa [Int.one_mul] at this
end Go.Proofs.Ygctak.Nc
