import Derived.Test.YgcsaaPow2
import Derived.Test.YgcsaaFromBE
import Derived.Test.YgcsaaAdd
import Derived.Test.YgcsaaMul
import Derived.Test.YgcsaaDivMod
import Derived.Test.YgcsaaSub
import Derived.Test.YgcsaaU64
namespace Go.Proofs.Ygcsaa
open Go.RowKit
set_option linter.unusedSimpArgs false
set_option linter.unusedVariables false

theorem add_num {va vb : Value} {A B : Nat} {w : World} (ha : Num w va A) (hb : Num w vb B) :
    Calls Saag.prog 23 #[va, vb] w fun e w' => ∃ v, e = .returned v ∧ Nrm w' v (A + B) ∧ Below w.heap.size w w' := by
  obtain ⟨xs, ⟨ao, n, cap, rfl, h1, h2, h3, h4⟩, rfl, h5⟩ := ha
  obtain ⟨ys, ⟨bo, m, cap', rfl, k1, k2, k3, k4⟩, rfl, k5⟩ := hb
  exact add_any ao bo n m cap cap' xs ys w h1 k1 h2 k2 (by omega) (by omega) h3 k3 h4 k4

theorem mul_num {va vb : Value} {A B : Nat} {w : World} (ha : Num w va A) (hb : Num w vb B) :
    Calls Saag.prog 48 #[va, vb] w fun e w' => ∃ v, e = .returned v ∧ Nrm w' v (A * B) ∧ Below w.heap.size w w' := by
  obtain ⟨xs, ⟨ao, n, cap, rfl, h1, h2, h3, h4⟩, rfl, h5⟩ := ha
  obtain ⟨ys, ⟨bo, m, cap', rfl, k1, k2, k3, k4⟩, rfl, k5⟩ := hb
  exact mul_any ao bo n m cap cap' xs ys w h1 k1 h2 k2 (by omega) (by omega) h3 k3 h4 k4

theorem divmod_num {va vb : Value} {A B : Nat} {w : World} (ha : Num w va A) (hb : Num w vb B) :
    Calls Saag.prog 50 #[va, vb] w fun e w' => ∃ q r ok, e = .returned (.tuple #[q, r, .bool ok]) ∧ Nrm w' q (A / B) ∧ Nrm w' r (modz A B) ∧ Below w.heap.size w w' := by
  obtain ⟨xs, ⟨ao, n, cap, rfl, h1, h2, h3, h4⟩, rfl, h5⟩ := ha
  obtain ⟨ys, ⟨bo, m, cap', rfl, k1, k2, k3, k4⟩, rfl, k5⟩ := hb
  exact divmod_any ao bo n m cap cap' xs ys w h1 k1 h2 k2 (by omega) (by omega) h3 k3 h4 k4

theorem sub_num {va vb : Value} {A B : Nat} {w : World} (ha : Num w va A) (hb : Num w vb B) (hle : B ≤ A) :
    Calls Saag.prog 105 #[va, vb] w fun e w' => ∃ v, e = .returned (.tuple #[v, .bool true]) ∧ Nrm w' v (A - B) ∧ Below w.heap.size w w' := by
  obtain ⟨xs, ⟨ao, n, cap, rfl, h1, h2, h3, h4⟩, rfl, h5⟩ := ha
  obtain ⟨ys, ⟨bo, m, cap', rfl, k1, k2, k3, k4⟩, rfl, k5⟩ := hb
  exact sub_any ao bo n m cap cap' xs ys w h1 k1 h2 k2 (by omega) (by omega) h3 k3 h4 k4 hle

theorem below_drewN (w : World) (q : Nat) : Below w.heap.size w (w.drewN q) := (Upd.drewN w q w.heap.size).below (Below.refl _ _) (Nat.le_refl _)

theorem cmp_num {va vb : Value} {A B : Nat} {w : World} (ha : Num w va A) (hb : Num w vb B) :
    Calls Saag.prog 24 #[va, vb] w fun e w' => e = .returned (.int .i8 (cmpI A B)) ∧ Below w.heap.size w w' := by
  obtain ⟨xs, ⟨ao, n, cap, rfl, h1, h2, h3, h4⟩, rfl, h5⟩ := ha
  obtain ⟨ys, ⟨bo, m, cap', rfl, k1, k2, k3, k4⟩, rfl, k5⟩ := hb
  refine (cmp_any ao bo n m cap cap' xs ys w h1 k1 h2 k2 (by omega) (by omega) h3 k3 h4 k4).mono ?_
  rintro e w' ⟨rfl, q, rfl⟩
  exact ⟨rfl, below_drewN w q⟩

theorem bit_num {va : Value} {A : Nat} {w : World} (i : Nat) (ha : Num w va A) (hi : i ≤ 2000) :
    Calls Saag.prog 72 #[va, .int .u16 (i : Int)] w fun e w' => e = .returned (.bool (A.testBit i)) ∧ w = w' := by
  obtain ⟨xs, ⟨ao, n, cap, rfl, h1, h2, h3, h4⟩, rfl, h5⟩ := ha
  exact bit_any ao n cap xs i w h1 h2 (by omega) h3 h4 hi

theorem u64_num {va : Value} {A : Nat} {w : World} (ha : Num w va A) :
    Calls Saag.prog 107 #[va] w fun e w' => e = .returned (.tuple #[.int .u64 (if A < 256 ^ 8 then (A : Int) else 0), .bool (decide (A < 256 ^ 8))]) ∧ w = w' := by
  obtain ⟨xs, ⟨ao, n, cap, rfl, h1, h2, h3, h4⟩, rfl, h5⟩ := ha
  exact u64_any ao n cap xs w h1 h2 (by omega) h3 h4

/-- What Norm hands back, as a number. -/
theorem NormOut.nrm {w w' : World} {v : Value} {xs : List Nat} (hd : M.Dig xs) (h : NormOut w w' v (M.tr xs)) : Nrm w' v (M.val xs) ∧ Below w.heap.size w w' := by
  rcases h with ⟨h1, rfl, rfl⟩ | ⟨h1, rfl, h2, h3⟩
  · have e : M.val xs = 0 := by rw [← M.val_tr, h1]; rfl
    rw [e]
    exact ⟨Nrm.nil _, Below.refl _ _⟩
  · refine ⟨⟨M.tr xs, ⟨_, _, _, rfl, rfl, Nat.le_refl _, M.dig_tr hd, h2.row⟩, M.val_tr xs, M.nrml_tr xs, fun h => absurd h h1⟩, h3⟩

theorem norm_num {va : Value} {A : Nat} {w : World} (ha : Num w va A) :
    Calls Saag.prog 91 #[va] w fun e w' => ∃ v, e = .returned v ∧ Nrm w' v A ∧ Below w.heap.size w w' := by
  obtain ⟨xs, ⟨ao, n, cap, rfl, h1, h2, h3, h4⟩, rfl, h5⟩ := ha
  refine (norm_any ao n cap xs w h1 h2 (by omega) h3 h4).mono ?_
  rintro e w' ⟨v, rfl, hv⟩
  exact ⟨v, rfl, hv.nrm h3⟩

/-- n[:min(len(n), 32)], normed: n modulo 2^256. -/
theorem val_low (xs : List Nat) (hd : M.Dig xs) : M.val (xs.take (min xs.length 32)) = M.val xs % 256 ^ 32 := by
  by_cases h : xs.length ≤ 32
  · rw [Nat.min_eq_left h, List.take_of_length_le (Nat.le_refl _)]
    rw [Nat.mod_eq_of_lt]
    exact Nat.lt_of_lt_of_le (M.val_lt hd) (Nat.pow_le_pow_right (by omega) h)
  · rw [Nat.min_eq_right (by omega), M.val_split xs 32 (by omega), Nat.add_mul_mod_self_left, Nat.mod_eq_of_lt]
    have := M.val_lt (M.dig_take hd 32)
    rw [List.length_take, Nat.min_eq_left (by omega)] at this
    exact this

set_option maxRecDepth 10000 in
set_option maxHeartbeats 400000 in
theorem wrapped_num {va : Value} {A : Nat} {w : World} (ha : Num w va A) :
    Calls Saag.prog 52 #[va] w fun e w' => ∃ v, e = .returned v ∧ Nrm w' v (A % M.W) ∧ Below w.heap.size w w' := by
  obtain ⟨xs, ⟨ao, n, cap, rfl, h1, h2, h3, h4⟩, rfl, h5⟩ := ha
  rw [← M.W_256, ← val_low xs h3]
  have hle : min xs.length 32 ≤ n := by omega
  have T := hide (fun c (hc : min xs.length 32 ≤ c) => norm_any ao (min xs.length 32) c (xs.take (min xs.length 32)) w (by simp) hc (by omega) (M.dig_take h3 _) (h4.take _))
  have D := M.dig_take h3 (min xs.length 32)
  generalize xs.take (min xs.length 32) = ys at *
  rw [h1] at T hle
  by_cases h32 : n ≤ 32
  · rw [Nat.min_eq_left h32] at T
    clear h1
    go_enter Saag.func52, Saag.ntmps52
    go_wp2_with fail
    refine (unhide T cap h2).mono ?_
    rintro e w1 ⟨v, rfl, hv⟩
    go_wp2
    go_ret
    exact ⟨_, rfl, hv.nrm D⟩
  · rw [Nat.min_eq_right (by omega)] at T
    have h32' : 32 ≤ n := by omega
    have hc32 : 32 ≤ cap := by omega
    clear h1
    go_enter Saag.func52, Saag.ntmps52
    go_wp2_with fail
    refine (unhide T cap hc32).mono ?_
    rintro e w1 ⟨v, rfl, hv⟩
    go_wp2
    go_ret
    exact ⟨_, rfl, hv.nrm D⟩

theorem pow256_num (w : World) : Calls Saag.prog 25 #[.int .u16 256] w fun e w' => ∃ v, e = .returned v ∧ Nrm w' v M.W ∧ Below w.heap.size w w' := by
  have := pow2_any 256 w (by omega)
  rw [M.W_eq] at this
  exact this

theorem pow255_num (w : World) : Calls Saag.prog 25 #[.int .u16 255] w fun e w' => ∃ v, e = .returned v ∧ Nrm w' v (2 ^ 255) ∧ Below w.heap.size w w' := pow2_any 255 w (by omega)

set_option maxRecDepth 10000 in
set_option maxHeartbeats 400000 in
theorem lessThanAll_num {va : Value} {A : Nat} {w : World} (ha : Num w va A) (hA : A ≤ M.W) :
    Calls Saag.prog 49 #[va] w fun e w' => ∃ v, e = .returned v ∧ Nrm w' v (M.W - A) ∧ Below w.heap.size w w' := by
  go_enter Saag.func49, Saag.ntmps49
  go_wp2_with fail
  refine (pow256_num w).mono ?_
  rintro e w1 ⟨v1, rfl, hv1, hb1⟩
  go_wp2_with fail
  refine (sub_num (hv1.num (M.lt100_le (Nat.le_refl _))) (ha.later hb1) hA).mono ?_
  rintro e w2 ⟨v2, rfl, hv2, hb2⟩
  go_wp2
  go_ret
  exact ⟨_, rfl, hv2, hb1.trans (hb2.mono hb1.size)⟩

set_option maxRecDepth 10000 in
set_option maxHeartbeats 400000 in
theorem negated_num {va : Value} {A : Nat} {w : World} (ha : Num w va A) (hA : A ≤ M.W) :
    Calls Saag.prog 53 #[va] w fun e w' => ∃ v, e = .returned v ∧ Nrm w' v ((M.W - A) % M.W) ∧ Below w.heap.size w w' := by
  go_enter Saag.func53, Saag.ntmps53
  go_wp2_with fail
  refine (pow256_num w).mono ?_
  rintro e w1 ⟨v1, rfl, hv1, hb1⟩
  go_wp2_with fail
  refine (sub_num (hv1.num (M.lt100_le (Nat.le_refl _))) (ha.later hb1) hA).mono ?_
  rintro e w2 ⟨v2, rfl, hv2, hb2⟩
  go_wp2_with fail
  refine (wrapped_num (hv2.num (M.lt100_le (Nat.sub_le _ _)))).mono ?_
  rintro e w3 ⟨v3, rfl, hv3, hb3⟩
  go_wp2
  go_ret
  exact ⟨_, rfl, hv3, (hb1.trans (hb2.mono hb1.size)).trans (hb3.mono (Nat.le_trans hb1.size hb2.size))⟩

set_option maxRecDepth 10000 in
set_option maxHeartbeats 400000 in
theorem modPow_num {va : Value} {A : Nat} {w : World} (ha : Num w va A) :
    Calls Saag.prog 47 #[va] w fun e w' => ∃ v, e = .returned v ∧ Nrm w' v (A % M.W) ∧ Below w.heap.size w w' := by
  go_enter Saag.func47, Saag.ntmps47
  go_wp2_with fail
  refine (pow256_num w).mono ?_
  rintro e w1 ⟨v1, rfl, hv1, hb1⟩
  go_wp2_with fail
  refine (divmod_num (ha.later hb1) (hv1.num (M.lt100_le (Nat.le_refl _)))).mono ?_
  rintro e w2 ⟨v2, v3, ok, rfl, hv2, hv3, hb2⟩
  go_wp2
  go_ret
  refine ⟨_, rfl, ?_, hb1.trans (hb2.mono hb1.size)⟩
  rw [modz, if_neg (Nat.ne_of_gt M.W_pos)] at hv3
  exact hv3

set_option maxRecDepth 10000 in
set_option maxHeartbeats 400000 in
theorem isNegative_num {va : Value} {A : Nat} {w : World} (ha : Num w va A) :
    Calls Saag.prog 56 #[va] w fun e w' => e = .returned (.bool (A.testBit 255)) ∧ w = w' := by
  go_enter Saag.func56, Saag.ntmps56
  go_wp2_with fail
  refine (bit_num 255 ha (by omega)).mono ?_
  rintro e w' ⟨rfl, rfl⟩
  go_wp2
  go_ret
  exact ⟨rfl, rfl⟩

/-- The two's complement, or the number itself. -/
def sgn (A : Nat) (neg : Bool) : Nat := if neg then (M.W - A) % M.W else A

set_option maxRecDepth 10000 in
set_option maxHeartbeats 400000 in
theorem withSign_num {va : Value} {A : Nat} {w : World} (neg : Bool) (ha : Num w va A) (hA : A ≤ M.W) :
    Calls Saag.prog 55 #[va, .bool neg] w fun e w' => ∃ v, e = .returned v ∧ Nrm w' v (sgn A neg) ∧ Below w.heap.size w w' := by
  cases neg
  · go_enter Saag.func55, Saag.ntmps55
    go_wp2_with fail
    refine (norm_num ha).mono ?_
    rintro e w1 ⟨v1, rfl, hv1, hb1⟩
    go_wp2
    go_ret
    exact ⟨_, rfl, hv1, hb1⟩
  · go_enter Saag.func55, Saag.ntmps55
    go_wp2_with fail
    refine (negated_num ha hA).mono ?_
    rintro e w1 ⟨v1, rfl, hv1, hb1⟩
    go_wp2
    go_ret
    exact ⟨_, rfl, hv1, hb1⟩

/-- The absolute value in two's complement. -/
def mag (A : Nat) : Nat := sgn A (A.testBit 255)

set_option maxRecDepth 10000 in
set_option maxHeartbeats 400000 in
theorem magnitude_num {va : Value} {A : Nat} {w : World} (ha : Num w va A) (hA : A ≤ M.W) :
    Calls Saag.prog 54 #[va] w fun e w' => ∃ v, e = .returned v ∧ Nrm w' v (mag A) ∧ Below w.heap.size w w' := by
  go_enter Saag.func54, Saag.ntmps54
  go_wp2_with fail
  refine (isNegative_num ha).mono ?_
  rintro e w' ⟨rfl, rfl⟩
  go_wp2_with fail
  refine (withSign_num _ ha hA).mono ?_
  rintro e w1 ⟨v1, rfl, hv1, hb1⟩
  go_wp2
  go_ret
  exact ⟨_, rfl, hv1, hb1⟩

end Go.Proofs.Ygcsaa
