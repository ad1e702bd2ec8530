import Derived.Test.YgcsaaBits
import Derived.Test.YgcsaaSgnMath
namespace Go.Proofs.Ygcsaa
open Go.RowKit
set_option linter.unusedSimpArgs false
set_option linter.unusedVariables false

theorem small_cnt (A : Nat) : small A = cnt A := by
  unfold small cnt
  split <;> split <;> omega
theorem small_le (A : Nat) : small A ≤ 256 := by
  unfold small
  split <;> omega

theorem bit_high {B : Nat} (h : B < M.W) {i : Nat} (hi : 256 ≤ i) : B.testBit i = false := by
  apply Nat.testBit_lt_two_pow
  have h3 : 2 ^ 256 ≤ 2 ^ i := Nat.pow_le_pow_right (by omega) hi
  rw [M.W_eq] at h3
  omega

theorem bit_not {A : Nat} (h : A < M.W) (i : Nat) : (M.W - 1 - A).testBit i = (decide (i < 256) && !A.testBit i) := by
  have := Nat.testBit_two_pow_sub_succ (n := 256) (x := A) h i
  have e : M.W - 1 - A = 2 ^ 256 - (A + 1) := by
    rw [M.W_eq, Nat.sub_sub, Nat.add_comm]
  rw [e]
  exact this

theorem bit_tv (t : Bool) (i : Nat) : (tv t).testBit i = (decide (i = 0) && t) := by
  cases t
  · simp [tv]
  · have := Nat.testBit_two_pow_sub_one 1 i
    simp only [tv, if_true, Bool.and_true]
    have e : (2 ^ 1 - 1 : Nat) = 1 := rfl
    rw [e] at this
    rw [this, decide_eq_decide]
    omega

theorem one_lt_W : 1 < M.W := by
  have h1 := W_Hf
  have h2 := Hf_big
  omega

theorem tv_lt (t : Bool) : tv t < M.W := by
  have := one_lt_W
  unfold tv
  split <;> omega

theorem small_lt {A k : Nat} (hk : k ≤ 256) : (small A < k) ↔ (A < k) := by
  unfold small
  split <;> omega

theorem small_eq {A : Nat} (h : small A < 256) : small A = A := by
  unfold small at h ⊢
  split <;> simp_all

/-- SHL, bit by bit. -/
theorem bit_shl {A B : Nat} (i : Nat) (hi : i ≤ 255) : (B * 2 ^ cnt A % M.W).testBit i = bitZ B ((i : Int) - (small A : Nat)) := by
  rw [small_cnt]
  generalize cnt A = n
  rw [← M.W_eq, Nat.testBit_mod_two_pow, Nat.testBit_mul_two_pow, decide_eq_true (by omega : i < 256), Bool.true_and]
  unfold bitZ
  by_cases h : n ≤ i
  · rw [if_pos (by omega), decide_eq_true h, Bool.true_and]
    congr 1
    omega
  · rw [if_neg (by omega), decide_eq_false h, Bool.false_and]

theorem bit_shr {A B : Nat} (i : Nat) : (B / 2 ^ cnt A).testBit i = bitZ B ((i : Int) + (small A : Nat)) := by
  rw [small_cnt, Nat.testBit_div_two_pow]
  unfold bitZ
  rw [if_pos (by omega)]
  congr 1

/-- SAR, bit by bit. -/
theorem bit_sar {A B : Nat} (hB : B < M.W) (i : Nat) (hi : i ≤ 255) : (sarN A B).testBit i = if i + small A ≤ 255 then bitZ B ((i : Int) + (small A : Nat)) else bitZ B 255 := by
  rw [small_cnt]
  unfold sarN
  have hc : cnt A ≤ 256 := by unfold cnt; split <;> omega
  generalize cnt A = n at *
  have e255 : bitZ B 255 = B.testBit 255 := rfl
  have ein : bitZ B ((i : Int) + (n : Nat)) = B.testBit (i + n) := by
    unfold bitZ
    rw [if_pos (by omega)]
    congr 1
  rw [e255, ein]
  by_cases hs : B.testBit 255 = true
  · rw [if_pos hs, bit_not (div_le_W (not_lt_W B)), Nat.testBit_div_two_pow, bit_not hB, decide_eq_true (by omega : i < 256)]
    by_cases hl : i + n ≤ 255
    · rw [if_pos hl, decide_eq_true (by omega : i + n < 256)]
      simp
    · rw [if_neg hl, decide_eq_false (by omega : ¬ i + n < 256), hs]
      rfl
  · rw [if_neg hs, Nat.testBit_div_two_pow]
    by_cases hl : i + n ≤ 255
    · rw [if_pos hl]
    · rw [if_neg hl, bit_high hB (by omega)]
      simpa using hs

theorem sar_lt {A B : Nat} (hB : B < M.W) : sarN A B < M.W := by
  unfold sarN
  split
  · exact not_lt_W _
  · exact div_le_W hB

/-- SIGNEXTEND, bit by bit. -/
theorem bit_sext {A B : Nat} (hA : A < 31) (i : Nat) (hi : i ≤ 255) : (sextN A B).testBit i = if i ≤ 8 * A + 7 then B.testBit i else B.testBit (8 * A + 7) := by
  unfold sextN
  rw [if_pos hA]
  have hlow : B % 2 ^ (8 * A + 8) < 2 ^ (8 * A + 8) := Nat.mod_lt _ (Nat.pow_pos (by omega))
  by_cases hs : B.testBit (8 * A + 7) = true
  · rw [if_pos hs]
    have e : M.W - 2 ^ (8 * A + 8) = 2 ^ (8 * A + 8) * (2 ^ (256 - (8 * A + 8)) - 1) := by
      rw [Nat.mul_sub, Nat.mul_one, ← Nat.pow_add, ← M.W_eq]
      congr 2
      omega
    rw [e, Nat.add_comm, Nat.testBit_two_pow_mul_add _ hlow, Nat.testBit_two_pow_sub_one, Nat.testBit_mod_two_pow]
    by_cases hl : i ≤ 8 * A + 7
    · rw [if_pos (by omega), if_pos hl, decide_eq_true (by omega : i < 8 * A + 8), Bool.true_and]
    · rw [if_neg (by omega), if_neg hl, hs, decide_eq_true (by omega)]
  · rw [if_neg hs, Nat.testBit_mod_two_pow]
    by_cases hl : i ≤ 8 * A + 7
    · rw [if_pos hl, decide_eq_true (by omega : i < 8 * A + 8), Bool.true_and]
    · rw [if_neg hl, decide_eq_false (by omega : ¬ i < 8 * A + 8), Bool.false_and]
      have : B.testBit (8 * A + 7) = false := by simpa using hs
      exact this.symm

theorem sext_lt {A B : Nat} (hB : B < M.W) : sextN A B < M.W := by
  unfold sextN
  split
  · next hA =>
    have hlow : B % 2 ^ (8 * A + 8) < 2 ^ (8 * A + 8) := Nat.mod_lt _ (Nat.pow_pos (by omega))
    have hP : 2 ^ (8 * A + 8) ≤ M.W := by rw [← M.W_eq]; exact Nat.pow_le_pow_right (by omega) (by omega)
    split <;> omega
  · exact hB

/-- BYTE, bit by bit. -/
theorem bit_byte {A B : Nat} (hA : A < 32) (i : Nat) : (byteN A B).testBit i = (decide (i < 8) && B.testBit (8 * (31 - A) + i)) := by
  unfold byteN
  rw [if_pos hA]
  have e : (256 : Nat) = 2 ^ 8 := rfl
  conv => lhs; arg 1; arg 2; rw [e]
  rw [Nat.testBit_mod_two_pow, M.pow_256, Nat.testBit_div_two_pow, Nat.add_comm i]

theorem byte_lt {A B : Nat} : byteN A B < M.W := by
  have h1 : 256 < M.W := by
    rw [← M.W_eq]
    calc 256 = 2 ^ 8 := rfl
      _ < 2 ^ 256 := Nat.pow_lt_pow_right (by omega) (by omega)
  unfold byteN
  split
  · have := Nat.mod_lt (B / 256 ^ (31 - A)) (by omega : 256 > 0)
    omega
  · omega

theorem bitZ_nat (B i : Nat) : bitZ B (i : Int) = B.testBit i := by simp [bitZ]

end Go.Proofs.Ygcsaa
