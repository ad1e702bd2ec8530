import Derived.Test.YgcsaaMath
namespace Go.Proofs.Ygcsaa.M
set_option linter.unusedSimpArgs false
set_option linter.unusedVariables false

theorem val_set_add (l : List Nat) (at1 e : Nat) (h : at1 < l.length) : val (l.set at1 (l.getD at1 0 + e)) = val l + 256 ^ at1 * e := by
  induction l generalizing at1 with
  | nil => simp at h
  | cons d r ih =>
    cases at1 with
    | zero => simp [val]; omega
    | succ k =>
      have := ih k (by simpa using h)
      simp only [List.set_cons_succ, List.getD_cons_succ, val, this, Nat.pow_succ]
      rw [Nat.mul_add, Nat.mul_comm (256 ^ k) 256, Nat.mul_assoc]
      omega

theorem dig_set {l : List Nat} (h : Dig l) (i d : Nat) (hd : d < 256) : Dig (l.set i d) := by
  intro x hx
  rcases List.mem_or_eq_of_mem_set hx with h1 | h1
  · exact h x h1
  · omega

/-- The digit that holds bit i, where all bits below i + 1 are clear. -/
theorem digit_clear {l : List Nat} (hd : Dig l) (q i : Nat) (h : val l = q * 2 ^ (i + 1)) : l.getD (i / 8) 0 % 2 ^ (i % 8 + 1) = 0 := by
  rw [← val_digit hd, h, pow_256]
  have e : 2 ^ (i + 1) = 2 ^ (i % 8 + 1) * 2 ^ (8 * (i / 8)) := by rw [← Nat.pow_add]; congr 1; omega
  rw [e, ← Nat.mul_assoc, Nat.mul_div_cancel _ (Nat.pow_pos (by omega))]
  have hdv : 2 ^ (i % 8 + 1) ∣ 256 := by
    have : (256 : Nat) = 2 ^ 8 := by decide
    rw [this]
    exact Nat.pow_dvd_pow 2 (by omega)
  rw [Nat.mod_mod_of_dvd _ hdv, Nat.mul_mod_left]

theorem clear_room (d r : Nat) (hr : r < 8) (hd : d < 256) (h : d % 2 ^ (r + 1) = 0) : d + 2 ^ r < 256 := by
  have : r = 0 ∨ r = 1 ∨ r = 2 ∨ r = 3 ∨ r = 4 ∨ r = 5 ∨ r = 6 ∨ r = 7 := by omega
  rcases this with rfl | rfl | rfl | rfl | rfl | rfl | rfl | rfl <;> simp only [Nat.reduceAdd, Nat.reducePow] at h ⊢ <;> omega

theorem div_bit (A i : Nat) : A / 2 ^ i = 2 * (A / 2 ^ (i + 1)) + A / 2 ^ i % 2 := by
  have e : A / 2 ^ (i + 1) = A / 2 ^ i / 2 := by rw [Nat.pow_succ, Nat.div_div_eq_div_mul]
  rw [e]
  omega

/-- What holds of the quotient so far and the remainder so far. -/
def DivInv (A B i Q R : Nat) : Prop := ∃ q, Q = q * 2 ^ i ∧ R < B ∧ A / 2 ^ i = q * B + R

theorem divInv_start (A B i : Nat) (hB : 0 < B) (hA : A < 2 ^ i) : DivInv A B i 0 0 := ⟨0, by simp, hB, by rw [Nat.div_eq_of_lt hA]; simp⟩

theorem divInv_less (A B i Q R : Nat) (h : DivInv A B (i + 1) Q R) (hlt : 2 * R + A / 2 ^ i % 2 < B) : DivInv A B i Q (2 * R + A / 2 ^ i % 2) := by
  obtain ⟨q, h1, h2, h3⟩ := h
  refine ⟨2 * q, by rw [h1, Nat.pow_succ]; rw [Nat.mul_comm 2 q, Nat.mul_assoc, Nat.mul_comm 2 (2 ^ i)], hlt, ?_⟩
  have := div_bit A i
  rw [h3] at this
  rw [Nat.mul_add, ← Nat.mul_assoc] at this
  omega

theorem divInv_more (A B i Q R : Nat) (h : DivInv A B (i + 1) Q R) (hge : B ≤ 2 * R + A / 2 ^ i % 2) : DivInv A B i (Q + 2 ^ i) (2 * R + A / 2 ^ i % 2 - B) := by
  obtain ⟨q, h1, h2, h3⟩ := h
  refine ⟨2 * q + 1, ?_, by omega, ?_⟩
  · rw [h1, Nat.pow_succ, Nat.add_mul, Nat.one_mul, Nat.mul_comm 2 q, Nat.mul_assoc, Nat.mul_comm 2 (2 ^ i)]
  · have := div_bit A i
    rw [h3] at this
    rw [Nat.mul_add, ← Nat.mul_assoc] at this
    rw [Nat.add_mul, Nat.one_mul]
    omega

theorem divInv_end (A B Q R : Nat) (h : DivInv A B 0 Q R) : Q = A / B ∧ R = A % B := by
  obtain ⟨q, h1, h2, h3⟩ := h
  simp at h1 h3
  subst h1
  have e : A = R + B * Q := by rw [Nat.mul_comm B Q]; omega
  constructor
  · rw [e, Nat.add_mul_div_left _ _ (by omega), Nat.div_eq_of_lt h2]; simp
  · rw [e, Nat.add_mul_mod_self_left, Nat.mod_eq_of_lt h2]

/-- One round of doubling. -/
theorem dbl_step (xs zs : List Nat) (j c c0 : Nat) (h1 : zs.length = j) (h2 : Dig zs) (h3 : val zs + 256 ^ j * c = 2 * val (xs.take j) + c0) (hc : c ≤ 1) (hd : xs.getD j 0 < 256) :
    Dig (zs ++ [2 * xs.getD j 0 % 256 + c]) ∧ val (zs ++ [2 * xs.getD j 0 % 256 + c]) + 256 ^ (j + 1) * (xs.getD j 0 / 128) = 2 * val (xs.take (j + 1)) + c0 := by
  rw [val_take_succ]
  generalize xs.getD j 0 = d at *
  refine ⟨dig_append h2 (dig_one (by omega)), ?_⟩
  rw [val_append, h1]
  have e0 : 2 * d % 256 + c + 256 * (d / 128) = 2 * d + c := by omega
  have e : 256 ^ j * (2 * d % 256 + c + 256 * (d / 128)) = 256 ^ j * (2 * d + c) := by rw [e0]
  have e2 : 2 * (256 ^ j * d) = 256 ^ j * (2 * d) := by rw [Nat.mul_left_comm]
  simp only [val, Nat.mul_zero, Nat.add_zero, Nat.pow_succ, Nat.mul_assoc]
  simp only [Nat.mul_add] at e ⊢
  omega

end Go.Proofs.Ygcsaa.M
