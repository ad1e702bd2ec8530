import Derived.Test.YgcsaaAlu
namespace Go.Proofs.Ygcsaa
set_option linter.unusedSimpArgs false
set_option linter.unusedVariables false

/-- 2^255. -/
def Hf : Nat := 2 ^ 255
theorem Hf_eq : 2 ^ 255 = Hf := rfl
theorem W_Hf : M.W = 2 * Hf := M.W_half
theorem Hf_big : 2 ≤ Hf := by
  unfold Hf
  calc 2 = 2 ^ 1 := rfl
    _ ≤ 2 ^ 255 := Nat.pow_le_pow_right (by omega) (by omega)

theorem bit255 {X : Nat} (h : X < M.W) : X.testBit 255 = decide (Hf ≤ X) := by
  rw [Nat.testBit_eq_decide_div_mod_eq, Hf_eq]
  have hb := Hf_big
  have hW := W_Hf
  generalize Hf = H at *
  rw [decide_eq_decide]
  have h2 : X / H < 2 := by
    rw [Nat.div_lt_iff_lt_mul (by omega)]
    omega
  rw [Nat.mod_eq_of_lt h2]
  constructor
  · intro he
    have := Nat.div_mul_le_self X H
    rw [he] at this
    omega
  · intro he
    have : 1 ≤ X / H := by
      rw [Nat.le_div_iff_mul_le (by omega)]
      omega
    omega

/-- The magnitude as the law's signOf has it. -/
def mgL (N : Nat) : Nat := if N < Hf then N else M.W - N
/-- The sign as the law's signOf has it. -/
def sgL (N : Nat) : Bool := decide (Hf ≤ N)

theorem mag_mgL {X : Nat} (h : X < M.W) : mag X = mgL X := by
  unfold mag
  rw [bit255 h]
  have hW := W_Hf
  by_cases hx : Hf ≤ X
  · have hn : ¬ X < Hf := by omega
    simp only [sgn, mgL, decide_eq_true hx, if_true, hn, if_false]
    have hb := Hf_big
    rw [Nat.mod_eq_of_lt (by omega)]
  · have hn : X < Hf := by omega
    simp [sgn, mgL, hx, hn]

theorem mgL_le {X : Nat} (h : X < M.W) : mgL X ≤ Hf := by
  have hW := W_Hf
  unfold mgL
  split <;> omega

theorem sgn_false (A : Nat) : sgn A false = A := rfl
theorem sgn_true_zero : sgn 0 true = 0 := by
  simp [sgn]
theorem sgn_true {A : Nat} (h0 : A ≠ 0) (h : A ≤ Hf) : sgn A true = M.W - A := by
  have hW := W_Hf
  simp only [sgn, if_true]
  rw [Nat.mod_eq_of_lt (by omega)]

/-- The quotient's and the remainder's facts, a and b the magnitudes. -/
theorem mg_sgn {q : Nat} (b : Bool) (h : q ≤ Hf) : mgL (sgn q b) = q := by
  have hW := W_Hf
  have hb := Hf_big
  cases b
  · rw [sgn_false]
    unfold mgL
    split <;> omega
  · by_cases h0 : q = 0
    · subst h0
      rw [sgn_true_zero]
      unfold mgL
      split <;> omega
    · rw [sgn_true h0 h]
      unfold mgL
      split <;> omega

theorem sg_sgn {q : Nat} (b : Bool) (h0 : q ≠ 0) (h : q < Hf) : sgL (sgn q b) = b := by
  have hW := W_Hf
  cases b
  · rw [sgn_false]
    unfold sgL
    rw [decide_eq_false]
    omega
  · rw [sgn_true h0 (by omega)]
    unfold sgL
    rw [decide_eq_true]
    omega

theorem sg_sgn_true {q : Nat} (h0 : q ≠ 0) (h : q ≤ Hf) : sgL (sgn q true) = true := by
  have hW := W_Hf
  rw [sgn_true h0 h]
  unfold sgL
  rw [decide_eq_true]
  omega

theorem sgn_zero {q : Nat} (b : Bool) (h : q ≤ Hf) (hz : sgn q b = 0) : q = 0 := by
  have hW := W_Hf
  have hb := Hf_big
  cases b
  · exact hz
  · by_cases h0 : q = 0
    · exact h0
    · rw [sgn_true h0 h] at hz
      omega

/-- X out of its sign and magnitude. -/
theorem of_sign {X : Nat} (h : X < M.W) : X = if sgL X then M.W - mgL X else mgL X := by
  have hW := W_Hf
  unfold sgL mgL
  by_cases hx : Hf ≤ X
  · have hn : ¬ X < Hf := by omega
    simp only [hx, decide_true, if_true, hn, if_false]
    omega
  · have hn : X < Hf := by omega
    simp [hx, hn]

theorem mod_of_add {N X k : Nat} (hX : X < M.W) (h : N = X + M.W * k) : N % M.W = X := by
  rw [h, Nat.add_mul_mod_self_left, Nat.mod_eq_of_lt hX]

/-- The law of division, in two's complement. -/
theorem div_back (X Y q r : Nat) (hX : X < M.W) (hY : Y < M.W) (hq : q ≤ Hf) (hr : r ≤ Hf) (he : mgL X = q * mgL Y + r) :
    (sgn q (sgL X != sgL Y) * Y + sgn r (sgL X)) % M.W = X := by
  have hW := W_Hf
  have hb := Hf_big
  have ha := mgL_le hX
  have hbb := mgL_le hY
  have eX := of_sign hX
  have eY := of_sign hY
  generalize mgL X = a at *
  generalize mgL Y = b at *
  have hqb : q * b ≤ Hf := by omega
  cases hsx : sgL X <;> cases hsy : sgL Y
  · -- both at or above zero
    simp only [hsx, hsy, Bool.false_eq_true, if_false] at eX eY
    simp only [bne_self_eq_false, sgn_false]
    exact mod_of_add (k := 0) hX (by rw [eX, eY, he]; omega)
  · simp only [hsx, hsy, Bool.false_eq_true, if_false, if_true] at eX eY
    have e1 : (false != true) = true := rfl
    rw [e1, sgn_false]
    by_cases h0 : q = 0
    · subst h0
      rw [sgn_true_zero]
      exact mod_of_add (k := 0) hX (by rw [eX, he]; simp)
    · rw [sgn_true h0 hq, eY]
      refine mod_of_add (k := M.W - b - q) hX ?_
      rw [eX, he]
      obtain ⟨u, hu⟩ : ∃ u, M.W = u + q := ⟨M.W - q, by omega⟩
      have e2 : M.W - q = u := by omega
      obtain ⟨v, hv⟩ : ∃ v, M.W - b = v + q := ⟨M.W - b - q, by omega⟩
      have e3 : M.W - b - q = v := by omega
      rw [e3, e2, hv, Nat.mul_add]
      have e4 : M.W * v = u * v + q * v := by rw [hu, Nat.add_mul]
      have e5 : q * b + q * v + q * q = q * M.W := by rw [← Nat.mul_add, ← Nat.mul_add]; congr 1; omega
      have e6 : q * M.W = u * q + q * q := by rw [hu, Nat.mul_add, Nat.mul_comm q u]
      omega
  · simp only [hsx, hsy, Bool.false_eq_true, if_false, if_true] at eX eY
    have e1 : (true != false) = true := rfl
    rw [e1, eY]
    by_cases h0 : q = 0
    · subst h0
      rw [sgn_true_zero]
      by_cases hr0 : r = 0
      · subst hr0
        rw [sgn_true_zero]
        have : X < M.W := hX
        exfalso
        omega
      · rw [sgn_true hr0 hr]
        exact mod_of_add (k := 0) hX (by omega)
    · rw [sgn_true h0 hq]
      by_cases hr0 : r = 0
      · subst hr0
        rw [sgn_true_zero]
        refine mod_of_add (k := b - 1) hX ?_
        have hb1 : 1 ≤ b := by
          by_cases hbz : b = 0
          · subst hbz; simp at he; omega
          · omega
        obtain ⟨c, rfl⟩ : ∃ c, b = c + 1 := ⟨b - 1, by omega⟩
        have e2 : (M.W - q) * (c + 1) + q * (c + 1) = M.W * (c + 1) := by rw [← Nat.add_mul]; congr 1; omega
        have e3 : M.W * (c + 1) = M.W * c + M.W := by rw [Nat.mul_add, Nat.mul_one]
        rw [Nat.add_sub_cancel]
        omega
      · rw [sgn_true hr0 hr]
        refine mod_of_add (k := b) hX ?_
        have e2 : (M.W - q) * b + q * b = M.W * b := by rw [← Nat.add_mul]; congr 1; omega
        omega
  · simp only [hsx, hsy, if_true] at eX eY
    simp only [bne_self_eq_false, sgn_false]
    rw [eY]
    have e2 : q * (M.W - b) + q * b = M.W * q := by rw [← Nat.mul_add, Nat.mul_comm M.W q]; congr 1; omega
    by_cases hr0 : r = 0
    · subst hr0
      rw [sgn_true_zero]
      have hq1 : 1 ≤ q := by
        by_cases hqz : q = 0
        · subst hqz; simp at he; omega
        · omega
      obtain ⟨c, rfl⟩ : ∃ c, q = c + 1 := ⟨q - 1, by omega⟩
      refine mod_of_add (k := c) hX ?_
      have e3 : M.W * (c + 1) = M.W * c + M.W := by rw [Nat.mul_add, Nat.mul_one]
      omega
    · rw [sgn_true hr0 hr]
      refine mod_of_add (k := q) hX ?_
      omega

/-- All that aluSignedHolds asks of the quotient and the remainder. -/
theorem signed_facts (X Y : Nat) (hX : X < M.W) (hY : Y < M.W) (hY0 : Y ≠ 0) (Q R : Nat) (hQ : Q = sgn (mag X / mag Y) (X.testBit 255 != Y.testBit 255)) (hR : R = sgn (modz (mag X) (mag Y)) (X.testBit 255)) :
    (Q * Y + R) % M.W = X ∧ mgL R < mgL Y ∧ (R = 0 ∨ sgL R = sgL X) ∧ mgL Q * mgL Y ≤ mgL X ∧ (Q = 0 ∨ sgL Q = (sgL X != sgL Y) ∨ (X = Hf ∧ sgL Y = true ∧ mgL Y = 1)) := by
  have hW := W_Hf
  have hb := Hf_big
  rw [mag_mgL hX, mag_mgL hY, bit255 hX, bit255 hY] at hQ
  rw [mag_mgL hX, mag_mgL hY, bit255 hX] at hR
  change Q = sgn (mgL X / mgL Y) (sgL X != sgL Y) at hQ
  change R = sgn (modz (mgL X) (mgL Y)) (sgL X) at hR
  have ha := mgL_le hX
  have hbb := mgL_le hY
  have hb0 : mgL Y ≠ 0 := by
    unfold mgL
    split <;> omega
  have hm : modz (mgL X) (mgL Y) = mgL X % mgL Y := if_neg hb0
  rw [hm] at hR
  have hdm := Nat.div_add_mod (mgL X) (mgL Y)
  have hrl := Nat.mod_lt (mgL X) (Nat.pos_of_ne_zero hb0)
  have hql := Nat.div_le_self (mgL X) (mgL Y)
  generalize hqq : mgL X / mgL Y = q at *
  generalize mgL X % mgL Y = r at *
  rw [Nat.mul_comm] at hdm
  refine ⟨?_, ?_, ?_, ?_, ?_⟩
  · rw [hQ, hR]
    exact div_back X Y q r hX hY (by omega) (by omega) hdm.symm
  · rw [hR, mg_sgn _ (by omega)]
    exact hrl
  · by_cases hr0 : r = 0
    · left
      rw [hR, hr0]
      cases sgL X
      · rfl
      · exact sgn_true_zero
    · right
      rw [hR]
      exact sg_sgn _ hr0 (by omega)
  · rw [hQ, mg_sgn _ (by omega)]
    omega
  · by_cases hq0 : q = 0
    · left
      rw [hQ, hq0]
      cases (sgL X != sgL Y)
      · rfl
      · exact sgn_true_zero
    · right
      by_cases hqh : q < Hf
      · left
        rw [hQ]
        exact sg_sgn _ hq0 hqh
      · have hqe : q = Hf := by omega
        cases hs : (sgL X != sgL Y)
        · right
          have hmx : mgL X = Hf := by omega
          have hmy : mgL Y = 1 := by
            by_cases h2 : mgL Y ≤ 1
            · omega
            · exfalso
              have : Hf * 2 ≤ q * mgL Y := by rw [hqe]; exact Nat.mul_le_mul_left _ (by omega)
              omega
          have hxe : X = Hf := by
            unfold mgL at hmx
            split at hmx <;> omega
          have hsx : sgL X = true := by
            unfold sgL
            rw [decide_eq_true]
            omega
          have hsy : sgL Y = true := by
            cases hy : sgL Y
            · rw [hsx, hy] at hs
              exact absurd hs (by decide)
            · rfl
          exact ⟨hxe, hsy, hmy⟩
        · left
          rw [hQ, hs]
          exact sg_sgn_true hq0 (by omega)

end Go.Proofs.Ygcsaa
