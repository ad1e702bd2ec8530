/-
  Plain mathematics of digit lists to the base 256, least digit first. No Go here.
-/
namespace Go.Proofs.Ygcsaa.M

/-- The number that a list of digits makes. -/
def val : List Nat → Nat
  | [] => 0
  | d :: r => d + 256 * val r

/-- Every digit is a byte. -/
def Dig (l : List Nat) : Prop := ∀ x ∈ l, x < 256

/-- The list without the zero digits at its top. -/
def tr : List Nat → List Nat
  | [] => []
  | d :: r => match tr r with
    | [] => if d = 0 then [] else [d]
    | e :: s => d :: e :: s

theorem tr_nil : tr [] = [] := rfl

theorem tr_cons (d : Nat) (r : List Nat) : tr (d :: r) = if tr r = [] ∧ d = 0 then [] else d :: tr r := by
  simp only [tr]
  split
  · next h => by_cases hd : d = 0 <;> simp [h, hd]
  · next e s h => simp [h]

theorem tr_snoc_zero (l : List Nat) : tr (l ++ [0]) = tr l := by
  induction l with
  | nil => simp [tr]
  | cons d r ih => simp only [List.cons_append, tr_cons, ih]

theorem tr_snoc (l : List Nat) (x : Nat) (hx : x ≠ 0) : tr (l ++ [x]) = l ++ [x] := by
  induction l with
  | nil => simp [tr, hx]
  | cons d r ih => simp [tr_cons, ih]

theorem tr_len (l : List Nat) : (tr l).length ≤ l.length := by
  induction l with
  | nil => simp [tr]
  | cons d r ih =>
    rw [tr_cons]
    split
    · simp
    · simp; omega

/-- The trimmed list is a prefix. -/
theorem tr_take (l : List Nat) : tr l = l.take (tr l).length := by
  induction l with
  | nil => simp [tr]
  | cons d r ih =>
    rw [tr_cons]
    split
    · simp
    · simp only [List.length_cons, List.take_succ_cons]
      rw [← ih]

theorem val_tr (l : List Nat) : val (tr l) = val l := by
  induction l with
  | nil => rfl
  | cons d r ih =>
    rw [tr_cons]
    split
    · next h =>
      obtain ⟨h1, h2⟩ := h
      rw [h1] at ih
      simp only [val] at ih ⊢
      omega
    · simp only [val, ih]

theorem dig_take {l : List Nat} (h : Dig l) (k : Nat) : Dig (l.take k) := fun x hx => h x (List.mem_of_mem_take hx)

theorem dig_tr {l : List Nat} (h : Dig l) : Dig (tr l) := by
  rw [tr_take]; exact dig_take h _

theorem val_append (a b : List Nat) : val (a ++ b) = val a + 256 ^ a.length * val b := by
  induction a with
  | nil => simp [val]
  | cons d r ih =>
    simp only [List.cons_append, val, ih, List.length_cons, Nat.pow_succ]
    rw [Nat.mul_add, Nat.add_assoc, ← Nat.mul_assoc, Nat.mul_comm 256 (256 ^ r.length)]

theorem val_lt {l : List Nat} (h : Dig l) : val l < 256 ^ l.length := by
  induction l with
  | nil => simp [val]
  | cons d r ih =>
    have h1 := h d (by simp)
    have h2 := ih (fun x hx => h x (by simp [hx]))
    simp only [val, List.length_cons, Nat.pow_succ]
    omega

/-- A list is normal: no zero digit at its top. -/
def Nrml (l : List Nat) : Prop := tr l = l

theorem nrml_tr (l : List Nat) : Nrml (tr l) := by
  unfold Nrml
  induction l with
  | nil => rfl
  | cons d r ih =>
    rw [tr_cons]
    split
    · rfl
    · next h =>
      rw [tr_cons, ih, if_neg h]

/-- Two normal lists of digits with one value are one list. -/
theorem val_inj {a b : List Nat} (ha : Dig a) (hb : Dig b) (na : Nrml a) (nb : Nrml b) (h : val a = val b) : a = b := by
  induction a generalizing b with
  | nil =>
    cases b with
    | nil => rfl
    | cons d r =>
      exfalso
      have key : ∀ (l : List Nat), val l = 0 → tr l = [] := by
        intro l
        induction l with
        | nil => intro _; rfl
        | cons x y ih =>
          intro hx
          simp only [val] at hx
          rw [tr_cons, if_pos ⟨ih (by omega), by omega⟩]
      have := key (d :: r) h.symm
      unfold Nrml at nb
      rw [this] at nb
      exact absurd nb (by simp)
  | cons x s ih =>
    cases b with
    | nil =>
      exfalso
      have key : ∀ (l : List Nat), val l = 0 → tr l = [] := by
        intro l
        induction l with
        | nil => intro _; rfl
        | cons x y ih =>
          intro hx
          simp only [val] at hx
          rw [tr_cons, if_pos ⟨ih (by omega), by omega⟩]
      have := key (x :: s) h
      unfold Nrml at na
      rw [this] at na
      exact absurd na (by simp)
    | cons d r =>
      have hx := ha x (by simp)
      have hd := hb d (by simp)
      simp only [val] at h
      have h1 : x = d := by omega
      have h2 : val s = val r := by omega
      have ns : Nrml s := by
        unfold Nrml at na ⊢
        rw [tr_cons] at na
        split at na
        · exact absurd na (by simp)
        · simpa using na
      have nr : Nrml r := by
        unfold Nrml at nb ⊢
        rw [tr_cons] at nb
        split at nb
        · exact absurd nb (by simp)
        · simpa using nb
      rw [h1, ih (fun y hy => ha y (by simp [hy])) (fun y hy => hb y (by simp [hy])) ns nr h2]

theorem val_zero_tr (l : List Nat) (h : val l = 0) : tr l = [] := by
  induction l with
  | nil => rfl
  | cons x y ih =>
    simp only [val] at h
    rw [tr_cons, if_pos ⟨ih (by omega), by omega⟩]

/-- A normal list's top digit weighs: its value is at least 256^(length-1). -/
theorem val_ge {l : List Nat} (n : Nrml l) (h : l ≠ []) : 256 ^ (l.length - 1) ≤ val l := by
  induction l with
  | nil => exact absurd rfl h
  | cons x s ih =>
    unfold Nrml at n
    rw [tr_cons] at n
    split at n
    · exact absurd n (by simp)
    · next hc =>
      simp at n
      by_cases hs : s = []
      · subst hs
        simp [tr] at hc
        simp [val]; omega
      · have := ih n hs
        have hl : s.length - 1 + 1 = s.length := by
          cases s with
          | nil => exact absurd rfl hs
          | cons a b => simp
        simp only [List.length_cons, Nat.add_sub_cancel, val]
        rw [← hl, Nat.pow_succ]
        omega

theorem getD_lt (l : List Nat) (i : Nat) (h : i < l.length) : l.getD i 0 = l[i] := by
  simp [List.getD_eq_getElem?_getD, h]

theorem getD_ge (l : List Nat) (i : Nat) (h : l.length ≤ i) : l.getD i 0 = 0 := by
  simp [List.getD_eq_getElem?_getD, h]

theorem dig_getD {l : List Nat} (h : Dig l) (i : Nat) : l.getD i 0 < 256 := by
  by_cases hi : i < l.length
  · rw [getD_lt l i hi]; exact h _ (List.getElem_mem hi)
  · rw [getD_ge l i (by omega)]; omega

theorem val_replicate_zero (n : Nat) : val (List.replicate n 0) = 0 := by
  induction n with
  | zero => rfl
  | succ n ih => simp [List.replicate_succ, val, ih]

theorem dig_replicate_zero (n : Nat) : Dig (List.replicate n 0) := by
  intro x hx
  rw [List.mem_replicate] at hx
  omega

theorem val_digit {l : List Nat} (h : Dig l) (m : Nat) : val l / 256 ^ m % 256 = l.getD m 0 := by
  induction l generalizing m with
  | nil => simp [val]
  | cons d r ih =>
    have hd := h d (by simp)
    have hr : Dig r := fun x hx => h x (by simp [hx])
    cases m with
    | zero => simp only [val, Nat.pow_zero, Nat.div_one, List.getD_cons_zero]; omega
    | succ m =>
      simp only [val, List.getD_cons_succ]
      rw [← ih hr m, Nat.pow_succ, Nat.mul_comm (256 ^ m) 256, ← Nat.div_div_eq_div_mul]
      congr 2
      omega

theorem pow_256 (m : Nat) : 256 ^ m = 2 ^ (8 * m) := by rw [Nat.pow_mul]

theorem byte_bit (y r : Nat) (hr : r < 8) : y % 256 / 2 ^ r % 2 = y / 2 ^ r % 2 := by
  have : r = 0 ∨ r = 1 ∨ r = 2 ∨ r = 3 ∨ r = 4 ∨ r = 5 ∨ r = 6 ∨ r = 7 := by omega
  rcases this with rfl | rfl | rfl | rfl | rfl | rfl | rfl | rfl <;> simp only [Nat.reducePow] <;> omega

theorem val_bit {l : List Nat} (h : Dig l) (i : Nat) : (val l).testBit i = decide (l.getD (i / 8) 0 / 2 ^ (i % 8) % 2 = 1) := by
  rw [Nat.testBit_eq_decide_div_mod_eq]
  have e : i = 8 * (i / 8) + i % 8 := by omega
  have e2 : val l / 2 ^ i % 2 = l.getD (i / 8) 0 / 2 ^ (i % 8) % 2 := by
    rw [← val_digit h (i / 8), byte_bit _ _ (by omega), Nat.div_div_eq_div_mul, pow_256, ← Nat.pow_add, ← e]
  rw [e2]

theorem val_pow2 (m r : Nat) : val (List.replicate m 0 ++ [2 ^ r]) = 2 ^ (8 * m + r) := by
  rw [val_append, val_replicate_zero, List.length_replicate, pow_256, Nat.pow_add]
  simp [val]

theorem nrml_pow2 (m r : Nat) : Nrml (List.replicate m 0 ++ [2 ^ r]) := by
  unfold Nrml
  exact tr_snoc _ _ (Nat.ne_of_gt (Nat.pow_pos (by omega)))

theorem pow2_small (r : Nat) (h : r < 8) : 2 ^ r < 256 := by
  have : 2 ^ r < 2 ^ 8 := Nat.pow_lt_pow_right (by omega) h
  simpa using this

theorem dig_append {a b : List Nat} (ha : Dig a) (hb : Dig b) : Dig (a ++ b) := by
  intro x hx
  rcases List.mem_append.1 hx with h | h
  · exact ha x h
  · exact hb x h

theorem dig_one {d : Nat} (h : d < 256) : Dig [d] := by
  intro x hx
  simp at hx
  omega

theorem set_last (m d : Nat) : (List.replicate (m + 1) 0).set m d = List.replicate m 0 ++ [d] := by
  induction m with
  | zero => rfl
  | succ m ih => rw [List.replicate_succ, List.set_cons_succ, ih]; simp [List.replicate_succ]

theorem val_take_succ (l : List Nat) (i : Nat) : val (l.take (i + 1)) = val (l.take i) + 256 ^ i * l.getD i 0 := by
  by_cases h : i < l.length
  · rw [List.take_succ_eq_append_getElem h, val_append, getD_lt l i h, List.length_take, Nat.min_eq_left (by omega)]
    simp [val]
  · rw [List.take_of_length_le (by omega), List.take_of_length_le (by omega), getD_ge l i (by omega)]
    simp

theorem val_split (l : List Nat) (m : Nat) (h : m ≤ l.length) : val l = val (l.take m) + 256 ^ m * val (l.drop m) := by
  have e : l = l.take m ++ l.drop m := (List.take_append_drop m l).symm
  have e2 : val l = val (l.take m ++ l.drop m) := by rw [← e]
  rw [e2, val_append, List.length_take, Nat.min_eq_left h]

theorem val_zeros (l : List Nat) (h : ∀ j, j < l.length → l.getD j 0 = 0) : val l = 0 := by
  induction l with
  | nil => rfl
  | cons d r ih =>
    have h0 := h 0 (by simp)
    have h1 := ih (fun j hj => by have := h (j + 1) (by simp; omega); simpa using this)
    simp at h0
    simp [val, h0, h1]

theorem nrml_last (l : List Nat) (h : l.length ≠ 0) (hl : l.getD (l.length - 1) 0 ≠ 0) : Nrml l := by
  unfold Nrml
  have hne : l ≠ [] := fun e => h (by rw [e]; rfl)
  have e : l = l.take (l.length - 1) ++ [l.getD (l.length - 1) 0] := by
    have h1 : l = l.take (l.length - 1 + 1) := by rw [List.take_of_length_le (by omega)]
    have h2 := List.take_succ_eq_append_getElem (l := l) (i := l.length - 1) (by omega)
    rw [getD_lt _ _ (by omega)]
    exact h1.trans h2
  rw [e]
  exact tr_snoc _ _ hl

theorem set_app (zs : List Nat) (m d : Nat) (h : zs.length < m) : (zs ++ List.replicate (m - zs.length) 0).set zs.length d = (zs ++ [d]) ++ List.replicate (m - (zs.length + 1)) 0 := by
  obtain ⟨k, rfl⟩ : ∃ k, m = zs.length + 1 + k := ⟨m - (zs.length + 1), by omega⟩
  have e1 : zs.length + 1 + k - zs.length = k + 1 := by omega
  have e2 : zs.length + 1 + k - (zs.length + 1) = k := by omega
  rw [e1, e2, List.set_append_right _ _ (Nat.le_refl _), Nat.sub_self, List.replicate_succ, List.set_cons_zero]
  simp

theorem getD_reverse (l : List Nat) (i : Nat) (h : i < l.length) : l.reverse.getD i 0 = l.getD (l.length - 1 - i) 0 := by
  rw [getD_lt _ _ (by simpa using h), getD_lt _ _ (by omega)]
  rw [List.getElem_reverse]

/-- 2^256. A plain definition, so that nothing reckons it out. -/
def W : Nat := 2 ^ 256

theorem W_eq : 2 ^ 256 = W := rfl
theorem W_256 : 256 ^ 32 = W := by rw [pow_256]; rfl
theorem W_pos : 0 < W := Nat.pow_pos (by omega)
theorem W_half : W = 2 * 2 ^ 255 := by unfold W; rw [Nat.pow_succ 2 255, Nat.mul_comm]
theorem WW_lt : W * W < 256 ^ 100 := by
  rw [← W_256, ← Nat.pow_add]
  exact Nat.pow_lt_pow_right (by omega) (by omega)
theorem W_le_WW : W ≤ W * W := Nat.le_mul_of_pos_left W W_pos
theorem W_lt100 : W < 256 ^ 100 := Nat.lt_of_le_of_lt W_le_WW WW_lt
theorem lt100_le {N : Nat} (h : N ≤ W) : N < 256 ^ 100 := Nat.lt_of_le_of_lt h W_lt100
theorem lt100_lt {N : Nat} (h : N < W) : N < 256 ^ 100 := Nat.lt_trans h W_lt100
theorem lt100_mul {A B : Nat} (ha : A ≤ W) (hb : B ≤ W) : A * B < 256 ^ 100 := Nat.lt_of_le_of_lt (Nat.mul_le_mul ha hb) WW_lt
theorem W_two : 2 * W < 256 ^ 100 := by
  have h2 : 2 ≤ W := by
    have h1 := W_half
    have h3 : 0 < 2 ^ 255 := Nat.pow_pos (by omega)
    omega
  exact Nat.lt_of_le_of_lt (Nat.mul_le_mul_right W h2) WW_lt
theorem lt100_add {A B : Nat} (ha : A ≤ W) (hb : B ≤ W) : A + B < 256 ^ 100 := by
  have := W_two
  omega

end Go.Proofs.Ygcsaa.M
