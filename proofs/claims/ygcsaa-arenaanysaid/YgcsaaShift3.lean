import Derived.Test.YgcsaaShift2
namespace Go.Proofs.Ygcsaa
open Go.RowKit
set_option linter.unusedSimpArgs false
set_option linter.unusedVariables false

/-- The count of a shift: 256 stands for all above. -/
def cnt (A : Nat) : Nat := if A ≤ 256 then A else 256

theorem pow_cnt_le (A : Nat) : 2 ^ cnt A ≤ M.W := by
  rw [← M.W_eq]
  exact Nat.pow_le_pow_right (by omega) (by unfold cnt; split <;> omega)

theorem big8 (A : Nat) (h : ¬ A < 256 ^ 8) : ¬ A ≤ 256 := by
  have : (256 : Nat) ^ 8 = 18446744073709551616 := by decide
  omega

theorem small8 (A : Nat) (h : A ≤ 256) : A < 256 ^ 8 := by
  have : (256 : Nat) ^ 8 = 18446744073709551616 := by decide
  omega

theorem div_le_W {A B : Nat} (h : A < M.W) : A / B < M.W := Nat.lt_of_le_of_lt (Nat.div_le_self _ _) h
theorem not_lt_W (A : Nat) : M.W - 1 - A < M.W := by
  have := M.W_pos
  omega

/-- The arithmetic shift to the right. -/
def sarN (A B : Nat) : Nat := if B.testBit 255 then M.W - 1 - (M.W - 1 - B) / 2 ^ cnt A else B / 2 ^ cnt A


set_option maxRecDepth 10000 in
set_option maxHeartbeats 1000000 in
theorem shifted_shl {va vb : Value} {A B : Nat} {w : World} (ha : Num w va A) (hb : Nrm w vb B) (hB : B < M.W) :
    Calls Saag.prog 63 #[.int .u8 27, va, vb] w fun e w' => ∃ v, e = .returned v ∧ Nrm w' v (B * 2 ^ cnt A % M.W) ∧ Below w.heap.size w w' := by
  have T1 := hide (u64_num ha)
  have hP := pow_cnt_le A
  by_cases h256 : A ≤ 256
  · rw [if_pos (small8 A h256), decide_eq_true (small8 A h256)] at T1
    have T2 := hide (fun w => pow2_any A w (by omega))
    have hc : cnt A = A := if_pos h256
    have hPe : 2 ^ cnt A = 2 ^ A := by rw [hc]
    have HP := hide hPe
    rw [hPe]
    rw [hPe] at hP
    clear hc hPe
    generalize 2 ^ A = P at *
    go_enter Saag.func63, Saag.ntmps63
    go_wp2_with fail
    refine (unhide T1).mono ?_
    rintro e w' ⟨rfl, rfl⟩
    go_wp2_with fail
    refine (unhide T2 _).mono ?_
    rintro e w1 ⟨v1, rfl, hv1, hb1⟩
    have hbB := hb.later hb1
    go_wp2_with fail
    refine (mul_num (hbB.num (M.lt100_lt hB)) (hv1.num (M.lt100_le hP))).mono ?_
    rintro e w2 ⟨v2, rfl, hv2, hb2⟩
    go_wp2_with fail
    refine (wrapped_num (hv2.num (M.lt100_mul (Nat.le_of_lt hB) hP))).mono ?_
    rintro e w3 ⟨v3, rfl, hv3, hb3⟩
    go_wp2
    go_ret
    exact ⟨_, rfl, hv3, bstep (bstep hb1 hb2) hb3⟩
  · have hc : cnt A = 256 := if_neg h256
    have T2 := hide (fun w => pow256_num w)
    have hPe : 2 ^ cnt A = M.W := by rw [hc, M.W_eq]
    have HP := hide hPe
    rw [hPe]
    rw [hPe] at hP
    clear hc hPe
    by_cases h8 : A < 256 ^ 8
    · rw [if_pos h8, decide_eq_true h8] at T1
      have h8' : A < 18446744073709551616 := h8
      clear h8
      go_enter Saag.func63, Saag.ntmps63
      go_wp2_with fail
      refine (unhide T1).mono ?_
      rintro e w' ⟨rfl, rfl⟩
      go_wp2_with fail
      refine (unhide T2 _).mono ?_
      rintro e w1 ⟨v1, rfl, hv1, hb1⟩
      have hbB := hb.later hb1
      go_wp2_with fail
      refine (mul_num (hbB.num (M.lt100_lt hB)) (hv1.num (M.lt100_le hP))).mono ?_
      rintro e w2 ⟨v2, rfl, hv2, hb2⟩
      go_wp2_with fail
      refine (wrapped_num (hv2.num (M.lt100_mul (Nat.le_of_lt hB) hP))).mono ?_
      rintro e w3 ⟨v3, rfl, hv3, hb3⟩
      go_wp2
      go_ret
      exact ⟨_, rfl, hv3, bstep (bstep hb1 hb2) hb3⟩
    · rw [if_neg h8, decide_eq_false h8] at T1
      clear h8
      go_enter Saag.func63, Saag.ntmps63
      go_wp2_with fail
      refine (unhide T1).mono ?_
      rintro e w' ⟨rfl, rfl⟩
      go_wp2_with fail
      refine (unhide T2 _).mono ?_
      rintro e w1 ⟨v1, rfl, hv1, hb1⟩
      have hbB := hb.later hb1
      go_wp2_with fail
      refine (mul_num (hbB.num (M.lt100_lt hB)) (hv1.num (M.lt100_le hP))).mono ?_
      rintro e w2 ⟨v2, rfl, hv2, hb2⟩
      go_wp2_with fail
      refine (wrapped_num (hv2.num (M.lt100_mul (Nat.le_of_lt hB) hP))).mono ?_
      rintro e w3 ⟨v3, rfl, hv3, hb3⟩
      go_wp2
      go_ret
      exact ⟨_, rfl, hv3, bstep (bstep hb1 hb2) hb3⟩

set_option maxRecDepth 10000 in
set_option maxHeartbeats 1000000 in
theorem shifted_shr {va vb : Value} {A B : Nat} {w : World} (ha : Num w va A) (hb : Nrm w vb B) (hB : B < M.W) :
    Calls Saag.prog 63 #[.int .u8 28, va, vb] w fun e w' => ∃ v, e = .returned v ∧ Nrm w' v (B / 2 ^ cnt A) ∧ Below w.heap.size w w' := by
  have T1 := hide (u64_num ha)
  have hP := pow_cnt_le A
  by_cases h256 : A ≤ 256
  · rw [if_pos (small8 A h256), decide_eq_true (small8 A h256)] at T1
    have T2 := hide (fun w => pow2_any A w (by omega))
    have hc : cnt A = A := if_pos h256
    have hPe : 2 ^ cnt A = 2 ^ A := by rw [hc]
    have HP := hide hPe
    rw [hPe]
    rw [hPe] at hP
    clear hc hPe
    generalize 2 ^ A = P at *
    go_enter Saag.func63, Saag.ntmps63
    go_wp2_with fail
    refine (unhide T1).mono ?_
    rintro e w' ⟨rfl, rfl⟩
    go_wp2_with fail
    refine (unhide T2 _).mono ?_
    rintro e w1 ⟨v1, rfl, hv1, hb1⟩
    have hbB := hb.later hb1
    go_wp2_with fail
    refine (divmod_num (hbB.num (M.lt100_lt hB)) (hv1.num (M.lt100_le hP))).mono ?_
    rintro e w2 ⟨v2, v3, ok, rfl, hv2, hv3, hb2⟩
    go_wp2
    go_ret
    exact ⟨_, rfl, hv2, bstep hb1 hb2⟩
  · have hc : cnt A = 256 := if_neg h256
    have T2 := hide (fun w => pow256_num w)
    have hPe : 2 ^ cnt A = M.W := by rw [hc, M.W_eq]
    have HP := hide hPe
    rw [hPe]
    rw [hPe] at hP
    clear hc hPe
    by_cases h8 : A < 256 ^ 8
    · rw [if_pos h8, decide_eq_true h8] at T1
      have h8' : A < 18446744073709551616 := h8
      clear h8
      go_enter Saag.func63, Saag.ntmps63
      go_wp2_with fail
      refine (unhide T1).mono ?_
      rintro e w' ⟨rfl, rfl⟩
      go_wp2_with fail
      refine (unhide T2 _).mono ?_
      rintro e w1 ⟨v1, rfl, hv1, hb1⟩
      have hbB := hb.later hb1
      go_wp2_with fail
      refine (divmod_num (hbB.num (M.lt100_lt hB)) (hv1.num (M.lt100_le hP))).mono ?_
      rintro e w2 ⟨v2, v3, ok, rfl, hv2, hv3, hb2⟩
      go_wp2
      go_ret
      exact ⟨_, rfl, hv2, bstep hb1 hb2⟩
    · rw [if_neg h8, decide_eq_false h8] at T1
      clear h8
      go_enter Saag.func63, Saag.ntmps63
      go_wp2_with fail
      refine (unhide T1).mono ?_
      rintro e w' ⟨rfl, rfl⟩
      go_wp2_with fail
      refine (unhide T2 _).mono ?_
      rintro e w1 ⟨v1, rfl, hv1, hb1⟩
      have hbB := hb.later hb1
      go_wp2_with fail
      refine (divmod_num (hbB.num (M.lt100_lt hB)) (hv1.num (M.lt100_le hP))).mono ?_
      rintro e w2 ⟨v2, v3, ok, rfl, hv2, hv3, hb2⟩
      go_wp2
      go_ret
      exact ⟨_, rfl, hv2, bstep hb1 hb2⟩

set_option maxRecDepth 10000 in
set_option maxHeartbeats 1000000 in
theorem shifted_sar {va vb : Value} {A B : Nat} {w : World} (ha : Num w va A) (hb : Nrm w vb B) (hB : B < M.W) :
    Calls Saag.prog 63 #[.int .u8 29, va, vb] w fun e w' => ∃ v, e = .returned v ∧ Nrm w' v (sarN A B) ∧ Below w.heap.size w w' := by
  have T1 := hide (u64_num ha)
  have hP := pow_cnt_le A
  by_cases h256 : A ≤ 256
  · rw [if_pos (small8 A h256), decide_eq_true (small8 A h256)] at T1
    have T2 := hide (fun w => pow2_any A w (by omega))
    have hc : cnt A = A := if_pos h256
    have hPe : 2 ^ cnt A = 2 ^ A := by rw [hc]
    have HP := hide hPe
    skip
    rw [hPe] at hP
    clear hc hPe
    generalize 2 ^ A = P at *
    go_enter Saag.func63, Saag.ntmps63
    go_wp2_with fail
    refine (unhide T1).mono ?_
    rintro e w' ⟨rfl, rfl⟩
    go_wp2_with fail
    refine (unhide T2 _).mono ?_
    rintro e w1 ⟨v1, rfl, hv1, hb1⟩
    have hbB := hb.later hb1
    go_wp2_with fail
    refine (isNegative_num (hbB.num (M.lt100_lt hB))).mono ?_
    rintro e w' ⟨rfl, rfl⟩
    by_cases hneg : B.testBit 255 = true
    · rw [hneg]
      have Hs : Hid (sarN A B = M.W - 1 - (M.W - 1 - B) / P) := by rw [sarN, if_pos hneg, unhide HP]; exact rfl
      clear hneg
      go_wp2_with fail
      refine (bitwise_not hbB (Nrm.nil _) hB M.W_pos).mono ?_
      rintro e w2 ⟨v2, rfl, hv2, hb2⟩
      have hv1' := hv1.later hb2
      go_wp2_with fail
      refine (divmod_num (hv2.num (M.lt100_lt (not_lt_W B))) (hv1'.num (M.lt100_le hP))).mono ?_
      rintro e w3 ⟨v3, v4, ok, rfl, hv3, hv4, hb3⟩
      go_wp2_with fail
      refine (bitwise_not hv3 (Nrm.nil _) (div_le_W (not_lt_W B)) M.W_pos).mono ?_
      rintro e w4 ⟨v5, rfl, hv5, hb4⟩
      go_wp2
      go_ret
      exact ⟨_, rfl, by rw [unhide Hs]; exact hv5, bstep (bstep (bstep hb1 hb2) hb3) hb4⟩
    · rw [Bool.eq_false_iff.2 hneg]
      have Hs : Hid (sarN A B = B / P) := by rw [sarN, if_neg hneg, unhide HP]; exact rfl
      clear hneg
      go_wp2_with fail
      refine (divmod_num (hbB.num (M.lt100_lt hB)) (hv1.num (M.lt100_le hP))).mono ?_
      rintro e w2 ⟨v2, v3, ok, rfl, hv2, hv3, hb2⟩
      go_wp2
      go_ret
      exact ⟨_, rfl, by rw [unhide Hs]; exact hv2, bstep hb1 hb2⟩
  · have hc : cnt A = 256 := if_neg h256
    have T2 := hide (fun w => pow256_num w)
    have hPe : 2 ^ cnt A = M.W := by rw [hc, M.W_eq]
    have HP := hide hPe
    skip
    rw [hPe] at hP
    clear hc hPe
    by_cases h8 : A < 256 ^ 8
    · rw [if_pos h8, decide_eq_true h8] at T1
      have h8' : A < 18446744073709551616 := h8
      clear h8
      go_enter Saag.func63, Saag.ntmps63
      go_wp2_with fail
      refine (unhide T1).mono ?_
      rintro e w' ⟨rfl, rfl⟩
      go_wp2_with fail
      refine (unhide T2 _).mono ?_
      rintro e w1 ⟨v1, rfl, hv1, hb1⟩
      have hbB := hb.later hb1
      go_wp2_with fail
      refine (isNegative_num (hbB.num (M.lt100_lt hB))).mono ?_
      rintro e w' ⟨rfl, rfl⟩
      by_cases hneg : B.testBit 255 = true
      · rw [hneg]
        have Hs : Hid (sarN A B = M.W - 1 - (M.W - 1 - B) / M.W) := by rw [sarN, if_pos hneg, unhide HP]; exact rfl
        clear hneg
        go_wp2_with fail
        refine (bitwise_not hbB (Nrm.nil _) hB M.W_pos).mono ?_
        rintro e w2 ⟨v2, rfl, hv2, hb2⟩
        have hv1' := hv1.later hb2
        go_wp2_with fail
        refine (divmod_num (hv2.num (M.lt100_lt (not_lt_W B))) (hv1'.num (M.lt100_le hP))).mono ?_
        rintro e w3 ⟨v3, v4, ok, rfl, hv3, hv4, hb3⟩
        go_wp2_with fail
        refine (bitwise_not hv3 (Nrm.nil _) (div_le_W (not_lt_W B)) M.W_pos).mono ?_
        rintro e w4 ⟨v5, rfl, hv5, hb4⟩
        go_wp2
        go_ret
        exact ⟨_, rfl, by rw [unhide Hs]; exact hv5, bstep (bstep (bstep hb1 hb2) hb3) hb4⟩
      · rw [Bool.eq_false_iff.2 hneg]
        have Hs : Hid (sarN A B = B / M.W) := by rw [sarN, if_neg hneg, unhide HP]; exact rfl
        clear hneg
        go_wp2_with fail
        refine (divmod_num (hbB.num (M.lt100_lt hB)) (hv1.num (M.lt100_le hP))).mono ?_
        rintro e w2 ⟨v2, v3, ok, rfl, hv2, hv3, hb2⟩
        go_wp2
        go_ret
        exact ⟨_, rfl, by rw [unhide Hs]; exact hv2, bstep hb1 hb2⟩
    · rw [if_neg h8, decide_eq_false h8] at T1
      clear h8
      go_enter Saag.func63, Saag.ntmps63
      go_wp2_with fail
      refine (unhide T1).mono ?_
      rintro e w' ⟨rfl, rfl⟩
      go_wp2_with fail
      refine (unhide T2 _).mono ?_
      rintro e w1 ⟨v1, rfl, hv1, hb1⟩
      have hbB := hb.later hb1
      go_wp2_with fail
      refine (isNegative_num (hbB.num (M.lt100_lt hB))).mono ?_
      rintro e w' ⟨rfl, rfl⟩
      by_cases hneg : B.testBit 255 = true
      · rw [hneg]
        have Hs : Hid (sarN A B = M.W - 1 - (M.W - 1 - B) / M.W) := by rw [sarN, if_pos hneg, unhide HP]; exact rfl
        clear hneg
        go_wp2_with fail
        refine (bitwise_not hbB (Nrm.nil _) hB M.W_pos).mono ?_
        rintro e w2 ⟨v2, rfl, hv2, hb2⟩
        have hv1' := hv1.later hb2
        go_wp2_with fail
        refine (divmod_num (hv2.num (M.lt100_lt (not_lt_W B))) (hv1'.num (M.lt100_le hP))).mono ?_
        rintro e w3 ⟨v3, v4, ok, rfl, hv3, hv4, hb3⟩
        go_wp2_with fail
        refine (bitwise_not hv3 (Nrm.nil _) (div_le_W (not_lt_W B)) M.W_pos).mono ?_
        rintro e w4 ⟨v5, rfl, hv5, hb4⟩
        go_wp2
        go_ret
        exact ⟨_, rfl, by rw [unhide Hs]; exact hv5, bstep (bstep (bstep hb1 hb2) hb3) hb4⟩
      · rw [Bool.eq_false_iff.2 hneg]
        have Hs : Hid (sarN A B = B / M.W) := by rw [sarN, if_neg hneg, unhide HP]; exact rfl
        clear hneg
        go_wp2_with fail
        refine (divmod_num (hbB.num (M.lt100_lt hB)) (hv1.num (M.lt100_le hP))).mono ?_
        rintro e w2 ⟨v2, v3, ok, rfl, hv2, hv3, hb2⟩
        go_wp2
        go_ret
        exact ⟨_, rfl, by rw [unhide Hs]; exact hv2, bstep hb1 hb2⟩

end Go.Proofs.Ygcsaa
