import Derived.Test.YgcsaaSignExt
namespace Go.Proofs.Ygcsaa
open Go.RowKit
set_option linter.unusedSimpArgs false
set_option linter.unusedVariables false

theorem sgn_lt {A : Nat} (h : A < M.W) (b : Bool) : sgn A b < M.W := by
  cases b
  · exact h
  · exact Nat.mod_lt _ M.W_pos
theorem mag_lt {A : Nat} (h : A < M.W) : mag A < M.W := sgn_lt h _
theorem modz_lt_W {A B : Nat} (h : A < M.W) : modz A B < M.W := by
  unfold modz
  split
  · exact M.W_pos
  · exact Nat.lt_of_le_of_lt (Nat.mod_le _ _) h

set_option maxRecDepth 10000 in
set_option maxHeartbeats 1000000 in
theorem alu_1 {va vb vc : Value} {A B C : Nat} {w : World} (ha : Nrm w va A) (hb : Nrm w vb B) (hc : Nrm w vc C) (hA : A < M.W) (hB : B < M.W) (hC : C < M.W) :
    Calls Saag.prog 21 #[.int .u8 1, va, vb, vc] w fun e w' => ∃ v, e = .returned v ∧ Nrm w' v ((A + B) % M.W) ∧ Below w.heap.size w w' := by
  have na := ha.num (M.lt100_lt hA)
  have nb := hb.num (M.lt100_lt hB)
  have nc := hc.num (M.lt100_lt hC)
  go_enter Saag.func21, Saag.ntmps21
  go_wp2_with fail
  refine (add_num na nb).mono ?_
  rintro e w1 ⟨v1, rfl, hv1, hb1⟩
  go_wp2_with fail
  refine (wrapped_num (hv1.num (M.lt100_add (Nat.le_of_lt hA) (Nat.le_of_lt hB)))).mono ?_
  rintro e w2 ⟨v2, rfl, hv2, hb2⟩
  go_wp2
  go_ret
  exact ⟨_, rfl, hv2, bstep hb1 hb2⟩

set_option maxRecDepth 10000 in
set_option maxHeartbeats 1000000 in
theorem alu_2 {va vb vc : Value} {A B C : Nat} {w : World} (ha : Nrm w va A) (hb : Nrm w vb B) (hc : Nrm w vc C) (hA : A < M.W) (hB : B < M.W) (hC : C < M.W) :
    Calls Saag.prog 21 #[.int .u8 2, va, vb, vc] w fun e w' => ∃ v, e = .returned v ∧ Nrm w' v (A * B % M.W) ∧ Below w.heap.size w w' := by
  have na := ha.num (M.lt100_lt hA)
  have nb := hb.num (M.lt100_lt hB)
  have nc := hc.num (M.lt100_lt hC)
  go_enter Saag.func21, Saag.ntmps21
  go_wp2_with fail
  refine (mul_num na nb).mono ?_
  rintro e w1 ⟨v1, rfl, hv1, hb1⟩
  go_wp2_with fail
  refine (wrapped_num (hv1.num (M.lt100_mul (Nat.le_of_lt hA) (Nat.le_of_lt hB)))).mono ?_
  rintro e w2 ⟨v2, rfl, hv2, hb2⟩
  go_wp2
  go_ret
  exact ⟨_, rfl, hv2, bstep hb1 hb2⟩

set_option maxRecDepth 10000 in
set_option maxHeartbeats 1000000 in
theorem alu_3 {va vb vc : Value} {A B C : Nat} {w : World} (ha : Nrm w va A) (hb : Nrm w vb B) (hc : Nrm w vc C) (hA : A < M.W) (hB : B < M.W) (hC : C < M.W) :
    Calls Saag.prog 21 #[.int .u8 3, va, vb, vc] w fun e w' => ∃ v, e = .returned v ∧ Nrm w' v ((A + (M.W - B) % M.W) % M.W) ∧ Below w.heap.size w w' := by
  have na := ha.num (M.lt100_lt hA)
  have nb := hb.num (M.lt100_lt hB)
  have nc := hc.num (M.lt100_lt hC)
  go_enter Saag.func21, Saag.ntmps21
  have hm : (M.W - B) % M.W < M.W := Nat.mod_lt _ M.W_pos
  go_wp2_with fail
  refine (negated_num nb (Nat.le_of_lt hB)).mono ?_
  rintro e w1 ⟨v1, rfl, hv1, hb1⟩
  go_wp2_with fail
  refine (add_num (na.later hb1) (hv1.num (M.lt100_lt hm))).mono ?_
  rintro e w2 ⟨v2, rfl, hv2, hb2⟩
  go_wp2_with fail
  refine (wrapped_num (hv2.num (M.lt100_add (Nat.le_of_lt hA) (Nat.le_of_lt hm)))).mono ?_
  rintro e w3 ⟨v3, rfl, hv3, hb3⟩
  go_wp2
  go_ret
  exact ⟨_, rfl, hv3, bstep (bstep hb1 hb2) hb3⟩

set_option maxRecDepth 10000 in
set_option maxHeartbeats 1000000 in
theorem alu_4 {va vb vc : Value} {A B C : Nat} {w : World} (ha : Nrm w va A) (hb : Nrm w vb B) (hc : Nrm w vc C) (hA : A < M.W) (hB : B < M.W) (hC : C < M.W) :
    Calls Saag.prog 21 #[.int .u8 4, va, vb, vc] w fun e w' => ∃ v, e = .returned v ∧ Nrm w' v (A / B) ∧ Below w.heap.size w w' := by
  have na := ha.num (M.lt100_lt hA)
  have nb := hb.num (M.lt100_lt hB)
  have nc := hc.num (M.lt100_lt hC)
  go_enter Saag.func21, Saag.ntmps21
  go_wp2_with fail
  refine (divmod_num na nb).mono ?_
  rintro e w1 ⟨q, r, ok, rfl, hq, hr, hb1⟩
  go_wp2
  go_ret
  exact ⟨_, rfl, hq, hb1⟩

set_option maxRecDepth 10000 in
set_option maxHeartbeats 1000000 in
theorem alu_5 {va vb vc : Value} {A B C : Nat} {w : World} (ha : Nrm w va A) (hb : Nrm w vb B) (hc : Nrm w vc C) (hA : A < M.W) (hB : B < M.W) (hC : C < M.W) :
    Calls Saag.prog 21 #[.int .u8 5, va, vb, vc] w fun e w' => ∃ v, e = .returned v ∧ Nrm w' v (sgn (mag A / mag B) (A.testBit 255 != B.testBit 255)) ∧ Below w.heap.size w w' := by
  have na := ha.num (M.lt100_lt hA)
  have nb := hb.num (M.lt100_lt hB)
  have nc := hc.num (M.lt100_lt hC)
  go_enter Saag.func21, Saag.ntmps21
  have mA := mag_lt hA
  have mB := mag_lt hB
  have T1 := hide (magnitude_num na (Nat.le_of_lt hA))
  have T2 := hide (fun w (h : Num w vb B) => magnitude_num h (Nat.le_of_lt hB))
  have T3 := hide (fun w (h : Num w va A) => isNegative_num h)
  have T4 := hide (fun w (h : Num w vb B) => isNegative_num h)
  generalize mag A = MA at *
  generalize mag B = MB at *
  go_wp2_with fail
  refine (unhide T1).mono ?_
  rintro e w1 ⟨v1, rfl, hv1, hb1⟩
  go_wp2_with fail
  refine (unhide T2 w1 (nb.later hb1)).mono ?_
  rintro e w2 ⟨v2, rfl, hv2, hb2⟩
  have hB2 := bstep hb1 hb2
  go_wp2_with fail
  refine (divmod_num ((hv1.later hb2).num (M.lt100_lt mA)) (hv2.num (M.lt100_lt mB))).mono ?_
  rintro e w3 ⟨q, r, ok, rfl, hq, hr, hb3⟩
  have hB3 := bstep hB2 hb3
  go_wp2_with fail
  refine (unhide T3 w3 (na.later hB3)).mono ?_
  rintro e w' ⟨rfl, rfl⟩
  go_wp2_with fail
  refine (unhide T4 w3 (nb.later hB3)).mono ?_
  rintro e w' ⟨rfl, rfl⟩
  have hq' := div_le_W (B := MB) mA
  go_wp2_with fail
  refine (withSign_num _ (hq.num (M.lt100_lt hq')) (Nat.le_of_lt hq')).mono ?_
  rintro e w4 ⟨v4, rfl, hv4, hb4⟩
  go_wp2
  go_ret
  exact ⟨_, rfl, hv4, bstep hB3 hb4⟩

set_option maxRecDepth 10000 in
set_option maxHeartbeats 1000000 in
theorem alu_6 {va vb vc : Value} {A B C : Nat} {w : World} (ha : Nrm w va A) (hb : Nrm w vb B) (hc : Nrm w vc C) (hA : A < M.W) (hB : B < M.W) (hC : C < M.W) :
    Calls Saag.prog 21 #[.int .u8 6, va, vb, vc] w fun e w' => ∃ v, e = .returned v ∧ Nrm w' v (modz A B) ∧ Below w.heap.size w w' := by
  have na := ha.num (M.lt100_lt hA)
  have nb := hb.num (M.lt100_lt hB)
  have nc := hc.num (M.lt100_lt hC)
  go_enter Saag.func21, Saag.ntmps21
  go_wp2_with fail
  refine (divmod_num na nb).mono ?_
  rintro e w1 ⟨q, r, ok, rfl, hq, hr, hb1⟩
  go_wp2
  go_ret
  exact ⟨_, rfl, hr, hb1⟩

set_option maxRecDepth 10000 in
set_option maxHeartbeats 1000000 in
theorem alu_7 {va vb vc : Value} {A B C : Nat} {w : World} (ha : Nrm w va A) (hb : Nrm w vb B) (hc : Nrm w vc C) (hA : A < M.W) (hB : B < M.W) (hC : C < M.W) :
    Calls Saag.prog 21 #[.int .u8 7, va, vb, vc] w fun e w' => ∃ v, e = .returned v ∧ Nrm w' v (sgn (modz (mag A) (mag B)) (A.testBit 255)) ∧ Below w.heap.size w w' := by
  have na := ha.num (M.lt100_lt hA)
  have nb := hb.num (M.lt100_lt hB)
  have nc := hc.num (M.lt100_lt hC)
  go_enter Saag.func21, Saag.ntmps21
  have mA := mag_lt hA
  have mB := mag_lt hB
  have T1 := hide (magnitude_num na (Nat.le_of_lt hA))
  have T2 := hide (fun w (h : Num w vb B) => magnitude_num h (Nat.le_of_lt hB))
  have T3 := hide (fun w (h : Num w va A) => isNegative_num h)
  have T4 := hide (fun w (h : Num w vb B) => isNegative_num h)
  generalize mag A = MA at *
  generalize mag B = MB at *
  go_wp2_with fail
  refine (unhide T1).mono ?_
  rintro e w1 ⟨v1, rfl, hv1, hb1⟩
  go_wp2_with fail
  refine (unhide T2 w1 (nb.later hb1)).mono ?_
  rintro e w2 ⟨v2, rfl, hv2, hb2⟩
  have hB2 := bstep hb1 hb2
  go_wp2_with fail
  refine (divmod_num ((hv1.later hb2).num (M.lt100_lt mA)) (hv2.num (M.lt100_lt mB))).mono ?_
  rintro e w3 ⟨q, r, ok, rfl, hq, hr, hb3⟩
  have hB3 := bstep hB2 hb3
  go_wp2_with fail
  refine (unhide T3 w3 (na.later hB3)).mono ?_
  rintro e w' ⟨rfl, rfl⟩
  have hr' := modz_lt_W (B := MB) mA
  go_wp2_with fail
  refine (withSign_num _ (hr.num (M.lt100_lt hr')) (Nat.le_of_lt hr')).mono ?_
  rintro e w4 ⟨v4, rfl, hv4, hb4⟩
  go_wp2
  go_ret
  exact ⟨_, rfl, hv4, bstep hB3 hb4⟩

set_option maxRecDepth 10000 in
set_option maxHeartbeats 1000000 in
theorem alu_8 {va vb vc : Value} {A B C : Nat} {w : World} (ha : Nrm w va A) (hb : Nrm w vb B) (hc : Nrm w vc C) (hA : A < M.W) (hB : B < M.W) (hC : C < M.W) :
    Calls Saag.prog 21 #[.int .u8 8, va, vb, vc] w fun e w' => ∃ v, e = .returned v ∧ Nrm w' v (modz (A + B) C) ∧ Below w.heap.size w w' := by
  have na := ha.num (M.lt100_lt hA)
  have nb := hb.num (M.lt100_lt hB)
  have nc := hc.num (M.lt100_lt hC)
  go_enter Saag.func21, Saag.ntmps21
  go_wp2_with fail
  refine (add_num na nb).mono ?_
  rintro e w1 ⟨v1, rfl, hv1, hb1⟩
  go_wp2_with fail
  refine (divmod_num (hv1.num (M.lt100_add (Nat.le_of_lt hA) (Nat.le_of_lt hB))) (nc.later hb1)).mono ?_
  rintro e w2 ⟨q, r, ok, rfl, hq, hr, hb2⟩
  go_wp2
  go_ret
  exact ⟨_, rfl, hr, bstep hb1 hb2⟩

set_option maxRecDepth 10000 in
set_option maxHeartbeats 1000000 in
theorem alu_9 {va vb vc : Value} {A B C : Nat} {w : World} (ha : Nrm w va A) (hb : Nrm w vb B) (hc : Nrm w vc C) (hA : A < M.W) (hB : B < M.W) (hC : C < M.W) :
    Calls Saag.prog 21 #[.int .u8 9, va, vb, vc] w fun e w' => ∃ v, e = .returned v ∧ Nrm w' v (modz (A * B) C) ∧ Below w.heap.size w w' := by
  have na := ha.num (M.lt100_lt hA)
  have nb := hb.num (M.lt100_lt hB)
  have nc := hc.num (M.lt100_lt hC)
  go_enter Saag.func21, Saag.ntmps21
  go_wp2_with fail
  refine (mul_num na nb).mono ?_
  rintro e w1 ⟨v1, rfl, hv1, hb1⟩
  go_wp2_with fail
  refine (divmod_num (hv1.num (M.lt100_mul (Nat.le_of_lt hA) (Nat.le_of_lt hB))) (nc.later hb1)).mono ?_
  rintro e w2 ⟨q, r, ok, rfl, hq, hr, hb2⟩
  go_wp2
  go_ret
  exact ⟨_, rfl, hr, bstep hb1 hb2⟩

set_option maxRecDepth 10000 in
set_option maxHeartbeats 1000000 in
theorem alu_10 {va vb vc : Value} {A B C : Nat} {w : World} (ha : Nrm w va A) (hb : Nrm w vb B) (hc : Nrm w vc C) (hA : A < M.W) (hB : B < M.W) (hC : C < M.W) :
    Calls Saag.prog 21 #[.int .u8 10, va, vb, vc] w fun e w' => ∃ v, e = .returned v ∧ Nrm w' v (A ^ B % M.W) ∧ Below w.heap.size w w' := by
  have na := ha.num (M.lt100_lt hA)
  have nb := hb.num (M.lt100_lt hB)
  have nc := hc.num (M.lt100_lt hC)
  go_enter Saag.func21, Saag.ntmps21
  go_wp2_with fail
  refine (power_num na hb hA hB).mono ?_
  rintro e w1 ⟨v1, rfl, hv1, hb1⟩
  go_wp2
  go_ret
  exact ⟨_, rfl, hv1, hb1⟩

set_option maxRecDepth 10000 in
set_option maxHeartbeats 1000000 in
theorem alu_11 {va vb vc : Value} {A B C : Nat} {w : World} (ha : Nrm w va A) (hb : Nrm w vb B) (hc : Nrm w vc C) (hA : A < M.W) (hB : B < M.W) (hC : C < M.W) :
    Calls Saag.prog 21 #[.int .u8 11, va, vb, vc] w fun e w' => ∃ v, e = .returned v ∧ Nrm w' v (sextN A B) ∧ Below w.heap.size w w' := by
  have na := ha.num (M.lt100_lt hA)
  have nb := hb.num (M.lt100_lt hB)
  have nc := hc.num (M.lt100_lt hC)
  go_enter Saag.func21, Saag.ntmps21
  go_wp2_with fail
  refine (signExtended_num na hb hB).mono ?_
  rintro e w1 ⟨v1, rfl, hv1, hb1⟩
  go_wp2
  go_ret
  exact ⟨_, rfl, hv1, hb1⟩

set_option maxRecDepth 10000 in
set_option maxHeartbeats 1000000 in
theorem alu_16 {va vb vc : Value} {A B C : Nat} {w : World} (ha : Nrm w va A) (hb : Nrm w vb B) (hc : Nrm w vc C) (hA : A < M.W) (hB : B < M.W) (hC : C < M.W) :
    Calls Saag.prog 21 #[.int .u8 16, va, vb, vc] w fun e w' => ∃ v, e = .returned v ∧ Nrm w' v (tv (decide (A < B))) ∧ Below w.heap.size w w' := by
  have na := ha.num (M.lt100_lt hA)
  have nb := hb.num (M.lt100_lt hB)
  have nc := hc.num (M.lt100_lt hC)
  go_enter Saag.func21, Saag.ntmps21
  have Hz := hide (cmpI_neg A B)
  go_wp2_with fail
  refine (cmp_num na nb).mono ?_
  rintro e w1 ⟨rfl, hb1⟩
  go_wp2_with fail
  rw [unhide Hz]
  refine (truth_num _ w1).mono ?_
  rintro e w2 ⟨v2, rfl, hv2, hb2⟩
  go_wp2
  go_ret
  exact ⟨_, rfl, hv2, bstep hb1 hb2⟩

set_option maxRecDepth 10000 in
set_option maxHeartbeats 1000000 in
theorem alu_17 {va vb vc : Value} {A B C : Nat} {w : World} (ha : Nrm w va A) (hb : Nrm w vb B) (hc : Nrm w vc C) (hA : A < M.W) (hB : B < M.W) (hC : C < M.W) :
    Calls Saag.prog 21 #[.int .u8 17, va, vb, vc] w fun e w' => ∃ v, e = .returned v ∧ Nrm w' v (tv (decide (B < A))) ∧ Below w.heap.size w w' := by
  have na := ha.num (M.lt100_lt hA)
  have nb := hb.num (M.lt100_lt hB)
  have nc := hc.num (M.lt100_lt hC)
  go_enter Saag.func21, Saag.ntmps21
  have Hz := hide (cmpI_pos A B)
  go_wp2_with fail
  refine (cmp_num na nb).mono ?_
  rintro e w1 ⟨rfl, hb1⟩
  go_wp2_with fail
  rw [unhide Hz]
  refine (truth_num _ w1).mono ?_
  rintro e w2 ⟨v2, rfl, hv2, hb2⟩
  go_wp2
  go_ret
  exact ⟨_, rfl, hv2, bstep hb1 hb2⟩

set_option maxRecDepth 10000 in
set_option maxHeartbeats 1000000 in
theorem alu_18 {va vb vc : Value} {A B C : Nat} {w : World} (ha : Nrm w va A) (hb : Nrm w vb B) (hc : Nrm w vc C) (hA : A < M.W) (hB : B < M.W) (hC : C < M.W) :
    Calls Saag.prog 21 #[.int .u8 18, va, vb, vc] w fun e w' => ∃ v, e = .returned v ∧ Nrm w' v (tv (sltN A B)) ∧ Below w.heap.size w w' := by
  have na := ha.num (M.lt100_lt hA)
  have nb := hb.num (M.lt100_lt hB)
  have nc := hc.num (M.lt100_lt hC)
  go_enter Saag.func21, Saag.ntmps21
  go_wp2_with fail
  refine (signedBelow_num na nb).mono ?_
  rintro e w1 ⟨rfl, hb1⟩
  go_wp2_with fail
  refine (truth_num _ w1).mono ?_
  rintro e w2 ⟨v2, rfl, hv2, hb2⟩
  go_wp2
  go_ret
  exact ⟨_, rfl, hv2, bstep hb1 hb2⟩

set_option maxRecDepth 10000 in
set_option maxHeartbeats 1000000 in
theorem alu_19 {va vb vc : Value} {A B C : Nat} {w : World} (ha : Nrm w va A) (hb : Nrm w vb B) (hc : Nrm w vc C) (hA : A < M.W) (hB : B < M.W) (hC : C < M.W) :
    Calls Saag.prog 21 #[.int .u8 19, va, vb, vc] w fun e w' => ∃ v, e = .returned v ∧ Nrm w' v (tv (sltN B A)) ∧ Below w.heap.size w w' := by
  have na := ha.num (M.lt100_lt hA)
  have nb := hb.num (M.lt100_lt hB)
  have nc := hc.num (M.lt100_lt hC)
  go_enter Saag.func21, Saag.ntmps21
  go_wp2_with fail
  refine (signedBelow_num nb na).mono ?_
  rintro e w1 ⟨rfl, hb1⟩
  go_wp2_with fail
  refine (truth_num _ w1).mono ?_
  rintro e w2 ⟨v2, rfl, hv2, hb2⟩
  go_wp2
  go_ret
  exact ⟨_, rfl, hv2, bstep hb1 hb2⟩

set_option maxRecDepth 10000 in
set_option maxHeartbeats 1000000 in
theorem alu_20 {va vb vc : Value} {A B C : Nat} {w : World} (ha : Nrm w va A) (hb : Nrm w vb B) (hc : Nrm w vc C) (hA : A < M.W) (hB : B < M.W) (hC : C < M.W) :
    Calls Saag.prog 21 #[.int .u8 20, va, vb, vc] w fun e w' => ∃ v, e = .returned v ∧ Nrm w' v (tv (decide (A = B))) ∧ Below w.heap.size w w' := by
  have na := ha.num (M.lt100_lt hA)
  have nb := hb.num (M.lt100_lt hB)
  have nc := hc.num (M.lt100_lt hC)
  go_enter Saag.func21, Saag.ntmps21
  have Hz := hide (cmpI_zero A B)
  go_wp2_with fail
  refine (cmp_num na nb).mono ?_
  rintro e w1 ⟨rfl, hb1⟩
  go_wp2_with fail
  rw [unhide Hz]
  refine (truth_num _ w1).mono ?_
  rintro e w2 ⟨v2, rfl, hv2, hb2⟩
  go_wp2
  go_ret
  exact ⟨_, rfl, hv2, bstep hb1 hb2⟩

set_option maxRecDepth 10000 in
set_option maxHeartbeats 1000000 in
theorem alu_21 {va vb vc : Value} {A B C : Nat} {w : World} (ha : Nrm w va A) (hb : Nrm w vb B) (hc : Nrm w vc C) (hA : A < M.W) (hB : B < M.W) (hC : C < M.W) :
    Calls Saag.prog 21 #[.int .u8 21, va, vb, vc] w fun e w' => ∃ v, e = .returned v ∧ Nrm w' v (tv (decide (A = 0))) ∧ Below w.heap.size w w' := by
  have na := ha.num (M.lt100_lt hA)
  have nb := hb.num (M.lt100_lt hB)
  have nc := hc.num (M.lt100_lt hC)
  go_enter Saag.func21, Saag.ntmps21
  have Hz := hide (cmpI_zero A 0)
  go_wp2_with fail
  refine (cmp_num na (Num.nil w)).mono ?_
  rintro e w1 ⟨rfl, hb1⟩
  go_wp2_with fail
  rw [unhide Hz]
  refine (truth_num _ w1).mono ?_
  rintro e w2 ⟨v2, rfl, hv2, hb2⟩
  go_wp2
  go_ret
  exact ⟨_, rfl, hv2, bstep hb1 hb2⟩

set_option maxRecDepth 10000 in
set_option maxHeartbeats 1000000 in
theorem alu_22 {va vb vc : Value} {A B C : Nat} {w : World} (ha : Nrm w va A) (hb : Nrm w vb B) (hc : Nrm w vc C) (hA : A < M.W) (hB : B < M.W) (hC : C < M.W) :
    Calls Saag.prog 21 #[.int .u8 22, va, vb, vc] w fun e w' => ∃ v, e = .returned v ∧ Nrm w' v (A &&& B) ∧ Below w.heap.size w w' := by
  have na := ha.num (M.lt100_lt hA)
  have nb := hb.num (M.lt100_lt hB)
  have nc := hc.num (M.lt100_lt hC)
  go_enter Saag.func21, Saag.ntmps21
  go_wp2_with fail
  refine (bitwise_and ha hb hA hB).mono ?_
  rintro e w1 ⟨v1, rfl, hv1, hb1⟩
  go_wp2
  go_ret
  exact ⟨_, rfl, hv1, hb1⟩

set_option maxRecDepth 10000 in
set_option maxHeartbeats 1000000 in
theorem alu_23 {va vb vc : Value} {A B C : Nat} {w : World} (ha : Nrm w va A) (hb : Nrm w vb B) (hc : Nrm w vc C) (hA : A < M.W) (hB : B < M.W) (hC : C < M.W) :
    Calls Saag.prog 21 #[.int .u8 23, va, vb, vc] w fun e w' => ∃ v, e = .returned v ∧ Nrm w' v (A ||| B) ∧ Below w.heap.size w w' := by
  have na := ha.num (M.lt100_lt hA)
  have nb := hb.num (M.lt100_lt hB)
  have nc := hc.num (M.lt100_lt hC)
  go_enter Saag.func21, Saag.ntmps21
  go_wp2_with fail
  refine (bitwise_or ha hb hA hB).mono ?_
  rintro e w1 ⟨v1, rfl, hv1, hb1⟩
  go_wp2
  go_ret
  exact ⟨_, rfl, hv1, hb1⟩

set_option maxRecDepth 10000 in
set_option maxHeartbeats 1000000 in
theorem alu_24 {va vb vc : Value} {A B C : Nat} {w : World} (ha : Nrm w va A) (hb : Nrm w vb B) (hc : Nrm w vc C) (hA : A < M.W) (hB : B < M.W) (hC : C < M.W) :
    Calls Saag.prog 21 #[.int .u8 24, va, vb, vc] w fun e w' => ∃ v, e = .returned v ∧ Nrm w' v (A ^^^ B) ∧ Below w.heap.size w w' := by
  have na := ha.num (M.lt100_lt hA)
  have nb := hb.num (M.lt100_lt hB)
  have nc := hc.num (M.lt100_lt hC)
  go_enter Saag.func21, Saag.ntmps21
  go_wp2_with fail
  refine (bitwise_xor ha hb hA hB).mono ?_
  rintro e w1 ⟨v1, rfl, hv1, hb1⟩
  go_wp2
  go_ret
  exact ⟨_, rfl, hv1, hb1⟩

set_option maxRecDepth 10000 in
set_option maxHeartbeats 1000000 in
theorem alu_25 {va vb vc : Value} {A B C : Nat} {w : World} (ha : Nrm w va A) (hb : Nrm w vb B) (hc : Nrm w vc C) (hA : A < M.W) (hB : B < M.W) (hC : C < M.W) :
    Calls Saag.prog 21 #[.int .u8 25, va, vb, vc] w fun e w' => ∃ v, e = .returned v ∧ Nrm w' v (M.W - 1 - A) ∧ Below w.heap.size w w' := by
  have na := ha.num (M.lt100_lt hA)
  have nb := hb.num (M.lt100_lt hB)
  have nc := hc.num (M.lt100_lt hC)
  go_enter Saag.func21, Saag.ntmps21
  go_wp2_with fail
  refine (bitwise_not ha hb hA hB).mono ?_
  rintro e w1 ⟨v1, rfl, hv1, hb1⟩
  go_wp2
  go_ret
  exact ⟨_, rfl, hv1, hb1⟩

set_option maxRecDepth 10000 in
set_option maxHeartbeats 1000000 in
theorem alu_26 {va vb vc : Value} {A B C : Nat} {w : World} (ha : Nrm w va A) (hb : Nrm w vb B) (hc : Nrm w vc C) (hA : A < M.W) (hB : B < M.W) (hC : C < M.W) :
    Calls Saag.prog 21 #[.int .u8 26, va, vb, vc] w fun e w' => ∃ v, e = .returned v ∧ Nrm w' v (byteN A B) ∧ Below w.heap.size w w' := by
  have na := ha.num (M.lt100_lt hA)
  have nb := hb.num (M.lt100_lt hB)
  have nc := hc.num (M.lt100_lt hC)
  go_enter Saag.func21, Saag.ntmps21
  go_wp2_with fail
  refine (pickedByte_num na hb hB).mono ?_
  rintro e w1 ⟨v1, rfl, hv1, hb1⟩
  go_wp2
  go_ret
  exact ⟨_, rfl, hv1, hb1⟩

set_option maxRecDepth 10000 in
set_option maxHeartbeats 1000000 in
theorem alu_27 {va vb vc : Value} {A B C : Nat} {w : World} (ha : Nrm w va A) (hb : Nrm w vb B) (hc : Nrm w vc C) (hA : A < M.W) (hB : B < M.W) (hC : C < M.W) :
    Calls Saag.prog 21 #[.int .u8 27, va, vb, vc] w fun e w' => ∃ v, e = .returned v ∧ Nrm w' v (B * 2 ^ cnt A % M.W) ∧ Below w.heap.size w w' := by
  have na := ha.num (M.lt100_lt hA)
  have nb := hb.num (M.lt100_lt hB)
  have nc := hc.num (M.lt100_lt hC)
  go_enter Saag.func21, Saag.ntmps21
  go_wp2_with fail
  refine (shifted_shl na hb hB).mono ?_
  rintro e w1 ⟨v1, rfl, hv1, hb1⟩
  go_wp2
  go_ret
  exact ⟨_, rfl, hv1, hb1⟩

set_option maxRecDepth 10000 in
set_option maxHeartbeats 1000000 in
theorem alu_28 {va vb vc : Value} {A B C : Nat} {w : World} (ha : Nrm w va A) (hb : Nrm w vb B) (hc : Nrm w vc C) (hA : A < M.W) (hB : B < M.W) (hC : C < M.W) :
    Calls Saag.prog 21 #[.int .u8 28, va, vb, vc] w fun e w' => ∃ v, e = .returned v ∧ Nrm w' v (B / 2 ^ cnt A) ∧ Below w.heap.size w w' := by
  have na := ha.num (M.lt100_lt hA)
  have nb := hb.num (M.lt100_lt hB)
  have nc := hc.num (M.lt100_lt hC)
  go_enter Saag.func21, Saag.ntmps21
  go_wp2_with fail
  refine (shifted_shr na hb hB).mono ?_
  rintro e w1 ⟨v1, rfl, hv1, hb1⟩
  go_wp2
  go_ret
  exact ⟨_, rfl, hv1, hb1⟩

set_option maxRecDepth 10000 in
set_option maxHeartbeats 1000000 in
theorem alu_29 {va vb vc : Value} {A B C : Nat} {w : World} (ha : Nrm w va A) (hb : Nrm w vb B) (hc : Nrm w vc C) (hA : A < M.W) (hB : B < M.W) (hC : C < M.W) :
    Calls Saag.prog 21 #[.int .u8 29, va, vb, vc] w fun e w' => ∃ v, e = .returned v ∧ Nrm w' v (sarN A B) ∧ Below w.heap.size w w' := by
  have na := ha.num (M.lt100_lt hA)
  have nb := hb.num (M.lt100_lt hB)
  have nc := hc.num (M.lt100_lt hC)
  go_enter Saag.func21, Saag.ntmps21
  go_wp2_with fail
  refine (shifted_sar na hb hB).mono ?_
  rintro e w1 ⟨v1, rfl, hv1, hb1⟩
  go_wp2
  go_ret
  exact ⟨_, rfl, hv1, hb1⟩

set_option maxRecDepth 10000 in
set_option maxHeartbeats 1000000 in
theorem alu_other {va vb vc : Value} {w : World} (o : Nat) (h1 : o ≠ 1) (h2 : o ≠ 2) (h3 : o ≠ 3) (h4 : o ≠ 4) (h5 : o ≠ 5) (h6 : o ≠ 6) (h7 : o ≠ 7) (h8 : o ≠ 8) (h9 : o ≠ 9) (h10 : o ≠ 10) (h11 : o ≠ 11) (h16 : o ≠ 16) (h17 : o ≠ 17) (h18 : o ≠ 18) (h19 : o ≠ 19) (h20 : o ≠ 20) (h21 : o ≠ 21) (h22 : o ≠ 22) (h23 : o ≠ 23) (h24 : o ≠ 24) (h25 : o ≠ 25) (h26 : o ≠ 26) (h27 : o ≠ 27) (h28 : o ≠ 28) (h29 : o ≠ 29) :
    Calls Saag.prog 21 #[.int .u8 (o : Int), va, vb, vc] w fun e w' => ∃ v, e = .returned v ∧ Nrm w' v 0 ∧ Below w.heap.size w w' := by
  have g1 : (((o : Nat) : Int) == 1) = false := by simp; omega
  have g2 : (((o : Nat) : Int) == 2) = false := by simp; omega
  have g3 : (((o : Nat) : Int) == 3) = false := by simp; omega
  have g4 : (((o : Nat) : Int) == 4) = false := by simp; omega
  have g5 : (((o : Nat) : Int) == 5) = false := by simp; omega
  have g6 : (((o : Nat) : Int) == 6) = false := by simp; omega
  have g7 : (((o : Nat) : Int) == 7) = false := by simp; omega
  have g8 : (((o : Nat) : Int) == 8) = false := by simp; omega
  have g9 : (((o : Nat) : Int) == 9) = false := by simp; omega
  have g10 : (((o : Nat) : Int) == 10) = false := by simp; omega
  have g11 : (((o : Nat) : Int) == 11) = false := by simp; omega
  have g16 : (((o : Nat) : Int) == 16) = false := by simp; omega
  have g17 : (((o : Nat) : Int) == 17) = false := by simp; omega
  have g18 : (((o : Nat) : Int) == 18) = false := by simp; omega
  have g19 : (((o : Nat) : Int) == 19) = false := by simp; omega
  have g20 : (((o : Nat) : Int) == 20) = false := by simp; omega
  have g21 : (((o : Nat) : Int) == 21) = false := by simp; omega
  have g22 : (((o : Nat) : Int) == 22) = false := by simp; omega
  have g23 : (((o : Nat) : Int) == 23) = false := by simp; omega
  have g24 : (((o : Nat) : Int) == 24) = false := by simp; omega
  have g25 : (((o : Nat) : Int) == 25) = false := by simp; omega
  have g26 : (((o : Nat) : Int) == 26) = false := by simp; omega
  have g27 : (((o : Nat) : Int) == 27) = false := by simp; omega
  have g28 : (((o : Nat) : Int) == 28) = false := by simp; omega
  have g29 : (((o : Nat) : Int) == 29) = false := by simp; omega
  clear h1 h2 h3 h4 h5 h6 h7 h8 h9 h10 h11 h16 h17 h18 h19 h20 h21 h22 h23 h24 h25 h26 h27 h28 h29
  go_enter Saag.func21, Saag.ntmps21
  go_wp2
  go_ret
  exact ⟨_, rfl, Nrm.nil _, Below.refl _ _⟩

/-- What Alu answers. -/
def aluN (o A B C : Nat) : Nat :=
  if o = 1 then (A + B) % M.W else
  if o = 2 then A * B % M.W else
  if o = 3 then (A + (M.W - B) % M.W) % M.W else
  if o = 4 then A / B else
  if o = 5 then sgn (mag A / mag B) (A.testBit 255 != B.testBit 255) else
  if o = 6 then modz A B else
  if o = 7 then sgn (modz (mag A) (mag B)) (A.testBit 255) else
  if o = 8 then modz (A + B) C else
  if o = 9 then modz (A * B) C else
  if o = 10 then A ^ B % M.W else
  if o = 11 then sextN A B else
  if o = 16 then tv (decide (A < B)) else
  if o = 17 then tv (decide (B < A)) else
  if o = 18 then tv (sltN A B) else
  if o = 19 then tv (sltN B A) else
  if o = 20 then tv (decide (A = B)) else
  if o = 21 then tv (decide (A = 0)) else
  if o = 22 then A &&& B else
  if o = 23 then A ||| B else
  if o = 24 then A ^^^ B else
  if o = 25 then M.W - 1 - A else
  if o = 26 then byteN A B else
  if o = 27 then B * 2 ^ cnt A % M.W else
  if o = 28 then B / 2 ^ cnt A else
  if o = 29 then sarN A B else
  0

theorem alu_num {va vb vc : Value} {A B C : Nat} {w : World} (o : Nat) (ha : Nrm w va A) (hb : Nrm w vb B) (hc : Nrm w vc C) (hA : A < M.W) (hB : B < M.W) (hC : C < M.W) :
    Calls Saag.prog 21 #[.int .u8 (o : Int), va, vb, vc] w fun e w' => ∃ v, e = .returned v ∧ Nrm w' v (aluN o A B C) ∧ Below w.heap.size w w' := by
  by_cases h1 : o = 1
  · subst h1; exact alu_1 ha hb hc hA hB hC
  by_cases h2 : o = 2
  · subst h2; exact alu_2 ha hb hc hA hB hC
  by_cases h3 : o = 3
  · subst h3; exact alu_3 ha hb hc hA hB hC
  by_cases h4 : o = 4
  · subst h4; exact alu_4 ha hb hc hA hB hC
  by_cases h5 : o = 5
  · subst h5; exact alu_5 ha hb hc hA hB hC
  by_cases h6 : o = 6
  · subst h6; exact alu_6 ha hb hc hA hB hC
  by_cases h7 : o = 7
  · subst h7; exact alu_7 ha hb hc hA hB hC
  by_cases h8 : o = 8
  · subst h8; exact alu_8 ha hb hc hA hB hC
  by_cases h9 : o = 9
  · subst h9; exact alu_9 ha hb hc hA hB hC
  by_cases h10 : o = 10
  · subst h10; exact alu_10 ha hb hc hA hB hC
  by_cases h11 : o = 11
  · subst h11; exact alu_11 ha hb hc hA hB hC
  by_cases h16 : o = 16
  · subst h16; exact alu_16 ha hb hc hA hB hC
  by_cases h17 : o = 17
  · subst h17; exact alu_17 ha hb hc hA hB hC
  by_cases h18 : o = 18
  · subst h18; exact alu_18 ha hb hc hA hB hC
  by_cases h19 : o = 19
  · subst h19; exact alu_19 ha hb hc hA hB hC
  by_cases h20 : o = 20
  · subst h20; exact alu_20 ha hb hc hA hB hC
  by_cases h21 : o = 21
  · subst h21; exact alu_21 ha hb hc hA hB hC
  by_cases h22 : o = 22
  · subst h22; exact alu_22 ha hb hc hA hB hC
  by_cases h23 : o = 23
  · subst h23; exact alu_23 ha hb hc hA hB hC
  by_cases h24 : o = 24
  · subst h24; exact alu_24 ha hb hc hA hB hC
  by_cases h25 : o = 25
  · subst h25; exact alu_25 ha hb hc hA hB hC
  by_cases h26 : o = 26
  · subst h26; exact alu_26 ha hb hc hA hB hC
  by_cases h27 : o = 27
  · subst h27; exact alu_27 ha hb hc hA hB hC
  by_cases h28 : o = 28
  · subst h28; exact alu_28 ha hb hc hA hB hC
  by_cases h29 : o = 29
  · subst h29; exact alu_29 ha hb hc hA hB hC
  have e : aluN o A B C = 0 := by simp [aluN, h1, h2, h3, h4, h5, h6, h7, h8, h9, h10, h11, h16, h17, h18, h19, h20, h21, h22, h23, h24, h25, h26, h27, h28, h29]
  rw [e]
  exact alu_other o h1 h2 h3 h4 h5 h6 h7 h8 h9 h10 h11 h16 h17 h18 h19 h20 h21 h22 h23 h24 h25 h26 h27 h28 h29

end Go.Proofs.Ygcsaa
