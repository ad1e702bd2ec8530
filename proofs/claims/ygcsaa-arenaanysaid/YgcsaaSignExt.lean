import Derived.Test.YgcsaaShift3
namespace Go.Proofs.Ygcsaa
open Go.RowKit
set_option linter.unusedSimpArgs false
set_option linter.unusedVariables false

/-- B's low bits up to the sign bit 8A+7, that bit carried on to the top. -/
def sextN (A B : Nat) : Nat := if A < 31 then (if B.testBit (8 * A + 7) then B % 2 ^ (8 * A + 8) + (M.W - 2 ^ (8 * A + 8)) else B % 2 ^ (8 * A + 8)) else B

set_option maxRecDepth 10000 in
set_option maxHeartbeats 1000000 in
theorem signExtended_num {va vb : Value} {A B : Nat} {w : World} (ha : Num w va A) (hb : Nrm w vb B) (hB : B < M.W) :
    Calls Saag.prog 58 #[va, vb] w fun e w' => ∃ v, e = .returned v ∧ Nrm w' v (sextN A B) ∧ Below w.heap.size w w' := by
  have T1 := hide (u64_num ha)
  have hbn := hb.num (M.lt100_lt hB)
  by_cases h8 : A < 256 ^ 8
  · rw [if_pos h8, decide_eq_true h8] at T1
    have h8' : A < 18446744073709551616 := h8
    clear h8
    by_cases h31 : A < 31
    · have T2 := hide (fun w => pow2_any (8 * A + 8) w (by omega))
      have e1 : ((8 * A + 8 : Nat) : Int) = 8 * (A : Int) + 7 + 1 := by omega
      rw [e1] at T2
      have T3 : Hid (∀ w, Num w vb B → Calls Saag.prog 72 #[vb, .int .u16 (8 * (A : Int) + 7)] w fun e w' => e = .returned (.bool (B.testBit (8 * A + 7))) ∧ w = w') := by
        intro w h
        have := bit_num (8 * A + 7) h (by omega)
        have e2 : ((8 * A + 7 : Nat) : Int) = 8 * (A : Int) + 7 := by omega
        rwa [e2] at this
      have hP : 2 ^ (8 * A + 8) ≤ M.W := by rw [← M.W_eq]; exact Nat.pow_le_pow_right (by omega) (by omega)
      have hP0 : 0 < 2 ^ (8 * A + 8) := Nat.pow_pos (by omega)
      have Hs : Hid (sextN A B = if B.testBit (8 * A + 7) then B % 2 ^ (8 * A + 8) + (M.W - 2 ^ (8 * A + 8)) else B % 2 ^ (8 * A + 8)) := if_pos h31
      generalize hPe : 2 ^ (8 * A + 8) = P at *
      clear hPe e1
      have hlow : B % P < P := Nat.mod_lt _ hP0
      have hmz : modz B P = B % P := if_neg (by omega)
      have Hmz := hide hmz
      clear hmz
      go_enter Saag.func58, Saag.ntmps58
      go_wp2_with fail
      refine (unhide T1).mono ?_
      rintro e w' ⟨rfl, rfl⟩
      go_wp2_with fail
      refine (unhide T2 w).mono ?_
      rintro e w1 ⟨v1, rfl, hv1, hb1⟩
      go_wp2_with fail
      refine (divmod_num (hbn.later hb1) (hv1.num (M.lt100_le hP))).mono ?_
      rintro e w2 ⟨v2, v3, ok, rfl, hv2, hv3, hb2⟩
      rw [unhide Hmz] at hv3
      have hB2 := bstep hb1 hb2
      go_wp2_with fail
      refine (unhide T3 w2 (hbn.later hB2)).mono ?_
      rintro e w' ⟨rfl, rfl⟩
      cases hbit : B.testBit (8 * A + 7)
      · have Hs' : Hid (sextN A B = B % P) := by rw [unhide Hs, if_neg (by simp [hbit])]; exact rfl
        clear hbit
        go_wp2
        go_ret
        exact ⟨_, rfl, by rw [unhide Hs']; exact hv3, hB2⟩
      · have Hs' : Hid (sextN A B = B % P + (M.W - P)) := by rw [unhide Hs, if_pos hbit]; exact rfl
        clear hbit
        go_wp2_with fail
        refine (pow256_num w2).mono ?_
        rintro e w3 ⟨v4, rfl, hv4, hb3⟩
        have hB3 := bstep hB2 hb3
        have hl3 := hv3.later hb3
        go_wp2_with fail
        refine (unhide T2 w3).mono ?_
        rintro e w4 ⟨v5, rfl, hv5, hb4⟩
        have hB4 := bstep hB3 hb4
        have hl4 := hl3.later hb4
        have hv4' := hv4.later hb4
        go_wp2_with fail
        refine (sub_num (hv4'.num M.W_lt100) (hv5.num (M.lt100_le hP)) hP).mono ?_
        rintro e w5 ⟨v6, rfl, hv6, hb5⟩
        have hB5 := bstep hB4 hb5
        have hl5 := hl4.later hb5
        go_wp2_with fail
        refine (add_num (hl5.num (M.lt100_le (by omega))) (hv6.num (M.lt100_le (Nat.sub_le _ _)))).mono ?_
        rintro e w6 ⟨v7, rfl, hv7, hb6⟩
        go_wp2
        go_ret
        exact ⟨_, rfl, by rw [unhide Hs']; exact hv7, bstep hB5 hb6⟩
    · have Hs : Hid (sextN A B = B) := if_neg h31
      go_enter Saag.func58, Saag.ntmps58
      go_wp2_with fail
      refine (unhide T1).mono ?_
      rintro e w' ⟨rfl, rfl⟩
      go_wp2_with fail
      refine (norm_num hbn).mono ?_
      rintro e w1 ⟨v1, rfl, hv1, hb1⟩
      go_wp2
      go_ret
      exact ⟨_, rfl, by rw [unhide Hs]; exact hv1, hb1⟩
  · have Hs : Hid (sextN A B = B) := if_neg (by have := big8 A h8; omega)
    rw [if_neg h8, decide_eq_false h8] at T1
    clear h8
    go_enter Saag.func58, Saag.ntmps58
    go_wp2_with fail
    refine (unhide T1).mono ?_
    rintro e w' ⟨rfl, rfl⟩
    go_wp2_with fail
    refine (norm_num hbn).mono ?_
    rintro e w1 ⟨v1, rfl, hv1, hb1⟩
    go_wp2
    go_ret
    exact ⟨_, rfl, by rw [unhide Hs]; exact hv1, hb1⟩

end Go.Proofs.Ygcsaa
