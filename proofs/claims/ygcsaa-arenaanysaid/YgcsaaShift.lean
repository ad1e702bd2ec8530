import Derived.Test.YgcsaaBitwN
import Derived.Test.YgcsaaExp
namespace Go.Proofs.Ygcsaa
open Go.RowKit
set_option linter.unusedSimpArgs false
set_option linter.unusedVariables false

/-- A truth value as a number. -/
def tv (t : Bool) : Nat := if t then 1 else 0

set_option maxRecDepth 10000 in
set_option maxHeartbeats 400000 in
theorem truth_num (t : Bool) (w : World) : Calls Saag.prog 59 #[.bool t] w fun e w' => ∃ v, e = .returned v ∧ Nrm w' v (tv t) ∧ Below w.heap.size w w' := by
  cases t
  · go_enter Saag.func59, Saag.ntmps59
    go_wp2
    go_ret
    exact ⟨_, rfl, Nrm.nil _, Below.refl _ _⟩
  · go_enter Saag.func59, Saag.ntmps59
    go_wp2
    go_ret
    exact ⟨_, rfl, nrm_one w, below_alloc _ _⟩

/-- Signed comparison of two words. -/
def sltN (A B : Nat) : Bool := if A.testBit 255 != B.testBit 255 then A.testBit 255 else decide (A < B)

theorem cmpI_neg (A B : Nat) : decide (cmpI A B < 0) = decide (A < B) := by
  by_cases h : A < B
  · rw [cmpI_lt h]; simp [h]
  · by_cases h2 : B < A
    · rw [cmpI_gt h2]; simp [h]
    · rw [cmpI_eq (by omega)]; simp [h]
theorem cmpI_pos (A B : Nat) : decide (0 < cmpI A B) = decide (B < A) := by
  by_cases h : A < B
  · have : ¬ B < A := by omega
    rw [cmpI_lt h]; simp [this]
  · by_cases h2 : B < A
    · rw [cmpI_gt h2]; simp [h2]
    · rw [cmpI_eq (by omega)]; simp [h2]
theorem cmpI_zero (A B : Nat) : (cmpI A B == 0) = decide (A = B) := by
  by_cases h : A < B
  · have : ¬ A = B := by omega
    rw [cmpI_lt h]; simp [this]
  · by_cases h2 : B < A
    · have : ¬ A = B := by omega
      rw [cmpI_gt h2]; simp [this]
    · rw [cmpI_eq (by omega)]; simp; omega

set_option maxRecDepth 10000 in
set_option maxHeartbeats 400000 in
theorem signedBelow_num {va vb : Value} {A B : Nat} {w : World} (ha : Num w va A) (hb : Num w vb B) :
    Calls Saag.prog 60 #[va, vb] w fun e w' => e = .returned (.bool (sltN A B)) ∧ Below w.heap.size w w' := by
  have T1 := hide (isNegative_num ha)
  have T2 := hide (isNegative_num hb)
  have T3 := hide (cmp_num ha hb)
  have Hz := hide (cmpI_neg A B)
  have Hs : Hid (sltN A B = if A.testBit 255 != B.testBit 255 then A.testBit 255 else decide (A < B)) := rfl
  generalize A.testBit 255 = p at *
  generalize B.testBit 255 = q at *
  generalize sltN A B = r at *
  cases p <;> cases q
  all_goals
    go_enter Saag.func60, Saag.ntmps60
    go_wp2_with fail
    refine (unhide T1).mono ?_
    rintro e w' ⟨rfl, rfl⟩
    go_wp2_with fail
    refine (unhide T2).mono ?_
    rintro e w' ⟨rfl, rfl⟩
    go_wp2_with fail
    first
      | (refine (unhide T3).mono ?_
         rintro e w1 ⟨rfl, hb1⟩
         go_wp2
         go_ret
         exact ⟨by rw [unhide Hs, ← unhide Hz]; rfl, hb1⟩)
      | (refine (unhide T1).mono ?_
         rintro e w' ⟨rfl, rfl⟩
         go_wp2
         go_ret
         exact ⟨by rw [unhide Hs]; rfl, Below.refl _ _⟩)

end Go.Proofs.Ygcsaa
