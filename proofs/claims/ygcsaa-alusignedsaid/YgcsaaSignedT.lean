import Derived.Test.YgcsaaSignedH
namespace Go.Proofs.Ygcsaa
open Go.RowKit
set_option linter.unusedSimpArgs false
set_option linter.unusedVariables false

theorem signedHolds_num {vx vy vq vr : Value} {X Y : Nat} {w : World} (hx : Nrm w vx X) (hy : Nrm w vy Y) (hX : X < M.W) (hY : Y < M.W)
    (hq : Nrm w vq (sgn (mag X / mag Y) (X.testBit 255 != Y.testBit 255))) (hr : Nrm w vr (sgn (modz (mag X) (mag Y)) (X.testBit 255))) :
    Calls Saag.prog 22 #[vx, vy, vq, vr] w fun e w' => e = .returned (.bool true) ∧ Below w.heap.size w w' := by
  by_cases hY0 : Y = 0
  · subst hY0
    have e0 : mag 0 = 0 := by
      unfold mag
      rw [Nat.zero_testBit]
      rfl
    have e1 : ∀ b, sgn 0 b = 0 := by
      intro b
      cases b
      · rfl
      · exact sgn_true_zero
    have e2 : modz (mag X) 0 = 0 := if_pos rfl
    rw [e0, Nat.div_zero, e1] at hq
    rw [e0, e2, e1] at hr
    exact signedHolds_zero hx hy hq hr
  · obtain ⟨f1, f2, f3, f4, f5⟩ := signed_facts X Y hX hY hY0 _ _ rfl rfl
    exact signedHolds_pos hx hy hq hr hX hY (sgn_lt (div_le_W (mag_lt hX)) _) (sgn_lt (modz_lt_W (mag_lt hX)) _) hY0 f1 f2 f3 f4 f5

set_option maxRecDepth 10000 in
set_option maxHeartbeats 1000000 in
theorem aluSigned_any (xs ys : List Nat) (w : World) (hx : xs.length = 32) (hy : ys.length = 32) (dx : M.Dig xs) (dy : M.Dig ys) :
    Calls Saag.prog 6 #[.agg (cellsOf xs), .agg (cellsOf ys)] w fun e w' => e = .returned (.bool true) ∧ Below w.heap.size w w' := by
  have hX := be_lt hx dx
  have hY := be_lt hy dy
  have HX := hide hx
  have HY := hide hy
  clear hx hy
  go_enter Saag.func6, Saag.ntmps6
  go_wp2_with fail
  have r1 : Row ((w.alloc (Obj.cells (cellsOf xs) 60)).alloc (Obj.cells (cellsOf ys) 60)) (some ⟨w.heap.size, 0, none⟩) xs := (row_box w xs 60).below (below_alloc _ _) (Nat.le_refl _)
  have r2 : Row ((w.alloc (Obj.cells (cellsOf xs) 60)).alloc (Obj.cells (cellsOf ys) 60)) (some ⟨w.heap.size + 1, 0, none⟩) ys := by
    have := row_box (w.alloc (Obj.cells (cellsOf xs) 60)) ys 60
    simpa using this
  have hB0 : Below w.heap.size w ((w.alloc (Obj.cells (cellsOf xs) 60)).alloc (Obj.cells (cellsOf ys) 60)) := bstep (below_alloc _ _) (below_alloc _ _)
  generalize (w.alloc (Obj.cells (cellsOf xs) 60)).alloc (Obj.cells (cellsOf ys) 60) = w0 at *
  refine (fromBE_any (some ⟨w.heap.size, 0, none⟩) 32 32 xs w0 (unhide HX) (by omega) (by omega) dx r1).mono ?_
  rintro e w1 ⟨vx, rfl, hx1, hb1⟩
  have hB1 := bstep hB0 hb1
  have r2' := r2.below hb1 (Nat.le_refl _)
  clear r1 r2 hB0
  generalize M.val xs.reverse = X at *
  go_wp2_with fail
  refine (fromBE_any (some ⟨w.heap.size + 1, 0, none⟩) 32 32 ys w1 (unhide HY) (by omega) (by omega) dy r2').mono ?_
  rintro e w2 ⟨vy, rfl, hy2, hb2⟩
  have hB2 := bstep hB1 hb2
  have hx2 := hx1.later hb2
  clear r2' hB1 hx1 hb1 hb2
  generalize M.val ys.reverse = Y at *
  go_wp2_with fail
  refine (alu_5 hx2 hy2 (Nrm.nil w2) hX hY M.W_pos).mono ?_
  rintro e w3 ⟨vq, rfl, hq3, hb3⟩
  have hB3 := bstep hB2 hb3
  have hx3 := hx2.later hb3
  have hy3 := hy2.later hb3
  clear hB2 hx2 hy2 hb3
  go_wp2_with fail
  refine (alu_7 hx3 hy3 (Nrm.nil w3) hX hY M.W_pos).mono ?_
  rintro e w4 ⟨vr, rfl, hr4, hb4⟩
  have hB4 := bstep hB3 hb4
  go_wp2_with fail
  refine (signedHolds_num (hx3.later hb4) (hy3.later hb4) hX hY (hq3.later hb4) hr4).mono ?_
  rintro e w5 ⟨rfl, hb5⟩
  go_wp2
  go_ret
  exact ⟨rfl, bstep hB4 hb5⟩

end Go.Proofs.Ygcsaa
