import Derived.Test.YgcsaaZero
namespace Go.Proofs.Ygcsaa
open Go.RowKit
set_option linter.unusedSimpArgs false
set_option linter.unusedVariables false

set_option maxRecDepth 10000 in
set_option maxHeartbeats 1000000 in
theorem compared_21 (xs ys : List Nat) (hx : xs.length = 32) (hy : ys.length = 32) (dx : M.Dig xs) (dy : M.Dig ys) (w : World) :
    Calls Saag.prog 71 #[.int .u8 21, .agg (cellsOf xs), .agg (cellsOf ys)] w fun e w' => e = .returned (.bool (decide (M.val xs.reverse = 0))) ∧ Below w.heap.size w w' := by
  obtain ⟨r1, r2, hB0⟩ := two_boxes xs ys w
  have r1' := r1.below (below_alloc _ (Obj.cells (cellsOf Z32) 60)) (Nat.le_refl _)
  have r3 : Row (((w.alloc (Obj.cells (cellsOf xs) 60)).alloc (Obj.cells (cellsOf ys) 60)).alloc (Obj.cells (cellsOf Z32) 60)) (some ⟨w.heap.size + 1 + 1, 0, none⟩) Z32 := by
    have := row_box ((w.alloc (Obj.cells (cellsOf xs) 60)).alloc (Obj.cells (cellsOf ys) 60)) Z32 60
    simpa using this
  have hB1 := bstep hB0 (below_alloc _ (Obj.cells (cellsOf Z32) 60))
  have T := hide (fun q => quiet_same (n := q) (equalBytes_any (w := (((w.alloc (Obj.cells (cellsOf xs) 60)).alloc (Obj.cells (cellsOf ys) 60)).alloc (Obj.cells (cellsOf Z32) 60)).drewN q) (rd32 hx dx r1') (rd32 Z32_len Z32_dig r3)))
  have e0 : decide (xs = Z32) = decide (M.val xs.reverse = 0) := be_zero hx dx
  rw [e0] at T
  have HB1 := hide hB1
  clear r1 r1' r3 r2 hB0 hB1 e0 hx hy
  go_enter Saag.func71, Saag.ntmps71
  go_wp2_with (first
    | (refine wpList_zero60 rfl rfl ?_)
    | (refine wpList_alloc60 rfl rfl ?_)
    | (refine wpList_store60 rfl _ _ rfl Z32 Z32_len _ rfl rfl (by simp) ?_))
  go_quiet ((go_at_call 51; exact unhide T _))
  go_wp2
  go_ret
  exact ⟨rfl, bdrew (unhide HB1) _⟩

end Go.Proofs.Ygcsaa
