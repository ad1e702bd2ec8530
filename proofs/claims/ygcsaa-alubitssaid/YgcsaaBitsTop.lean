import Derived.Test.YgcsaaBitsN
import Derived.Deep.RegionHeld3
namespace Go.Proofs.Ygcsaa
open Go.RowKit
set_option linter.unusedSimpArgs false
set_option linter.unusedVariables false

theorem yieldsIf_load60 {ops : Array Oper} {W : World} {o : Oper} {a : Act} (hw : Region.wanted o (yielded ops a.tmps) = true) (x : Operand) (ho : o.op = .load 60 x) (g : Nat) (hx : a.eval x = .pointer (some ⟨g, 0, none⟩))
    (xs : List Nat) (hl : xs.length = 32) (hb : Bx W g xs) : YieldsIf Saag.prog ops (fun w' => Below W.heap.size W w') o (.agg (cellsOf xs)) a := by
  refine .inl ⟨hw, fun w hC => ?_⟩
  have hb' : Bx w g xs := hb.later hC
  unfold execOp
  simp only [ho, hx, Instr.loadAt, Instr.sureAddr, Sem.run_bind, Sem.run_pure, Result.andThen_ok, run_loadVar_row w g 60 60 (cellsOf xs) (0, 0) _ hb' Saag.underlying60 rfl (by rw [Saag.info60, cellsOf_size, hl])]

set_option maxRecDepth 10000 in
set_option maxHeartbeats 4000000 in
theorem aluBits_any (o : Nat) (xs ys : List Nat) (i : Nat) (hi : i ≤ 255) (w : World) (hx : xs.length = 32) (hy : ys.length = 32) (dx : M.Dig xs) (dy : M.Dig ys) :
    Calls Saag.prog 8 #[.int .u8 (o : Int), .agg (cellsOf xs), .agg (cellsOf ys), .int .u8 (i : Int)] w fun e w' => e = .returned (.bool true) ∧ Below w.heap.size w w' := by
  obtain ⟨b1, b2, hB0⟩ := two_bx xs ys w
  obtain ⟨r1, r2, _⟩ := two_boxes xs ys w
  have B1 := hide b1
  have B2 := hide b2
  have R1 := hide r1
  have R2 := hide r2
  have HB0 := hide hB0
  have HX := hide hx
  have HY := hide hy
  clear b1 b2 r1 r2 hB0 hx hy
  go_enter Saag.func8, Saag.ntmps8
  go_wp2_with fail
  generalize (w.alloc (Obj.cells (cellsOf xs) 60)).alloc (Obj.cells (cellsOf ys) 60) = W0 at *
  have hS0 : Below W0.heap.size W0 W0.drew := below_drewN W0 1
  refine wp_region_held_drew (S := fun w' => Below W0.heap.size W0 w') (by kernel_rfl) hS0 (fun _ => ?_)
  refine wpAnyH_take (i := 0) (v := .int .u8 (o : Int)) rfl (by kernel_rfl) (by kernel_rfl) (by kernel_rfl) (fun _ _ _ h => h) (Or.inl ⟨by rfl, ?_⟩) (by assumption) ?_
  · intro w1 hw1
    go_simp
    try rfl
  try simp only [Act.put, List.setIfInBounds_toArray, List.set_cons_zero, List.set_cons_succ]
  refine wpAnyH_take (i := 1) rfl (by kernel_rfl) (by kernel_rfl) (by kernel_rfl) (fun _ _ _ h => h) (yieldsIf_load60 (by rfl) _ rfl _ rfl xs (unhide HX) (unhide B1)) (by assumption) ?_
  try simp only [Act.put, List.setIfInBounds_toArray, List.set_cons_zero, List.set_cons_succ]
  refine wpAnyH_take (i := 2) rfl (by kernel_rfl) (by kernel_rfl) (by kernel_rfl) (fun _ _ _ h => h) (yieldsIf_load60 (by rfl) _ rfl _ rfl ys (unhide HY) (unhide B2)) (by assumption) ?_
  try simp only [Act.put, List.setIfInBounds_toArray, List.set_cons_zero, List.set_cons_succ]
  refine wpAnyH_take (i := 3) (v := .int .u8 (i : Int)) rfl (by kernel_rfl) (by kernel_rfl) (by kernel_rfl) (fun _ _ _ h => h) (Or.inl ⟨by rfl, ?_⟩) (by assumption) ?_
  · intro w1 hw1
    go_simp
    try rfl
  try simp only [Act.put, List.setIfInBounds_toArray, List.set_cons_zero, List.set_cons_succ]
  refine wpAnyH_take (i := 4) (v := .int .u8 (o : Int)) rfl (by kernel_rfl) (by kernel_rfl) (by kernel_rfl) (fun _ _ _ h => h) (Or.inl ⟨by rfl, ?_⟩) (by assumption) ?_
  · intro w1 hw1
    go_simp
    try rfl
  try simp only [Act.put, List.setIfInBounds_toArray, List.set_cons_zero, List.set_cons_succ]
  refine wpAnyH_take (i := 5) (v := .slice (some ⟨w.heap.size, 0, none⟩) 32 32) rfl (by kernel_rfl) (by kernel_rfl) (by kernel_rfl) (fun _ _ _ h => h) (Or.inl ⟨by rfl, ?_⟩) (by assumption) ?_
  · intro w1 hw1
    go_simp
    try rfl
  try simp only [Act.put, List.setIfInBounds_toArray, List.set_cons_zero, List.set_cons_succ]
  refine wpAnyH_take (i := 7) (v := .slice (some ⟨w.heap.size + 1, 0, none⟩) 32 32) rfl (by kernel_rfl) (by kernel_rfl) (by kernel_rfl) (fun _ _ _ h => h) (Or.inl ⟨by rfl, ?_⟩) (by assumption) ?_
  · intro w1 hw1
    go_simp
    try rfl
  try simp only [Act.put, List.setIfInBounds_toArray, List.set_cons_zero, List.set_cons_succ]
  refine wpAnyH_ready (rs := [6]) (by kernel_rfl) (by simp) ?_
  refine AllReadyH.cons rfl (fun K hK => ?_) AllReadyH.nil
  go_simp
  refine (fromBE_any _ 32 32 xs _ (unhide HX) (by omega) (by omega) dx ((unhide R1).below hS0 (Nat.le_refl _))).mono ?_
  rintro e w1 ⟨v1, rfl, n1, hb1⟩
  refine hK.out _ _ (bstep hS0 hb1) (fun _ => ?_)
  clear hK K
  try simp only [Act.put, List.setIfInBounds_toArray, List.set_cons_zero, List.set_cons_succ]
  have hS1 := bstep hS0 hb1
  refine wpAnyH_ready (rs := [8]) (by kernel_rfl) (by simp) ?_
  refine AllReadyH.cons rfl (fun K hK => ?_) AllReadyH.nil
  go_simp
  refine (fromBE_any _ 32 32 ys _ (unhide HY) (by omega) (by omega) dy ((unhide R2).below hS1 (Nat.le_refl _))).mono ?_
  rintro e w2 ⟨v2, rfl, n2, hb2⟩
  refine hK.out _ _ (bstep hS1 hb2) (fun _ => ?_)
  clear hK K
  try simp only [Act.put, List.setIfInBounds_toArray, List.set_cons_zero, List.set_cons_succ]
  have hS2 := bstep hS1 hb2
  refine wpAnyH_ready (rs := [9]) (by kernel_rfl) (by simp) ?_
  refine AllReadyH.cons rfl (fun K hK => ?_) AllReadyH.nil
  go_simp
  refine (alu_num o (n1.later hb2) n2 (Nrm.nil _) (be_lt (unhide HX) dx) (be_lt (unhide HY) dy) M.W_pos).mono ?_
  rintro e w3 ⟨v3, rfl, n3, hb3⟩
  refine hK.out _ _ (bstep hS2 hb3) (fun _ => ?_)
  clear hK K
  try simp only [Act.put, List.setIfInBounds_toArray, List.set_cons_zero, List.set_cons_succ]
  have hS3 := bstep hS2 hb3
  refine wpAnyH_ready (rs := [10]) (by kernel_rfl) (by simp) ?_
  refine AllReadyH.cons rfl (fun K hK => ?_) AllReadyH.nil
  go_simp
  refine (bits_num xs ys (unhide HX) (unhide HY) dx dy o i hi n3).mono ?_
  rintro e w4 ⟨rfl, hb4⟩
  refine hK.out _ _ (bstep hS3 hb4) (fun _ => ?_)
  clear hK K
  try simp only [Act.put, List.setIfInBounds_toArray, List.set_cons_zero, List.set_cons_succ]
  have hS4 := bstep hS3 hb4
  refine wpAnyH_ready (rs := [11]) (by kernel_rfl) (by simp) ?_
  refine AllReadyH.cons rfl (fun K hK => ?_) AllReadyH.nil
  go_simp
  refine hK.out _ _ hS4 (fun _ => ?_)
  refine wpAnyH_done (by kernel_rfl) ?_ _
  have hB4 := bstep (unhide HB0) hS4
  go_wp2
  go_ret
  exact ⟨rfl, hB4⟩

end Go.Proofs.Ygcsaa
