import Derived.Test.YgcsaaAlu
namespace Go.Proofs.Ygcsaa
open Go.RowKit
set_option linter.unusedSimpArgs false
set_option linter.unusedVariables false

theorem sub_mod_W (A B : Nat) : (A + (M.W - B) % M.W) % M.W = (A + (M.W - B)) % M.W := by simp [Nat.add_mod]

set_option maxRecDepth 10000 in
set_option maxHeartbeats 1000000 in
theorem ring_1 {va vb vc vg : Value} {A B C : Nat} {w : World} (ha : Nrm w va A) (hb : Nrm w vb B) (hc : Nrm w vc C) (hg : Nrm w vg ((A + B) % M.W)) (hA : A < M.W) (hB : B < M.W) (hC : C < M.W) :
    Calls Saag.prog 20 #[.int .u8 1, va, vb, vc, vg] w fun e w' => e = .returned (.bool true) ∧ Below w.heap.size w w' := by
  have na := ha.num (M.lt100_lt hA)
  have nb := hb.num (M.lt100_lt hB)
  have nc := hc.num (M.lt100_lt hC)
  go_enter Saag.func20, Saag.ntmps20
  go_wp2_with fail
  refine (add_num na nb).mono ?_
  rintro e w1 ⟨v1, rfl, hv1, hb1⟩
  go_wp2_with fail
  refine (modPow_num (hv1.num (M.lt100_add (Nat.le_of_lt hA) (Nat.le_of_lt hB)))).mono ?_
  rintro e w2 ⟨v2, rfl, hv2, hb2⟩
  have hBB := bstep hb1 hb2
  go_wp2_with fail
  refine (equalBytes_nrm (hg.later hBB) hv2).mono ?_
  rintro e w' ⟨rfl, rfl⟩
  rw [decide_eq_true (rfl)]
  go_wp2
  go_ret
  exact ⟨rfl, hBB⟩

set_option maxRecDepth 10000 in
set_option maxHeartbeats 1000000 in
theorem ring_2 {va vb vc vg : Value} {A B C : Nat} {w : World} (ha : Nrm w va A) (hb : Nrm w vb B) (hc : Nrm w vc C) (hg : Nrm w vg (A * B % M.W)) (hA : A < M.W) (hB : B < M.W) (hC : C < M.W) :
    Calls Saag.prog 20 #[.int .u8 2, va, vb, vc, vg] w fun e w' => e = .returned (.bool true) ∧ Below w.heap.size w w' := by
  have na := ha.num (M.lt100_lt hA)
  have nb := hb.num (M.lt100_lt hB)
  have nc := hc.num (M.lt100_lt hC)
  go_enter Saag.func20, Saag.ntmps20
  go_wp2_with fail
  refine (mul_num na nb).mono ?_
  rintro e w1 ⟨v1, rfl, hv1, hb1⟩
  go_wp2_with fail
  refine (modPow_num (hv1.num (M.lt100_mul (Nat.le_of_lt hA) (Nat.le_of_lt hB)))).mono ?_
  rintro e w2 ⟨v2, rfl, hv2, hb2⟩
  have hBB := bstep hb1 hb2
  go_wp2_with fail
  refine (equalBytes_nrm (hg.later hBB) hv2).mono ?_
  rintro e w' ⟨rfl, rfl⟩
  rw [decide_eq_true (rfl)]
  go_wp2
  go_ret
  exact ⟨rfl, hBB⟩

set_option maxRecDepth 10000 in
set_option maxHeartbeats 1000000 in
theorem ring_3 {va vb vc vg : Value} {A B C : Nat} {w : World} (ha : Nrm w va A) (hb : Nrm w vb B) (hc : Nrm w vc C) (hg : Nrm w vg ((A + (M.W - B) % M.W) % M.W)) (hA : A < M.W) (hB : B < M.W) (hC : C < M.W) :
    Calls Saag.prog 20 #[.int .u8 3, va, vb, vc, vg] w fun e w' => e = .returned (.bool true) ∧ Below w.heap.size w w' := by
  have na := ha.num (M.lt100_lt hA)
  have nb := hb.num (M.lt100_lt hB)
  have nc := hc.num (M.lt100_lt hC)
  go_enter Saag.func20, Saag.ntmps20
  go_wp2_with fail
  refine (lessThanAll_num nb (Nat.le_of_lt hB)).mono ?_
  rintro e w1 ⟨v1, rfl, hv1, hb1⟩
  go_wp2_with fail
  refine (add_num (na.later hb1) (hv1.num (M.lt100_le (Nat.sub_le _ _)))).mono ?_
  rintro e w2 ⟨v2, rfl, hv2, hb2⟩
  go_wp2_with fail
  refine (modPow_num (hv2.num (M.lt100_add (Nat.le_of_lt hA) (Nat.sub_le _ _)))).mono ?_
  rintro e w3 ⟨v3, rfl, hv3, hb3⟩
  have hBB := bstep (bstep hb1 hb2) hb3
  go_wp2_with fail
  refine (equalBytes_nrm (hg.later hBB) hv3).mono ?_
  rintro e w' ⟨rfl, rfl⟩
  rw [decide_eq_true (sub_mod_W A B)]
  go_wp2
  go_ret
  exact ⟨rfl, hBB⟩

set_option maxRecDepth 10000 in
set_option maxHeartbeats 1000000 in
theorem ring_4 {va vb vc vg : Value} {A B C : Nat} {w : World} (ha : Nrm w va A) (hb : Nrm w vb B) (hc : Nrm w vc C) (hg : Nrm w vg (A / B)) (hA : A < M.W) (hB : B < M.W) (hC : C < M.W) :
    Calls Saag.prog 20 #[.int .u8 4, va, vb, vc, vg] w fun e w' => e = .returned (.bool true) ∧ Below w.heap.size w w' := by
  have na := ha.num (M.lt100_lt hA)
  have nb := hb.num (M.lt100_lt hB)
  have nc := hc.num (M.lt100_lt hC)
  go_enter Saag.func20, Saag.ntmps20
  go_wp2_with fail
  refine (divmod_num na nb).mono ?_
  rintro e w2 ⟨q, r, ok, rfl, hq, hr, hb2⟩
  have hBB := hb2
  go_wp2_with fail
  refine (equalBytes_nrm (hg.later hBB) hq).mono ?_
  rintro e w' ⟨rfl, rfl⟩
  rw [decide_eq_true (rfl)]
  go_wp2
  go_ret
  exact ⟨rfl, hBB⟩

set_option maxRecDepth 10000 in
set_option maxHeartbeats 1000000 in
theorem ring_6 {va vb vc vg : Value} {A B C : Nat} {w : World} (ha : Nrm w va A) (hb : Nrm w vb B) (hc : Nrm w vc C) (hg : Nrm w vg (modz A B)) (hA : A < M.W) (hB : B < M.W) (hC : C < M.W) :
    Calls Saag.prog 20 #[.int .u8 6, va, vb, vc, vg] w fun e w' => e = .returned (.bool true) ∧ Below w.heap.size w w' := by
  have na := ha.num (M.lt100_lt hA)
  have nb := hb.num (M.lt100_lt hB)
  have nc := hc.num (M.lt100_lt hC)
  go_enter Saag.func20, Saag.ntmps20
  go_wp2_with fail
  refine (divmod_num na nb).mono ?_
  rintro e w2 ⟨q, r, ok, rfl, hq, hr, hb2⟩
  have hBB := hb2
  go_wp2_with fail
  refine (equalBytes_nrm (hg.later hBB) hr).mono ?_
  rintro e w' ⟨rfl, rfl⟩
  rw [decide_eq_true (rfl)]
  go_wp2
  go_ret
  exact ⟨rfl, hBB⟩

set_option maxRecDepth 10000 in
set_option maxHeartbeats 1000000 in
theorem ring_8 {va vb vc vg : Value} {A B C : Nat} {w : World} (ha : Nrm w va A) (hb : Nrm w vb B) (hc : Nrm w vc C) (hg : Nrm w vg (modz (A + B) C)) (hA : A < M.W) (hB : B < M.W) (hC : C < M.W) :
    Calls Saag.prog 20 #[.int .u8 8, va, vb, vc, vg] w fun e w' => e = .returned (.bool true) ∧ Below w.heap.size w w' := by
  have na := ha.num (M.lt100_lt hA)
  have nb := hb.num (M.lt100_lt hB)
  have nc := hc.num (M.lt100_lt hC)
  go_enter Saag.func20, Saag.ntmps20
  go_wp2_with fail
  refine (add_num na nb).mono ?_
  rintro e w1 ⟨v1, rfl, hv1, hb1⟩
  go_wp2_with fail
  refine (divmod_num (hv1.num (M.lt100_add (Nat.le_of_lt hA) (Nat.le_of_lt hB))) (nc.later hb1)).mono ?_
  rintro e w2 ⟨q, r, ok, rfl, hq, hr, hb2⟩
  have hBB := bstep hb1 hb2
  go_wp2_with fail
  refine (equalBytes_nrm (hg.later hBB) hr).mono ?_
  rintro e w' ⟨rfl, rfl⟩
  rw [decide_eq_true (rfl)]
  go_wp2
  go_ret
  exact ⟨rfl, hBB⟩

set_option maxRecDepth 10000 in
set_option maxHeartbeats 1000000 in
theorem ring_9 {va vb vc vg : Value} {A B C : Nat} {w : World} (ha : Nrm w va A) (hb : Nrm w vb B) (hc : Nrm w vc C) (hg : Nrm w vg (modz (A * B) C)) (hA : A < M.W) (hB : B < M.W) (hC : C < M.W) :
    Calls Saag.prog 20 #[.int .u8 9, va, vb, vc, vg] w fun e w' => e = .returned (.bool true) ∧ Below w.heap.size w w' := by
  have na := ha.num (M.lt100_lt hA)
  have nb := hb.num (M.lt100_lt hB)
  have nc := hc.num (M.lt100_lt hC)
  go_enter Saag.func20, Saag.ntmps20
  go_wp2_with fail
  refine (mul_num na nb).mono ?_
  rintro e w1 ⟨v1, rfl, hv1, hb1⟩
  go_wp2_with fail
  refine (divmod_num (hv1.num (M.lt100_mul (Nat.le_of_lt hA) (Nat.le_of_lt hB))) (nc.later hb1)).mono ?_
  rintro e w2 ⟨q, r, ok, rfl, hq, hr, hb2⟩
  have hBB := bstep hb1 hb2
  go_wp2_with fail
  refine (equalBytes_nrm (hg.later hBB) hr).mono ?_
  rintro e w' ⟨rfl, rfl⟩
  rw [decide_eq_true (rfl)]
  go_wp2
  go_ret
  exact ⟨rfl, hBB⟩

set_option maxRecDepth 10000 in
set_option maxHeartbeats 1000000 in
theorem ring_other {va vb vc vg : Value} {w : World} (o : Nat) (h1 : o ≠ 1) (h2 : o ≠ 2) (h3 : o ≠ 3) (h4 : o ≠ 4) (h6 : o ≠ 6) (h8 : o ≠ 8) (h9 : o ≠ 9) :
    Calls Saag.prog 20 #[.int .u8 (o : Int), va, vb, vc, vg] w fun e w' => e = .returned (.bool true) ∧ Below w.heap.size w w' := by
  have g1 : (((o : Nat) : Int) == 1) = false := by simp; omega
  have g2 : (((o : Nat) : Int) == 2) = false := by simp; omega
  have g3 : (((o : Nat) : Int) == 3) = false := by simp; omega
  have g4 : (((o : Nat) : Int) == 4) = false := by simp; omega
  have g6 : (((o : Nat) : Int) == 6) = false := by simp; omega
  have g8 : (((o : Nat) : Int) == 8) = false := by simp; omega
  have g9 : (((o : Nat) : Int) == 9) = false := by simp; omega
  clear h1 h2 h3 h4 h6 h8 h9
  go_enter Saag.func20, Saag.ntmps20
  go_wp2
  go_ret
  exact ⟨rfl, Below.refl _ _⟩

theorem ring_num {va vb vc vg : Value} {A B C : Nat} {w : World} (o : Nat) (ha : Nrm w va A) (hb : Nrm w vb B) (hc : Nrm w vc C) (hg : Nrm w vg (aluN o A B C)) (hA : A < M.W) (hB : B < M.W) (hC : C < M.W) :
    Calls Saag.prog 20 #[.int .u8 (o : Int), va, vb, vc, vg] w fun e w' => e = .returned (.bool true) ∧ Below w.heap.size w w' := by
  by_cases h1 : o = 1
  · subst h1; exact ring_1 ha hb hc hg hA hB hC
  by_cases h2 : o = 2
  · subst h2; exact ring_2 ha hb hc hg hA hB hC
  by_cases h3 : o = 3
  · subst h3; exact ring_3 ha hb hc hg hA hB hC
  by_cases h4 : o = 4
  · subst h4; exact ring_4 ha hb hc hg hA hB hC
  by_cases h6 : o = 6
  · subst h6; exact ring_6 ha hb hc hg hA hB hC
  by_cases h8 : o = 8
  · subst h8; exact ring_8 ha hb hc hg hA hB hC
  by_cases h9 : o = 9
  · subst h9; exact ring_9 ha hb hc hg hA hB hC
  exact ring_other o h1 h2 h3 h4 h6 h8 h9

set_option maxRecDepth 10000 in
set_option maxHeartbeats 1000000 in
theorem aluRing_any (o : Nat) (xs ys zs : List Nat) (w : World) (hx : xs.length = 32) (hy : ys.length = 32) (hz : zs.length = 32) (dx : M.Dig xs) (dy : M.Dig ys) (dz : M.Dig zs) :
    Calls Saag.prog 5 #[.int .u8 (o : Int), .agg (cellsOf xs), .agg (cellsOf ys), .agg (cellsOf zs)] w fun e w' => e = .returned (.bool true) ∧ Below w.heap.size w w' := by
  have hA := be_lt hx dx
  have hB := be_lt hy dy
  have hC := be_lt hz dz
  have HX := hide hx
  have HY := hide hy
  have HZ := hide hz
  clear hx hy hz
  have r1 : Row (((w.alloc (Obj.cells (cellsOf xs) 60)).alloc (Obj.cells (cellsOf ys) 60)).alloc (Obj.cells (cellsOf zs) 60)) (some ⟨w.heap.size, 0, none⟩) xs := ((row_box w xs 60).below (below_alloc _ _) (Nat.le_refl _)).below (below_alloc _ _) (Nat.le_refl _)
  have r2 : Row (((w.alloc (Obj.cells (cellsOf xs) 60)).alloc (Obj.cells (cellsOf ys) 60)).alloc (Obj.cells (cellsOf zs) 60)) (some ⟨w.heap.size + 1, 0, none⟩) ys := by
    have := (row_box (w.alloc (Obj.cells (cellsOf xs) 60)) ys 60).below (below_alloc _ (Obj.cells (cellsOf zs) 60)) (Nat.le_refl _)
    simpa using this
  have r3 : Row (((w.alloc (Obj.cells (cellsOf xs) 60)).alloc (Obj.cells (cellsOf ys) 60)).alloc (Obj.cells (cellsOf zs) 60)) (some ⟨w.heap.size + 1 + 1, 0, none⟩) zs := by
    have := row_box ((w.alloc (Obj.cells (cellsOf xs) 60)).alloc (Obj.cells (cellsOf ys) 60)) zs 60
    simpa using this
  have hB0 : Below w.heap.size w (((w.alloc (Obj.cells (cellsOf xs) 60)).alloc (Obj.cells (cellsOf ys) 60)).alloc (Obj.cells (cellsOf zs) 60)) := bstep (bstep (below_alloc _ _) (below_alloc _ _)) (below_alloc _ _)
  have R1 := hide r1
  have R2 := hide r2
  have R3 := hide r3
  have HB0 := hide hB0
  clear r1 r2 r3 hB0
  go_enter Saag.func5, Saag.ntmps5
  go_wp2_with fail
  generalize ((w.alloc (Obj.cells (cellsOf xs) 60)).alloc (Obj.cells (cellsOf ys) 60)).alloc (Obj.cells (cellsOf zs) 60) = w0 at *
  refine (fromBE_any (some ⟨w.heap.size, 0, none⟩) 32 32 xs w0 (unhide HX) (by omega) (by omega) dx (unhide R1)).mono ?_
  rintro e w1 ⟨vx, rfl, hx1, hb1⟩
  have hB1 := bstep (unhide HB0) hb1
  have r2' := (unhide R2).below hb1 (Nat.le_refl _)
  have r3' := (unhide R3).below hb1 (Nat.le_refl _)
  clear R1 R2 R3 HB0
  generalize M.val xs.reverse = A at *
  go_wp2_with fail
  refine (fromBE_any (some ⟨w.heap.size + 1, 0, none⟩) 32 32 ys w1 (unhide HY) (by omega) (by omega) dy r2').mono ?_
  rintro e w2 ⟨vy, rfl, hy2, hb2⟩
  have hB2 := bstep hB1 hb2
  have hx2 := hx1.later hb2
  have r3'' := r3'.below hb2 (Nat.le_refl _)
  clear r2' r3' hB1 hx1 hb1 hb2
  generalize M.val ys.reverse = B at *
  go_wp2_with fail
  refine (fromBE_any (some ⟨w.heap.size + 1 + 1, 0, none⟩) 32 32 zs w2 (unhide HZ) (by omega) (by omega) dz r3'').mono ?_
  rintro e w3 ⟨vz, rfl, hz3, hb3⟩
  have hB3 := bstep hB2 hb3
  have hx3 := hx2.later hb3
  have hy3 := hy2.later hb3
  clear r3'' hB2 hx2 hy2 hb3
  generalize M.val zs.reverse = C at *
  go_wp2_with fail
  refine (alu_num o hx3 hy3 hz3 hA hB hC).mono ?_
  rintro e w4 ⟨vg, rfl, hg4, hb4⟩
  have hB4 := bstep hB3 hb4
  go_wp2_with fail
  refine (ring_num o (hx3.later hb4) (hy3.later hb4) (hz3.later hb4) hg4 hA hB hC).mono ?_
  rintro e w5 ⟨rfl, hb5⟩
  go_wp2
  go_ret
  exact ⟨rfl, bstep hB4 hb5⟩

end Go.Proofs.Ygcsaa
