import Derived.Test.YgcsaaPower
import Derived.Test.YgcsaaEq
namespace Go.Proofs.Ygcsaa
open Go.RowKit
set_option linter.unusedSimpArgs false
set_option linter.unusedVariables false

set_option maxRecDepth 10000 in
set_option maxHeartbeats 400000 in
theorem alu_exp {va vb vc : Value} {A E : Nat} {w : World} (ha : Num w va A) (hb : Nrm w vb E) (hA : A < M.W) (hE : E < M.W) :
    Calls Saag.prog 21 #[.int .u8 10, va, vb, vc] w fun e w' => ∃ v, e = .returned v ∧ Nrm w' v (A ^ E % M.W) ∧ Below w.heap.size w w' := by
  go_enter Saag.func21, Saag.ntmps21
  go_wp2_with fail
  refine (power_num ha hb hA hE).mono ?_
  rintro e w1 ⟨v1, rfl, hv1, hb1⟩
  go_wp2
  go_ret
  exact ⟨_, rfl, hv1, hb1⟩

theorem bstep {w a b : World} (h : Below w.heap.size w a) (k : Below a.heap.size a b) : Below w.heap.size w b := h.trans (k.mono h.size)

set_option maxRecDepth 10000 in
set_option maxHeartbeats 400000 in
theorem aluExpHolds_num {vx vp vn : Value} {X P N : Nat} {w : World} (hx : Num w vx X) (hp : Num w vp P) (hn : Nrm w vn N) (hX : X < M.W) (hP : P < M.W) (h : N = P * X % M.W) :
    Calls Saag.prog 26 #[vx, vp, vn] w fun e w' => e = .returned (.bool true) ∧ Below w.heap.size w w' := by
  have H := hide h
  clear h
  go_enter Saag.func26, Saag.ntmps26
  go_wp2_with fail
  refine (mul_num hp hx).mono ?_
  rintro e w1 ⟨v1, rfl, hv1, hb1⟩
  go_wp2_with fail
  refine (modPow_num (hv1.num (M.lt100_mul (Nat.le_of_lt hP) (Nat.le_of_lt hX)))).mono ?_
  rintro e w2 ⟨v2, rfl, hv2, hb2⟩
  have hb := hb1.trans (hb2.mono hb1.size)
  go_wp2_with fail
  refine (equalBytes_nrm (hn.later hb) hv2).mono ?_
  rintro e w' ⟨rfl, rfl⟩
  rw [decide_eq_true (unhide H)]
  go_wp2
  go_ret
  exact ⟨rfl, hb⟩

/-- The bytes of an array, as cells. -/
def cellsOf (xs : List Nat) : Array Value := (xs.map fun x => Value.int .u8 ((x : Nat) : Int)).toArray

theorem row_box (w : World) (xs : List Nat) (t : TypeId) : Row (w.alloc (.cells (cellsOf xs) t)) (some ⟨w.heap.size, 0, none⟩) xs := by
  intro i hi
  refine ⟨w.heap.size, 0, rfl, ?_⟩
  rw [Nat.zero_add, cell_of_row _ _ _ _ _ _ (heap_alloc_new w _)]
  simp [cellsOf, hi, List.getD_eq_getElem?_getD]

theorem be_lt {xs : List Nat} (h : xs.length = 32) (d : M.Dig xs) : M.val xs.reverse < M.W := by
  rw [← M.W_256]
  have := M.val_lt (dig_reverse d)
  rwa [List.length_reverse, h] at this

set_option maxRecDepth 10000 in
set_option maxHeartbeats 1000000 in
theorem aluExp_any (xs ys : List Nat) (w : World) (hx : xs.length = 32) (hy : ys.length = 32) (dx : M.Dig xs) (dy : M.Dig ys) :
    Calls Saag.prog 7 #[.agg (cellsOf xs), .agg (cellsOf ys)] w fun e w' => e = .returned (.bool true) ∧ Below w.heap.size w w' := by
  have hX := be_lt hx dx
  have hN := be_lt hy dy
  have HX := hide hx
  have HY := hide hy
  clear hx hy
  go_enter Saag.func7, Saag.ntmps7
  go_wp2_with fail
  have r1 : Row ((w.alloc (Obj.cells (cellsOf xs) 60)).alloc (Obj.cells (cellsOf ys) 60)) (some ⟨w.heap.size, 0, none⟩) xs := (row_box w xs 60).below (below_alloc _ _) (Nat.le_refl _)
  have r2 : Row ((w.alloc (Obj.cells (cellsOf xs) 60)).alloc (Obj.cells (cellsOf ys) 60)) (some ⟨w.heap.size + 1, 0, none⟩) ys := by
    have := row_box (w.alloc (Obj.cells (cellsOf xs) 60)) ys 60
    simpa using this
  have hB0 : Below w.heap.size w ((w.alloc (Obj.cells (cellsOf xs) 60)).alloc (Obj.cells (cellsOf ys) 60)) := bstep (below_alloc _ _) (below_alloc _ _)
  generalize (w.alloc (Obj.cells (cellsOf xs) 60)).alloc (Obj.cells (cellsOf ys) 60) = w0 at *
  refine (fromBE_any (some ⟨w.heap.size, 0, none⟩) 32 32 xs w0 (unhide HX) (by omega) (by omega) dx r1).mono ?_
  rintro e w1 ⟨vx, rfl, hx1, hb1⟩
  have hB1 := bstep hB0 hb1
  have r2' := r2.below hb1 (Nat.le_refl _)
  clear r1 r2 hB0
  generalize M.val xs.reverse = X at *
  go_wp2_with fail
  refine (fromBE_any (some ⟨w.heap.size + 1, 0, none⟩) 32 32 ys w1 (unhide HY) (by omega) (by omega) dy r2').mono ?_
  rintro e w2 ⟨vn, rfl, hn2, hb2⟩
  have hB2 := bstep hB1 hb2
  have hx2 := hx1.later hb2
  clear r2' hB1 hx1 hb1 hb2
  generalize M.val ys.reverse = N at *
  go_wp2_with fail
  have hx3 := hx2.later (below_alloc w2 (.cells #[.int .u8 1] 5))
  have hn3 := hn2.later (below_alloc w2 (.cells #[.int .u8 1] 5))
  have ho3 := nrm_one w2
  have hB3 := bstep hB2 (below_alloc w2 (.cells #[.int .u8 1] 5))
  clear hx2 hn2 hB2
  refine (add_num (hn3.num (M.lt100_lt hN)) (ho3.num (M.lt100_le M.W_pos))).mono ?_
  rintro e w4 ⟨vt, rfl, ht4, hb4⟩
  have hB4 := bstep hB3 hb4
  have hx4 := hx3.later hb4
  have hn4 := hn3.later hb4
  clear hB3 hx3 hn3 ho3 hb4
  go_wp2_with fail
  refine (alu_exp (hx4.num (M.lt100_lt hX)) (Nrm.nil w4) hX M.W_pos).mono ?_
  rintro e w5 ⟨ve, rfl, he5, hb5⟩
  have hB5 := bstep hB4 hb5
  have hx5 := hx4.later hb5
  have hn5 := hn4.later hb5
  have ht5 := ht4.later hb5
  rw [Nat.pow_zero, one_mod_W] at he5
  clear hB4 hx4 hn4 ht4 hb5
  go_wp2_with fail
  have hx6 := hx5.later (below_alloc w5 (.cells #[.int .u8 1] 5))
  have hn6 := hn5.later (below_alloc w5 (.cells #[.int .u8 1] 5))
  have ht6 := ht5.later (below_alloc w5 (.cells #[.int .u8 1] 5))
  have he6 := he5.later (below_alloc w5 (.cells #[.int .u8 1] 5))
  have hB6 := bstep hB5 (below_alloc w5 (.cells #[.int .u8 1] 5))
  have ho6 := nrm_one w5
  clear hx5 hn5 ht5 he5 hB5
  refine (cmp_num (he6.num (M.lt100_le M.W_pos)) (ho6.num (M.lt100_le M.W_pos))).mono ?_
  rintro e w7 ⟨rfl, hb7⟩
  rw [cmpI_eq rfl]
  have hB7 := bstep hB6 hb7
  have hx7 := hx6.later hb7
  have hn7 := hn6.later hb7
  have ht7 := ht6.later hb7
  clear hx6 hn6 ht6 he6 ho6 hB6 hb7
  go_wp2_with fail
  refine (pow256_num w7).mono ?_
  rintro e w8 ⟨vw, rfl, hw8, hb8⟩
  have hB8 := bstep hB7 hb8
  have hx8 := hx7.later hb8
  have hn8 := hn7.later hb8
  have ht8 := ht7.later hb8
  clear hx7 hn7 ht7 hB7 hb8
  go_wp2_with fail
  refine (cmp_num (ht8.num (M.lt100_add (Nat.le_of_lt hN) M.W_pos)) (hw8.num M.W_lt100)).mono ?_
  rintro e w9 ⟨rfl, hb9⟩
  have hB9 := bstep hB8 hb9
  have hx9 := hx8.later hb9
  have hn9 := hn8.later hb9
  have ht9 := ht8.later hb9
  clear hx8 hn8 ht8 hB8 hw8 hb9
  by_cases hlt : N + 1 < M.W
  · rw [cmpI_lt hlt]
    have Hlt := hide hlt
    clear hlt
    go_wp2_with fail
    refine (alu_exp (hx9.num (M.lt100_lt hX)) hn9 hX hN).mono ?_
    rintro e w10 ⟨vp, rfl, hp10, hb10⟩
    have hB10 := bstep hB9 hb10
    have hx10 := hx9.later hb10
    have ht10 := ht9.later hb10
    clear hx9 hn9 ht9 hB9 hb10
    go_wp2_with fail
    refine (alu_exp (hx10.num (M.lt100_lt hX)) ht10 hX (unhide Hlt)).mono ?_
    rintro e w11 ⟨vq, rfl, hq11, hb11⟩
    have hB11 := bstep hB10 hb11
    have hx11 := hx10.later hb11
    have hp11 := hp10.later hb11
    clear hx10 ht10 hp10 hB10 hb11
    have hP : X ^ N % M.W < M.W := Nat.mod_lt _ M.W_pos
    have hfin : X ^ (N + 1) % M.W = X ^ N % M.W * X % M.W := by rw [Nat.pow_succ]; simp [Nat.mul_mod]
    go_wp2_with fail
    refine (aluExpHolds_num (hx11.num (M.lt100_lt hX)) (hp11.num (M.lt100_lt hP)) hq11 hX hP hfin).mono ?_
    rintro e w12 ⟨rfl, hb12⟩
    go_wp2
    go_ret
    exact ⟨rfl, bstep hB11 hb12⟩
  · have hge : 0 ≤ cmpI (N + 1) M.W := by
      by_cases he : M.W < N + 1
      · rw [cmpI_gt he]; omega
      · rw [cmpI_eq (by omega)]; omega
    generalize cmpI (N + 1) M.W = cv at *
    clear hlt
    go_wp2
    go_ret
    exact ⟨rfl, hB9⟩

end Go.Proofs.Ygcsaa
