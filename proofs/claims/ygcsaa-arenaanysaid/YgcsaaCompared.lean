import Derived.Test.YgcsaaLess
namespace Go.Proofs.Ygcsaa
open Go.RowKit
set_option linter.unusedSimpArgs false
set_option linter.unusedVariables false

theorem top_bit {xs : List Nat} (hx : xs.length = 32) (dx : M.Dig xs) : (M.val xs.reverse).testBit 255 = decide (128 ≤ xs.getD 0 0) := by
  rw [be_bit hx dx 255 (by omega)]
  have := M.dig_getD dx 0
  show decide (xs.getD 0 0 / 128 % 2 = 1) = _
  generalize xs.getD 0 0 = x at *
  rw [decide_eq_decide]
  omega

theorem slt_same {A B : Nat} (h : A.testBit 255 = B.testBit 255) : sltN A B = decide (A < B) := by
  unfold sltN
  rw [h]
  simp
theorem slt_diff {A B : Nat} {p q : Bool} (h1 : A.testBit 255 = p) (h2 : B.testBit 255 = q) (h : (p != q) = true) : sltN A B = p := by
  unfold sltN
  rw [h1, h2, if_pos h]

theorem quiet_same {f : FuncId} {args : Array Value} {W : World} {n : Nat} {v : Value} (h : Calls Saag.prog f args (W.drewN n) fun e w' => e = .returned v ∧ W.drewN n = w') :
    Calls Saag.prog f args (W.drewN n) fun e w'' => e = .returned v ∧ ∃ m, w'' = W.drewN m := Calls.quiet_of_same (h.mono fun _ _ ⟨a, b⟩ => ⟨a, b.symm⟩)

theorem two_boxes (xs ys : List Nat) (w : World) : Row ((w.alloc (Obj.cells (cellsOf xs) 60)).alloc (Obj.cells (cellsOf ys) 60)) (some ⟨w.heap.size, 0, none⟩) xs ∧ Row ((w.alloc (Obj.cells (cellsOf xs) 60)).alloc (Obj.cells (cellsOf ys) 60)) (some ⟨w.heap.size + 1, 0, none⟩) ys ∧ Below w.heap.size w ((w.alloc (Obj.cells (cellsOf xs) 60)).alloc (Obj.cells (cellsOf ys) 60)) := by
  refine ⟨(row_box w xs 60).below (below_alloc _ _) (Nat.le_refl _), ?_, bstep (below_alloc _ _) (below_alloc _ _)⟩
  have := row_box (w.alloc (Obj.cells (cellsOf xs) 60)) ys 60
  simpa using this

theorem bdrew {w W : World} (h : Below w.heap.size w W) (q : Nat) : Below w.heap.size w (W.drewN q) := bstep h (below_drewN W q)

theorem rd32 {w : World} {g : Nat} {xs : List Nat} (hx : xs.length = 32) (dx : M.Dig xs) (r : Row w (some ⟨g, 0, none⟩) xs) : Rd w (.slice (some ⟨g, 0, none⟩) 32 32) xs := ⟨_, _, _, rfl, hx, Nat.le_refl _, dx, r⟩

theorem be_eq {xs ys : List Nat} (hx : xs.length = 32) (hy : ys.length = 32) (dx : M.Dig xs) (dy : M.Dig ys) : decide (xs = ys) = decide (M.val xs.reverse = M.val ys.reverse) := by
  rw [decide_eq_decide]
  constructor
  · intro h; rw [h]
  · intro h
    have key : xs.reverse = ys.reverse := by
      apply List.ext_getElem (by simp [hx, hy])
      intro i h1 h2
      have e1 := M.val_digit (dig_reverse dx) i
      have e2 := M.val_digit (dig_reverse dy) i
      rw [h, e2] at e1
      rw [M.getD_lt _ _ h1, M.getD_lt _ _ h2] at e1
      exact e1.symm
    have := congrArg List.reverse key
    simpa using this

theorem be_zero {xs : List Nat} (hx : xs.length = 32) (dx : M.Dig xs) : decide (xs = List.replicate 32 0) = decide (M.val xs.reverse = 0) := by
  rw [be_eq hx (by simp) dx (M.dig_replicate_zero 32)]
  rw [List.reverse_replicate, M.val_replicate_zero]

set_option maxRecDepth 10000 in
set_option maxHeartbeats 1000000 in
theorem compared_16 (xs ys : List Nat) (hx : xs.length = 32) (hy : ys.length = 32) (dx : M.Dig xs) (dy : M.Dig ys) (w : World) :
    Calls Saag.prog 71 #[.int .u8 16, .agg (cellsOf xs), .agg (cellsOf ys)] w fun e w' => e = .returned (.bool (decide (M.val xs.reverse < M.val ys.reverse))) ∧ Below w.heap.size w w' := by
  obtain ⟨r1, r2, hB0⟩ := two_boxes xs ys w
  have T := hide (fun q => quiet_same (below_any (some ⟨w.heap.size, 0, none⟩) (some ⟨w.heap.size + 1, 0, none⟩) 32 32 32 xs ys (((w.alloc (Obj.cells (cellsOf xs) 60)).alloc (Obj.cells (cellsOf ys) 60)).drewN q) hx hy (by omega) dx dy r1 r2))
  have HB0 := hide hB0
  clear r1 r2 hB0 hx hy
  go_enter Saag.func71, Saag.ntmps71
  go_wp2
  go_quiet ((go_at_call 93; exact unhide T _))
  go_wp2
  go_ret
  exact ⟨rfl, bdrew (unhide HB0) _⟩

set_option maxRecDepth 10000 in
set_option maxHeartbeats 1000000 in
theorem compared_17 (xs ys : List Nat) (hx : xs.length = 32) (hy : ys.length = 32) (dx : M.Dig xs) (dy : M.Dig ys) (w : World) :
    Calls Saag.prog 71 #[.int .u8 17, .agg (cellsOf xs), .agg (cellsOf ys)] w fun e w' => e = .returned (.bool (decide (M.val ys.reverse < M.val xs.reverse))) ∧ Below w.heap.size w w' := by
  obtain ⟨r1, r2, hB0⟩ := two_boxes xs ys w
  have T := hide (fun q => quiet_same (below_any (some ⟨w.heap.size + 1, 0, none⟩) (some ⟨w.heap.size, 0, none⟩) 32 32 32 ys xs (((w.alloc (Obj.cells (cellsOf xs) 60)).alloc (Obj.cells (cellsOf ys) 60)).drewN q) hy hx (by omega) dy dx r2 r1))
  have HB0 := hide hB0
  clear r1 r2 hB0 hx hy
  go_enter Saag.func71, Saag.ntmps71
  go_wp2
  go_quiet ((go_at_call 93; exact unhide T _))
  go_wp2
  go_ret
  exact ⟨rfl, bdrew (unhide HB0) _⟩

set_option maxRecDepth 10000 in
set_option maxHeartbeats 1000000 in
theorem compared_20 (xs ys : List Nat) (hx : xs.length = 32) (hy : ys.length = 32) (dx : M.Dig xs) (dy : M.Dig ys) (w : World) :
    Calls Saag.prog 71 #[.int .u8 20, .agg (cellsOf xs), .agg (cellsOf ys)] w fun e w' => e = .returned (.bool (decide (M.val xs.reverse = M.val ys.reverse))) ∧ Below w.heap.size w w' := by
  obtain ⟨r1, r2, hB0⟩ := two_boxes xs ys w
  have T := hide (fun q => quiet_same (n := q) (equalBytes_any (w := ((w.alloc (Obj.cells (cellsOf xs) 60)).alloc (Obj.cells (cellsOf ys) 60)).drewN q) (rd32 hx dx r1) (rd32 hy dy r2)))
  rw [be_eq hx hy dx dy] at T
  have HB0 := hide hB0
  clear r1 r2 hB0 hx hy
  go_enter Saag.func71, Saag.ntmps71
  go_wp2
  go_quiet ((go_at_call 51; exact unhide T _))
  go_wp2
  go_ret
  exact ⟨rfl, bdrew (unhide HB0) _⟩

set_option maxRecDepth 10000 in
set_option maxHeartbeats 1000000 in
theorem compared_18 (xs ys : List Nat) (hx : xs.length = 32) (hy : ys.length = 32) (dx : M.Dig xs) (dy : M.Dig ys) (w : World) :
    Calls Saag.prog 71 #[.int .u8 18, .agg (cellsOf xs), .agg (cellsOf ys)] w fun e w' => e = .returned (.bool (sltN (M.val xs.reverse) (M.val ys.reverse))) ∧ Below w.heap.size w w' := by
  obtain ⟨r1, r2, hB0⟩ := two_boxes xs ys w
  have T := hide (fun q => quiet_same (below_any (some ⟨w.heap.size, 0, none⟩) (some ⟨w.heap.size + 1, 0, none⟩) 32 32 32 xs ys (((w.alloc (Obj.cells (cellsOf xs) 60)).alloc (Obj.cells (cellsOf ys) 60)).drewN q) hx hy (by omega) dx dy r1 r2))
  have ca := cells_get xs 0 (by omega)
  have cb := cells_get ys 0 (by omega)
  have hxd := M.dig_getD dx 0
  have hyd := M.dig_getD dy 0
  have t1 := top_bit hx dx
  have t2 := top_bit hy dy
  have HB0 := hide hB0
  clear r1 r2 hB0 hx hy
  generalize xs.getD 0 0 = x at *
  generalize ys.getD 0 0 = y at *
  by_cases p : 128 ≤ x <;> by_cases q : 128 ≤ y
  · skip
    have hp : decide ((128 : Int) ≤ (x : Int)) = true := by simp; omega
    have hq : decide ((128 : Int) ≤ (y : Int)) = true := by simp; omega
    rw [decide_eq_true p] at t1
    rw [decide_eq_true q] at t2
    rw [slt_same (t1.trans t2.symm)]
    clear t1 t2 p q
    go_enter Saag.func71, Saag.ntmps71
    go_wp2
    go_quiet ((go_at_call 93; exact unhide T _))
    go_wp2
    go_ret
    exact ⟨rfl, bdrew (unhide HB0) _⟩
  · skip
    have hp : decide ((128 : Int) ≤ (x : Int)) = true := by simp; omega
    have hq : decide ((128 : Int) ≤ (y : Int)) = false := by simp; omega
    rw [decide_eq_true p] at t1
    rw [decide_eq_false q] at t2
    rw [slt_diff t1 t2 rfl]
    clear t1 t2 p q T
    go_enter Saag.func71, Saag.ntmps71
    go_wp2
    go_ret
    exact ⟨rfl, unhide HB0⟩
  · skip
    have hp : decide ((128 : Int) ≤ (x : Int)) = false := by simp; omega
    have hq : decide ((128 : Int) ≤ (y : Int)) = true := by simp; omega
    rw [decide_eq_false p] at t1
    rw [decide_eq_true q] at t2
    rw [slt_diff t1 t2 rfl]
    clear t1 t2 p q T
    go_enter Saag.func71, Saag.ntmps71
    go_wp2
    go_ret
    exact ⟨rfl, unhide HB0⟩
  · skip
    have hp : decide ((128 : Int) ≤ (x : Int)) = false := by simp; omega
    have hq : decide ((128 : Int) ≤ (y : Int)) = false := by simp; omega
    rw [decide_eq_false p] at t1
    rw [decide_eq_false q] at t2
    rw [slt_same (t1.trans t2.symm)]
    clear t1 t2 p q
    go_enter Saag.func71, Saag.ntmps71
    go_wp2
    go_quiet ((go_at_call 93; exact unhide T _))
    go_wp2
    go_ret
    exact ⟨rfl, bdrew (unhide HB0) _⟩

set_option maxRecDepth 10000 in
set_option maxHeartbeats 1000000 in
theorem compared_19 (xs ys : List Nat) (hx : xs.length = 32) (hy : ys.length = 32) (dx : M.Dig xs) (dy : M.Dig ys) (w : World) :
    Calls Saag.prog 71 #[.int .u8 19, .agg (cellsOf xs), .agg (cellsOf ys)] w fun e w' => e = .returned (.bool (sltN (M.val ys.reverse) (M.val xs.reverse))) ∧ Below w.heap.size w w' := by
  obtain ⟨r1, r2, hB0⟩ := two_boxes xs ys w
  have T := hide (fun q => quiet_same (below_any (some ⟨w.heap.size + 1, 0, none⟩) (some ⟨w.heap.size, 0, none⟩) 32 32 32 ys xs (((w.alloc (Obj.cells (cellsOf xs) 60)).alloc (Obj.cells (cellsOf ys) 60)).drewN q) hy hx (by omega) dy dx r2 r1))
  have ca := cells_get xs 0 (by omega)
  have cb := cells_get ys 0 (by omega)
  have hxd := M.dig_getD dx 0
  have hyd := M.dig_getD dy 0
  have t1 := top_bit hx dx
  have t2 := top_bit hy dy
  have HB0 := hide hB0
  clear r1 r2 hB0 hx hy
  generalize xs.getD 0 0 = x at *
  generalize ys.getD 0 0 = y at *
  by_cases p : 128 ≤ x <;> by_cases q : 128 ≤ y
  · skip
    have hp : decide ((128 : Int) ≤ (x : Int)) = true := by simp; omega
    have hq : decide ((128 : Int) ≤ (y : Int)) = true := by simp; omega
    rw [decide_eq_true p] at t1
    rw [decide_eq_true q] at t2
    rw [slt_same (t2.trans t1.symm)]
    clear t1 t2 p q
    go_enter Saag.func71, Saag.ntmps71
    go_wp2
    go_quiet ((go_at_call 93; exact unhide T _))
    go_wp2
    go_ret
    exact ⟨rfl, bdrew (unhide HB0) _⟩
  · skip
    have hp : decide ((128 : Int) ≤ (x : Int)) = true := by simp; omega
    have hq : decide ((128 : Int) ≤ (y : Int)) = false := by simp; omega
    rw [decide_eq_true p] at t1
    rw [decide_eq_false q] at t2
    rw [slt_diff t2 t1 rfl]
    clear t1 t2 p q T
    go_enter Saag.func71, Saag.ntmps71
    go_wp2
    go_ret
    exact ⟨rfl, unhide HB0⟩
  · skip
    have hp : decide ((128 : Int) ≤ (x : Int)) = false := by simp; omega
    have hq : decide ((128 : Int) ≤ (y : Int)) = true := by simp; omega
    rw [decide_eq_false p] at t1
    rw [decide_eq_true q] at t2
    rw [slt_diff t2 t1 rfl]
    clear t1 t2 p q T
    go_enter Saag.func71, Saag.ntmps71
    go_wp2
    go_ret
    exact ⟨rfl, unhide HB0⟩
  · skip
    have hp : decide ((128 : Int) ≤ (x : Int)) = false := by simp; omega
    have hq : decide ((128 : Int) ≤ (y : Int)) = false := by simp; omega
    rw [decide_eq_false p] at t1
    rw [decide_eq_false q] at t2
    rw [slt_same (t2.trans t1.symm)]
    clear t1 t2 p q
    go_enter Saag.func71, Saag.ntmps71
    go_wp2
    go_quiet ((go_at_call 93; exact unhide T _))
    go_wp2
    go_ret
    exact ⟨rfl, bdrew (unhide HB0) _⟩

end Go.Proofs.Ygcsaa
