import Derived.Test.YgcsaaQB
namespace Go.Proofs.Ygcsaa
open Go.RowKit
set_option linter.unusedSimpArgs false
set_option linter.unusedVariables false

theorem two_bx (xs ys : List Nat) (w : World) : Bx ((w.alloc (Obj.cells (cellsOf xs) 60)).alloc (Obj.cells (cellsOf ys) 60)) w.heap.size xs ∧ Bx ((w.alloc (Obj.cells (cellsOf xs) 60)).alloc (Obj.cells (cellsOf ys) 60)) (w.heap.size + 1) ys ∧ Below w.heap.size w ((w.alloc (Obj.cells (cellsOf xs) 60)).alloc (Obj.cells (cellsOf ys) 60)) := by
  refine ⟨(Bx.new w xs).later (below_alloc _ _), ?_, bstep (below_alloc _ _) (below_alloc _ _)⟩
  have := Bx.new (w.alloc (Obj.cells (cellsOf xs) 60)) ys
  simpa using this

theorem bitOf_below (xs : List Nat) (hx : xs.length = 32) (dx : M.Dig xs) (i : Nat) (hi : i ≤ 255) (w : World) :
    Calls Saag.prog 68 #[.agg (cellsOf xs), .int .i64 (i : Int)] w fun e w' => e = .returned (.bool ((M.val xs.reverse).testBit i)) ∧ Below w.heap.size w w' := by
  refine (bitOf_num xs hx dx i (by omega) (by omega) w).mono ?_
  rintro e w' ⟨rfl, rfl⟩
  exact ⟨by simp [bitZ], below_alloc _ _⟩

theorem smallOf_below (xs : List Nat) (hx : xs.length = 32) (dx : M.Dig xs) (w : World) :
    Calls Saag.prog 70 #[.agg (cellsOf xs)] w fun e w' => e = .returned (.int .i64 (small (M.val xs.reverse) : Nat)) ∧ Below w.heap.size w w' := by
  refine (smallOf_num xs hx dx w).mono ?_
  rintro e w' ⟨rfl, rfl⟩
  exact ⟨rfl, below_alloc _ _⟩

set_option maxRecDepth 10000 in
set_option maxHeartbeats 1000000 in
theorem bits_24 {vg : Value} {N : Nat} {w : World} (xs ys : List Nat) (hx : xs.length = 32) (hy : ys.length = 32) (dx : M.Dig xs) (dy : M.Dig ys) (i : Nat) (hi : i ≤ 255) (hg : Nrm w vg N) (hN : N < M.W) (h : N.testBit i = ((M.val xs.reverse).testBit i != (M.val ys.reverse).testBit i)) :
    Calls Saag.prog 27 #[.int .u8 24, .agg (cellsOf xs), .agg (cellsOf ys), .int .u8 (i : Int), vg] w fun e w' => e = .returned (.bool true) ∧ Below w.heap.size w w' := by
  obtain ⟨b1, b2, hB0⟩ := two_bx xs ys w
  obtain ⟨go, gn, gc, rfl, hgn, _, _⟩ := hg.len32 hN
  have B1 := hide b1
  have B2 := hide b2
  have HB0 := hide hB0
  have HX := hide hx
  have HY := hide hy
  have HN := hide h
  have hwr : IntKind.i64.wrap (i : Int) = (i : Int) := by rw [IntKind.wrap_i64]; omega
  have T1 := hide (fun w => bitOf_below xs hx dx i hi w)
  have T2 := hide (fun w => bitOf_below ys hy dy i hi w)
  generalize (M.val xs.reverse).testBit i = p at *
  generalize (M.val ys.reverse).testBit i = q at *
  clear b1 b2 hB0 hx hy h
  go_enter Saag.func27, Saag.ntmps27
  go_wp2
  generalize (w.alloc (Obj.cells (cellsOf xs) 60)).alloc (Obj.cells (cellsOf ys) 60) = W0 at *
  refine region_below (by kernel_rfl) (by kernel_rfl) ?_
  refine wpQuiet_load60 rfl _ rfl _ rfl xs (unhide HX) (unhide B1) ?_
  iterate 2 (refine wpQuiet_step (fun K hK => ?_); go_simp; refine ⟨_, fun _ _ => rfl, hK _ ?_⟩; clear hK K)
  (refine wpQuiet_step (fun K hK => ?_); go_simp; refine ⟨_, fun w1 hw1 => (unhide T1 w1).mono (fun e w2 h => ⟨h.1, bstep hw1 h.2⟩), hK _ ?_⟩; clear hK K)
  refine wpQuiet_load60 rfl _ rfl _ rfl ys (unhide HY) (unhide B2) ?_
  iterate 2 (refine wpQuiet_step (fun K hK => ?_); go_simp; refine ⟨_, fun _ _ => rfl, hK _ ?_⟩; clear hK K)
  (refine wpQuiet_step (fun K hK => ?_); go_simp; refine ⟨_, fun w1 hw1 => (unhide T2 w1).mono (fun e w2 h => ⟨h.1, bstep hw1 h.2⟩), hK _ ?_⟩; clear hK K)
  iterate 2 (refine wpQuiet_step (fun K hK => ?_); go_simp; refine ⟨_, fun _ _ => rfl, hK _ ?_⟩; clear hK K)
  refine wpQuiet_nil ?_
  intro W1 hW1
  have hB1 := bstep (unhide HB0) hW1
  go_wp2_with fail
  refine (normal_nrm (hg.later hB1) (M.lt100_lt hN)).mono ?_
  rintro e w' ⟨rfl, rfl⟩
  go_wp2_with fail
  refine (bit_num i ((hg.later hB1).num (M.lt100_lt hN)) (by omega)).mono ?_
  rintro e w' ⟨rfl, rfl⟩
  rw [unhide HN]
  cases p <;> cases q
  all_goals
    go_wp2
    go_ret
    exact ⟨rfl, hB1⟩

set_option maxRecDepth 10000 in
set_option maxHeartbeats 1000000 in
theorem bits_25 {vg : Value} {N : Nat} {w : World} (xs ys : List Nat) (hx : xs.length = 32) (hy : ys.length = 32) (dx : M.Dig xs) (dy : M.Dig ys) (i : Nat) (hi : i ≤ 255) (hg : Nrm w vg N) (hN : N < M.W) (h : N.testBit i = !(M.val xs.reverse).testBit i) :
    Calls Saag.prog 27 #[.int .u8 25, .agg (cellsOf xs), .agg (cellsOf ys), .int .u8 (i : Int), vg] w fun e w' => e = .returned (.bool true) ∧ Below w.heap.size w w' := by
  obtain ⟨b1, b2, hB0⟩ := two_bx xs ys w
  obtain ⟨go, gn, gc, rfl, hgn, _, _⟩ := hg.len32 hN
  have B1 := hide b1
  have B2 := hide b2
  have HB0 := hide hB0
  have HX := hide hx
  have HY := hide hy
  have HN := hide h
  have hwr : IntKind.i64.wrap (i : Int) = (i : Int) := by rw [IntKind.wrap_i64]; omega
  have T1 := hide (fun w => bitOf_below xs hx dx i hi w)
  generalize (M.val xs.reverse).testBit i = p at *
  clear b1 b2 hB0 hx hy h
  go_enter Saag.func27, Saag.ntmps27
  go_wp2_with (refine wpList_load60 rfl _ rfl _ rfl xs (unhide HX) (unhide B1) ?_)
  generalize (w.alloc (Obj.cells (cellsOf xs) 60)).alloc (Obj.cells (cellsOf ys) 60) = W0 at *
  refine (unhide T1 _).mono ?_
  rintro e w1 ⟨rfl, hb1⟩
  have hB1 := bstep (unhide HB0) hb1
  go_wp2_with fail
  refine (normal_nrm (hg.later hB1) (M.lt100_lt hN)).mono ?_
  rintro e w' ⟨rfl, rfl⟩
  go_wp2_with fail
  refine (bit_num i ((hg.later hB1).num (M.lt100_lt hN)) (by omega)).mono ?_
  rintro e w' ⟨rfl, rfl⟩
  rw [unhide HN]
  cases p
  all_goals
    go_wp2
    go_ret
    exact ⟨rfl, hB1⟩

set_option maxRecDepth 10000 in
set_option maxHeartbeats 1000000 in
theorem bits_22 {vg : Value} {N : Nat} {w : World} (xs ys : List Nat) (hx : xs.length = 32) (hy : ys.length = 32) (dx : M.Dig xs) (dy : M.Dig ys) (i : Nat) (hi : i ≤ 255) (hg : Nrm w vg N) (hN : N < M.W) (h : N.testBit i = ((M.val xs.reverse).testBit i && (M.val ys.reverse).testBit i)) :
    Calls Saag.prog 27 #[.int .u8 22, .agg (cellsOf xs), .agg (cellsOf ys), .int .u8 (i : Int), vg] w fun e w' => e = .returned (.bool true) ∧ Below w.heap.size w w' := by
  obtain ⟨b1, b2, hB0⟩ := two_bx xs ys w
  obtain ⟨go, gn, gc, rfl, hgn, _, _⟩ := hg.len32 hN
  have B1 := hide b1
  have B2 := hide b2
  have HB0 := hide hB0
  have HX := hide hx
  have HY := hide hy
  have HN := hide h
  have hwr : IntKind.i64.wrap (i : Int) = (i : Int) := by rw [IntKind.wrap_i64]; omega
  have T1 := hide (fun w => bitOf_below xs hx dx i hi w)
  have T2 := hide (fun w => bitOf_below ys hy dy i hi w)
  generalize (M.val xs.reverse).testBit i = p at *
  generalize (M.val ys.reverse).testBit i = q at *
  clear b1 b2 hB0 hx hy h
  cases p
  · go_enter Saag.func27, Saag.ntmps27
    go_wp2_with (refine wpList_load60 rfl _ rfl _ rfl xs (unhide HX) (unhide B1) ?_)
    generalize (w.alloc (Obj.cells (cellsOf xs) 60)).alloc (Obj.cells (cellsOf ys) 60) = W0 at *
    refine (unhide T1 _).mono ?_
    rintro e w1 ⟨rfl, hb1⟩
    have hB1 := bstep (unhide HB0) hb1
    go_wp2_with fail
    refine (normal_nrm (hg.later hB1) (M.lt100_lt hN)).mono ?_
    rintro e w' ⟨rfl, rfl⟩
    go_wp2_with fail
    refine (bit_num i ((hg.later hB1).num (M.lt100_lt hN)) (by omega)).mono ?_
    rintro e w' ⟨rfl, rfl⟩
    rw [unhide HN]
    go_wp2
    go_ret
    exact ⟨rfl, hB1⟩
  · go_enter Saag.func27, Saag.ntmps27
    go_wp2_with (refine wpList_load60 rfl _ rfl _ rfl xs (unhide HX) (unhide B1) ?_)
    generalize (w.alloc (Obj.cells (cellsOf xs) 60)).alloc (Obj.cells (cellsOf ys) 60) = W0 at *
    refine (unhide T1 _).mono ?_
    rintro e w1 ⟨rfl, hb1⟩
    have hB1 := bstep (unhide HB0) hb1
    have B2' := hide ((unhide B2).later hb1)
    go_wp2_with (refine wpList_load60w rfl _ rfl _ rfl ys (unhide HY) (unhide B2') ?_)
    refine (unhide T2 _).mono ?_
    rintro e w2 ⟨rfl, hb2⟩
    have hB2 := bstep hB1 hb2
    go_wp2_with fail
    refine (normal_nrm (hg.later hB2) (M.lt100_lt hN)).mono ?_
    rintro e w' ⟨rfl, rfl⟩
    go_wp2_with fail
    refine (bit_num i ((hg.later hB2).num (M.lt100_lt hN)) (by omega)).mono ?_
    rintro e w' ⟨rfl, rfl⟩
    rw [unhide HN]
    cases q
    all_goals
      go_wp2
      go_ret
      exact ⟨rfl, hB2⟩

set_option maxRecDepth 10000 in
set_option maxHeartbeats 1000000 in
theorem bits_23 {vg : Value} {N : Nat} {w : World} (xs ys : List Nat) (hx : xs.length = 32) (hy : ys.length = 32) (dx : M.Dig xs) (dy : M.Dig ys) (i : Nat) (hi : i ≤ 255) (hg : Nrm w vg N) (hN : N < M.W) (h : N.testBit i = ((M.val xs.reverse).testBit i || (M.val ys.reverse).testBit i)) :
    Calls Saag.prog 27 #[.int .u8 23, .agg (cellsOf xs), .agg (cellsOf ys), .int .u8 (i : Int), vg] w fun e w' => e = .returned (.bool true) ∧ Below w.heap.size w w' := by
  obtain ⟨b1, b2, hB0⟩ := two_bx xs ys w
  obtain ⟨go, gn, gc, rfl, hgn, _, _⟩ := hg.len32 hN
  have B1 := hide b1
  have B2 := hide b2
  have HB0 := hide hB0
  have HX := hide hx
  have HY := hide hy
  have HN := hide h
  have hwr : IntKind.i64.wrap (i : Int) = (i : Int) := by rw [IntKind.wrap_i64]; omega
  have T1 := hide (fun w => bitOf_below xs hx dx i hi w)
  have T2 := hide (fun w => bitOf_below ys hy dy i hi w)
  generalize (M.val xs.reverse).testBit i = p at *
  generalize (M.val ys.reverse).testBit i = q at *
  clear b1 b2 hB0 hx hy h
  cases p
  · go_enter Saag.func27, Saag.ntmps27
    go_wp2_with (refine wpList_load60 rfl _ rfl _ rfl xs (unhide HX) (unhide B1) ?_)
    generalize (w.alloc (Obj.cells (cellsOf xs) 60)).alloc (Obj.cells (cellsOf ys) 60) = W0 at *
    refine (unhide T1 _).mono ?_
    rintro e w1 ⟨rfl, hb1⟩
    have hB1 := bstep (unhide HB0) hb1
    have B2' := hide ((unhide B2).later hb1)
    go_wp2_with (refine wpList_load60w rfl _ rfl _ rfl ys (unhide HY) (unhide B2') ?_)
    refine (unhide T2 _).mono ?_
    rintro e w2 ⟨rfl, hb2⟩
    have hB2 := bstep hB1 hb2
    go_wp2_with fail
    refine (normal_nrm (hg.later hB2) (M.lt100_lt hN)).mono ?_
    rintro e w' ⟨rfl, rfl⟩
    go_wp2_with fail
    refine (bit_num i ((hg.later hB2).num (M.lt100_lt hN)) (by omega)).mono ?_
    rintro e w' ⟨rfl, rfl⟩
    rw [unhide HN]
    cases q
    all_goals
      go_wp2
      go_ret
      exact ⟨rfl, hB2⟩
  · go_enter Saag.func27, Saag.ntmps27
    go_wp2_with (refine wpList_load60 rfl _ rfl _ rfl xs (unhide HX) (unhide B1) ?_)
    generalize (w.alloc (Obj.cells (cellsOf xs) 60)).alloc (Obj.cells (cellsOf ys) 60) = W0 at *
    refine (unhide T1 _).mono ?_
    rintro e w1 ⟨rfl, hb1⟩
    have hB1 := bstep (unhide HB0) hb1
    go_wp2_with fail
    refine (normal_nrm (hg.later hB1) (M.lt100_lt hN)).mono ?_
    rintro e w' ⟨rfl, rfl⟩
    go_wp2_with fail
    refine (bit_num i ((hg.later hB1).num (M.lt100_lt hN)) (by omega)).mono ?_
    rintro e w' ⟨rfl, rfl⟩
    rw [unhide HN]
    go_wp2
    go_ret
    exact ⟨rfl, hB1⟩

set_option maxRecDepth 10000 in
set_option maxHeartbeats 1000000 in
theorem bits_27 {vg : Value} {N : Nat} {w : World} (xs ys : List Nat) (hx : xs.length = 32) (hy : ys.length = 32) (dx : M.Dig xs) (dy : M.Dig ys) (i : Nat) (hi : i ≤ 255) (hg : Nrm w vg N) (hN : N < M.W) (b : Bool) (hm : ∀ w, Calls Saag.prog 69 #[.int .u8 27, .int .i64 (small (M.val xs.reverse) : Nat), .agg (cellsOf ys), .int .i64 (i : Int)] w fun e w' => e = .returned (.bool b) ∧ Below w.heap.size w w') (h : N.testBit i = b) :
    Calls Saag.prog 27 #[.int .u8 27, .agg (cellsOf xs), .agg (cellsOf ys), .int .u8 (i : Int), vg] w fun e w' => e = .returned (.bool true) ∧ Below w.heap.size w w' := by
  obtain ⟨b1, b2, hB0⟩ := two_bx xs ys w
  obtain ⟨go, gn, gc, rfl, hgn, _, _⟩ := hg.len32 hN
  have B1 := hide b1
  have B2 := hide b2
  have HB0 := hide hB0
  have HX := hide hx
  have HY := hide hy
  have HN := hide h
  have hwr : IntKind.i64.wrap (i : Int) = (i : Int) := by rw [IntKind.wrap_i64]; omega
  have T1 := hide (fun w => smallOf_below xs hx dx w)
  have T2 := hide hm
  generalize small (M.val xs.reverse) = s at *
  clear hm
  clear b1 b2 hB0 hx hy h
  go_enter Saag.func27, Saag.ntmps27
  go_wp2
  generalize (w.alloc (Obj.cells (cellsOf xs) 60)).alloc (Obj.cells (cellsOf ys) 60) = W0 at *
  refine region_below (by kernel_rfl) (by kernel_rfl) ?_
  iterate 1 (refine wpQuiet_step (fun K hK => ?_); go_simp; refine ⟨_, fun _ _ => rfl, hK _ ?_⟩; clear hK K)
  refine wpQuiet_load60 rfl _ rfl _ rfl xs (unhide HX) (unhide B1) ?_
  (refine wpQuiet_step (fun K hK => ?_); go_simp; refine ⟨_, fun w1 hw1 => (unhide T1 w1).mono (fun e w2 h => ⟨h.1, bstep hw1 h.2⟩), hK _ ?_⟩; clear hK K)
  refine wpQuiet_load60 rfl _ rfl _ rfl ys (unhide HY) (unhide B2) ?_
  iterate 2 (refine wpQuiet_step (fun K hK => ?_); go_simp; refine ⟨_, fun _ _ => rfl, hK _ ?_⟩; clear hK K)
  (refine wpQuiet_step (fun K hK => ?_); go_simp; refine ⟨_, fun w1 hw1 => (unhide T2 w1).mono (fun e w2 h => ⟨h.1, bstep hw1 h.2⟩), hK _ ?_⟩; clear hK K)
  iterate 1 (refine wpQuiet_step (fun K hK => ?_); go_simp; refine ⟨_, fun _ _ => rfl, hK _ ?_⟩; clear hK K)
  refine wpQuiet_nil ?_
  intro W1 hW1
  have hB1 := bstep (unhide HB0) hW1
  go_wp2_with fail
  refine (normal_nrm (hg.later hB1) (M.lt100_lt hN)).mono ?_
  rintro e w' ⟨rfl, rfl⟩
  go_wp2_with fail
  refine (bit_num i ((hg.later hB1).num (M.lt100_lt hN)) (by omega)).mono ?_
  rintro e w' ⟨rfl, rfl⟩
  rw [unhide HN]
  cases b
  all_goals
    go_wp2
    go_ret
    exact ⟨rfl, hB1⟩

set_option maxRecDepth 10000 in
set_option maxHeartbeats 1000000 in
theorem bits_28 {vg : Value} {N : Nat} {w : World} (xs ys : List Nat) (hx : xs.length = 32) (hy : ys.length = 32) (dx : M.Dig xs) (dy : M.Dig ys) (i : Nat) (hi : i ≤ 255) (hg : Nrm w vg N) (hN : N < M.W) (b : Bool) (hm : ∀ w, Calls Saag.prog 69 #[.int .u8 28, .int .i64 (small (M.val xs.reverse) : Nat), .agg (cellsOf ys), .int .i64 (i : Int)] w fun e w' => e = .returned (.bool b) ∧ Below w.heap.size w w') (h : N.testBit i = b) :
    Calls Saag.prog 27 #[.int .u8 28, .agg (cellsOf xs), .agg (cellsOf ys), .int .u8 (i : Int), vg] w fun e w' => e = .returned (.bool true) ∧ Below w.heap.size w w' := by
  obtain ⟨b1, b2, hB0⟩ := two_bx xs ys w
  obtain ⟨go, gn, gc, rfl, hgn, _, _⟩ := hg.len32 hN
  have B1 := hide b1
  have B2 := hide b2
  have HB0 := hide hB0
  have HX := hide hx
  have HY := hide hy
  have HN := hide h
  have hwr : IntKind.i64.wrap (i : Int) = (i : Int) := by rw [IntKind.wrap_i64]; omega
  have T1 := hide (fun w => smallOf_below xs hx dx w)
  have T2 := hide hm
  generalize small (M.val xs.reverse) = s at *
  clear hm
  clear b1 b2 hB0 hx hy h
  go_enter Saag.func27, Saag.ntmps27
  go_wp2
  generalize (w.alloc (Obj.cells (cellsOf xs) 60)).alloc (Obj.cells (cellsOf ys) 60) = W0 at *
  refine region_below (by kernel_rfl) (by kernel_rfl) ?_
  iterate 1 (refine wpQuiet_step (fun K hK => ?_); go_simp; refine ⟨_, fun _ _ => rfl, hK _ ?_⟩; clear hK K)
  refine wpQuiet_load60 rfl _ rfl _ rfl xs (unhide HX) (unhide B1) ?_
  (refine wpQuiet_step (fun K hK => ?_); go_simp; refine ⟨_, fun w1 hw1 => (unhide T1 w1).mono (fun e w2 h => ⟨h.1, bstep hw1 h.2⟩), hK _ ?_⟩; clear hK K)
  refine wpQuiet_load60 rfl _ rfl _ rfl ys (unhide HY) (unhide B2) ?_
  iterate 2 (refine wpQuiet_step (fun K hK => ?_); go_simp; refine ⟨_, fun _ _ => rfl, hK _ ?_⟩; clear hK K)
  (refine wpQuiet_step (fun K hK => ?_); go_simp; refine ⟨_, fun w1 hw1 => (unhide T2 w1).mono (fun e w2 h => ⟨h.1, bstep hw1 h.2⟩), hK _ ?_⟩; clear hK K)
  iterate 1 (refine wpQuiet_step (fun K hK => ?_); go_simp; refine ⟨_, fun _ _ => rfl, hK _ ?_⟩; clear hK K)
  refine wpQuiet_nil ?_
  intro W1 hW1
  have hB1 := bstep (unhide HB0) hW1
  go_wp2_with fail
  refine (normal_nrm (hg.later hB1) (M.lt100_lt hN)).mono ?_
  rintro e w' ⟨rfl, rfl⟩
  go_wp2_with fail
  refine (bit_num i ((hg.later hB1).num (M.lt100_lt hN)) (by omega)).mono ?_
  rintro e w' ⟨rfl, rfl⟩
  rw [unhide HN]
  cases b
  all_goals
    go_wp2
    go_ret
    exact ⟨rfl, hB1⟩

set_option maxRecDepth 10000 in
set_option maxHeartbeats 1000000 in
theorem bits_29 {vg : Value} {N : Nat} {w : World} (xs ys : List Nat) (hx : xs.length = 32) (hy : ys.length = 32) (dx : M.Dig xs) (dy : M.Dig ys) (i : Nat) (hi : i ≤ 255) (hg : Nrm w vg N) (hN : N < M.W) (b : Bool) (hm : ∀ w, Calls Saag.prog 69 #[.int .u8 29, .int .i64 (small (M.val xs.reverse) : Nat), .agg (cellsOf ys), .int .i64 (i : Int)] w fun e w' => e = .returned (.bool b) ∧ Below w.heap.size w w') (h : N.testBit i = b) :
    Calls Saag.prog 27 #[.int .u8 29, .agg (cellsOf xs), .agg (cellsOf ys), .int .u8 (i : Int), vg] w fun e w' => e = .returned (.bool true) ∧ Below w.heap.size w w' := by
  obtain ⟨b1, b2, hB0⟩ := two_bx xs ys w
  obtain ⟨go, gn, gc, rfl, hgn, _, _⟩ := hg.len32 hN
  have B1 := hide b1
  have B2 := hide b2
  have HB0 := hide hB0
  have HX := hide hx
  have HY := hide hy
  have HN := hide h
  have hwr : IntKind.i64.wrap (i : Int) = (i : Int) := by rw [IntKind.wrap_i64]; omega
  have T1 := hide (fun w => smallOf_below xs hx dx w)
  have T2 := hide hm
  generalize small (M.val xs.reverse) = s at *
  clear hm
  clear b1 b2 hB0 hx hy h
  go_enter Saag.func27, Saag.ntmps27
  go_wp2
  generalize (w.alloc (Obj.cells (cellsOf xs) 60)).alloc (Obj.cells (cellsOf ys) 60) = W0 at *
  refine region_below (by kernel_rfl) (by kernel_rfl) ?_
  iterate 1 (refine wpQuiet_step (fun K hK => ?_); go_simp; refine ⟨_, fun _ _ => rfl, hK _ ?_⟩; clear hK K)
  refine wpQuiet_load60 rfl _ rfl _ rfl xs (unhide HX) (unhide B1) ?_
  (refine wpQuiet_step (fun K hK => ?_); go_simp; refine ⟨_, fun w1 hw1 => (unhide T1 w1).mono (fun e w2 h => ⟨h.1, bstep hw1 h.2⟩), hK _ ?_⟩; clear hK K)
  refine wpQuiet_load60 rfl _ rfl _ rfl ys (unhide HY) (unhide B2) ?_
  iterate 2 (refine wpQuiet_step (fun K hK => ?_); go_simp; refine ⟨_, fun _ _ => rfl, hK _ ?_⟩; clear hK K)
  (refine wpQuiet_step (fun K hK => ?_); go_simp; refine ⟨_, fun w1 hw1 => (unhide T2 w1).mono (fun e w2 h => ⟨h.1, bstep hw1 h.2⟩), hK _ ?_⟩; clear hK K)
  iterate 1 (refine wpQuiet_step (fun K hK => ?_); go_simp; refine ⟨_, fun _ _ => rfl, hK _ ?_⟩; clear hK K)
  refine wpQuiet_nil ?_
  intro W1 hW1
  have hB1 := bstep (unhide HB0) hW1
  go_wp2_with fail
  refine (normal_nrm (hg.later hB1) (M.lt100_lt hN)).mono ?_
  rintro e w' ⟨rfl, rfl⟩
  go_wp2_with fail
  refine (bit_num i ((hg.later hB1).num (M.lt100_lt hN)) (by omega)).mono ?_
  rintro e w' ⟨rfl, rfl⟩
  rw [unhide HN]
  cases b
  all_goals
    go_wp2
    go_ret
    exact ⟨rfl, hB1⟩

set_option maxRecDepth 10000 in
set_option maxHeartbeats 1000000 in
theorem bits_11 {vg : Value} {N : Nat} {w : World} (xs ys : List Nat) (hx : xs.length = 32) (hy : ys.length = 32) (dx : M.Dig xs) (dy : M.Dig ys) (i : Nat) (hi : i ≤ 255) (hg : Nrm w vg N) (hN : N < M.W) (b : Bool) (hm : ∀ w, Calls Saag.prog 69 #[.int .u8 11, .int .i64 (small (M.val xs.reverse) : Nat), .agg (cellsOf ys), .int .i64 (i : Int)] w fun e w' => e = .returned (.bool b) ∧ Below w.heap.size w w') (h : N.testBit i = b) :
    Calls Saag.prog 27 #[.int .u8 11, .agg (cellsOf xs), .agg (cellsOf ys), .int .u8 (i : Int), vg] w fun e w' => e = .returned (.bool true) ∧ Below w.heap.size w w' := by
  obtain ⟨b1, b2, hB0⟩ := two_bx xs ys w
  obtain ⟨go, gn, gc, rfl, hgn, _, _⟩ := hg.len32 hN
  have B1 := hide b1
  have B2 := hide b2
  have HB0 := hide hB0
  have HX := hide hx
  have HY := hide hy
  have HN := hide h
  have hwr : IntKind.i64.wrap (i : Int) = (i : Int) := by rw [IntKind.wrap_i64]; omega
  have T1 := hide (fun w => smallOf_below xs hx dx w)
  have T2 := hide hm
  generalize small (M.val xs.reverse) = s at *
  clear hm
  clear b1 b2 hB0 hx hy h
  go_enter Saag.func27, Saag.ntmps27
  go_wp2
  generalize (w.alloc (Obj.cells (cellsOf xs) 60)).alloc (Obj.cells (cellsOf ys) 60) = W0 at *
  refine region_below (by kernel_rfl) (by kernel_rfl) ?_
  iterate 1 (refine wpQuiet_step (fun K hK => ?_); go_simp; refine ⟨_, fun _ _ => rfl, hK _ ?_⟩; clear hK K)
  refine wpQuiet_load60 rfl _ rfl _ rfl xs (unhide HX) (unhide B1) ?_
  (refine wpQuiet_step (fun K hK => ?_); go_simp; refine ⟨_, fun w1 hw1 => (unhide T1 w1).mono (fun e w2 h => ⟨h.1, bstep hw1 h.2⟩), hK _ ?_⟩; clear hK K)
  refine wpQuiet_load60 rfl _ rfl _ rfl ys (unhide HY) (unhide B2) ?_
  iterate 2 (refine wpQuiet_step (fun K hK => ?_); go_simp; refine ⟨_, fun _ _ => rfl, hK _ ?_⟩; clear hK K)
  (refine wpQuiet_step (fun K hK => ?_); go_simp; refine ⟨_, fun w1 hw1 => (unhide T2 w1).mono (fun e w2 h => ⟨h.1, bstep hw1 h.2⟩), hK _ ?_⟩; clear hK K)
  iterate 1 (refine wpQuiet_step (fun K hK => ?_); go_simp; refine ⟨_, fun _ _ => rfl, hK _ ?_⟩; clear hK K)
  refine wpQuiet_nil ?_
  intro W1 hW1
  have hB1 := bstep (unhide HB0) hW1
  go_wp2_with fail
  refine (normal_nrm (hg.later hB1) (M.lt100_lt hN)).mono ?_
  rintro e w' ⟨rfl, rfl⟩
  go_wp2_with fail
  refine (bit_num i ((hg.later hB1).num (M.lt100_lt hN)) (by omega)).mono ?_
  rintro e w' ⟨rfl, rfl⟩
  rw [unhide HN]
  cases b
  all_goals
    go_wp2
    go_ret
    exact ⟨rfl, hB1⟩

set_option maxRecDepth 10000 in
set_option maxHeartbeats 1000000 in
theorem bits_26 {vg : Value} {N : Nat} {w : World} (xs ys : List Nat) (hx : xs.length = 32) (hy : ys.length = 32) (dx : M.Dig xs) (dy : M.Dig ys) (i : Nat) (hi : i ≤ 255) (hg : Nrm w vg N) (hN : N < M.W) (b : Bool) (hm : ∀ w, Calls Saag.prog 69 #[.int .u8 26, .int .i64 (small (M.val xs.reverse) : Nat), .agg (cellsOf ys), .int .i64 (i : Int)] w fun e w' => e = .returned (.bool b) ∧ Below w.heap.size w w') (h : N.testBit i = b) :
    Calls Saag.prog 27 #[.int .u8 26, .agg (cellsOf xs), .agg (cellsOf ys), .int .u8 (i : Int), vg] w fun e w' => e = .returned (.bool true) ∧ Below w.heap.size w w' := by
  obtain ⟨b1, b2, hB0⟩ := two_bx xs ys w
  obtain ⟨go, gn, gc, rfl, hgn, _, _⟩ := hg.len32 hN
  have B1 := hide b1
  have B2 := hide b2
  have HB0 := hide hB0
  have HX := hide hx
  have HY := hide hy
  have HN := hide h
  have hwr : IntKind.i64.wrap (i : Int) = (i : Int) := by rw [IntKind.wrap_i64]; omega
  have T1 := hide (fun w => smallOf_below xs hx dx w)
  have T2 := hide hm
  generalize small (M.val xs.reverse) = s at *
  clear hm
  clear b1 b2 hB0 hx hy h
  go_enter Saag.func27, Saag.ntmps27
  go_wp2
  generalize (w.alloc (Obj.cells (cellsOf xs) 60)).alloc (Obj.cells (cellsOf ys) 60) = W0 at *
  refine region_below (by kernel_rfl) (by kernel_rfl) ?_
  iterate 1 (refine wpQuiet_step (fun K hK => ?_); go_simp; refine ⟨_, fun _ _ => rfl, hK _ ?_⟩; clear hK K)
  refine wpQuiet_load60 rfl _ rfl _ rfl xs (unhide HX) (unhide B1) ?_
  (refine wpQuiet_step (fun K hK => ?_); go_simp; refine ⟨_, fun w1 hw1 => (unhide T1 w1).mono (fun e w2 h => ⟨h.1, bstep hw1 h.2⟩), hK _ ?_⟩; clear hK K)
  refine wpQuiet_load60 rfl _ rfl _ rfl ys (unhide HY) (unhide B2) ?_
  iterate 2 (refine wpQuiet_step (fun K hK => ?_); go_simp; refine ⟨_, fun _ _ => rfl, hK _ ?_⟩; clear hK K)
  (refine wpQuiet_step (fun K hK => ?_); go_simp; refine ⟨_, fun w1 hw1 => (unhide T2 w1).mono (fun e w2 h => ⟨h.1, bstep hw1 h.2⟩), hK _ ?_⟩; clear hK K)
  iterate 1 (refine wpQuiet_step (fun K hK => ?_); go_simp; refine ⟨_, fun _ _ => rfl, hK _ ?_⟩; clear hK K)
  refine wpQuiet_nil ?_
  intro W1 hW1
  have hB1 := bstep (unhide HB0) hW1
  go_wp2_with fail
  refine (normal_nrm (hg.later hB1) (M.lt100_lt hN)).mono ?_
  rintro e w' ⟨rfl, rfl⟩
  go_wp2_with fail
  refine (bit_num i ((hg.later hB1).num (M.lt100_lt hN)) (by omega)).mono ?_
  rintro e w' ⟨rfl, rfl⟩
  rw [unhide HN]
  cases b
  all_goals
    go_wp2
    go_ret
    exact ⟨rfl, hB1⟩

set_option maxRecDepth 10000 in
set_option maxHeartbeats 1000000 in
theorem bits_16 {vg : Value} {N : Nat} {w : World} (xs ys : List Nat) (hx : xs.length = 32) (hy : ys.length = 32) (dx : M.Dig xs) (dy : M.Dig ys) (i : Nat) (hi : i ≤ 255) (hg : Nrm w vg N) (hN : N < M.W) (b : Bool) (hm : ∀ w, Calls Saag.prog 71 #[.int .u8 16, .agg (cellsOf xs), .agg (cellsOf ys)] w fun e w' => e = .returned (.bool b) ∧ Below w.heap.size w w') (h : N.testBit i = (decide (i = 0) && b)) :
    Calls Saag.prog 27 #[.int .u8 16, .agg (cellsOf xs), .agg (cellsOf ys), .int .u8 (i : Int), vg] w fun e w' => e = .returned (.bool true) ∧ Below w.heap.size w w' := by
  obtain ⟨b1, b2, hB0⟩ := two_bx xs ys w
  obtain ⟨go, gn, gc, rfl, hgn, _, _⟩ := hg.len32 hN
  have B1 := hide b1
  have B2 := hide b2
  have HB0 := hide hB0
  have HX := hide hx
  have HY := hide hy
  have HN := hide h
  have hwr : IntKind.i64.wrap (i : Int) = (i : Int) := by rw [IntKind.wrap_i64]; omega
  have T1 := hide hm
  clear hm
  clear b1 b2 hB0 hx hy h
  by_cases h0 : i = 0
  · subst h0
    go_enter Saag.func27, Saag.ntmps27
    go_wp2_with (first | (refine wpList_load60w rfl _ rfl _ rfl xs (unhide HX) (unhide B1) ?_) | (refine wpList_load60w rfl _ rfl _ rfl ys (unhide HY) (unhide B2) ?_))
    generalize (w.alloc (Obj.cells (cellsOf xs) 60)).alloc (Obj.cells (cellsOf ys) 60) = W0 at *
    refine (unhide T1 _).mono ?_
    rintro e w1 ⟨rfl, hb1⟩
    have hB1 := bstep (unhide HB0) hb1
    go_wp2_with fail
    refine (normal_nrm (hg.later hB1) (M.lt100_lt hN)).mono ?_
    rintro e w' ⟨rfl, rfl⟩
    go_wp2_with fail
    refine (bit_num 0 ((hg.later hB1).num (M.lt100_lt hN)) (by omega)).mono ?_
    rintro e w' ⟨rfl, rfl⟩
    rw [unhide HN]
    cases b
    all_goals
      go_wp2
      go_ret
      exact ⟨rfl, hB1⟩
  · have hne : ((i : Int) == 0) = false := by simp; omega
    have hd : decide (i = 0) = false := by simp [h0]
    rw [hd, Bool.false_and] at HN
    clear h0 hd
    go_enter Saag.func27, Saag.ntmps27
    go_wp2_with fail
    have hB1 := unhide HB0
    generalize (w.alloc (Obj.cells (cellsOf xs) 60)).alloc (Obj.cells (cellsOf ys) 60) = W0 at *
    refine (normal_nrm (hg.later hB1) (M.lt100_lt hN)).mono ?_
    rintro e w' ⟨rfl, rfl⟩
    go_wp2_with fail
    refine (bit_num i ((hg.later hB1).num (M.lt100_lt hN)) (by omega)).mono ?_
    rintro e w' ⟨rfl, rfl⟩
    rw [unhide HN]
    go_wp2
    go_ret
    exact ⟨rfl, hB1⟩

set_option maxRecDepth 10000 in
set_option maxHeartbeats 1000000 in
theorem bits_17 {vg : Value} {N : Nat} {w : World} (xs ys : List Nat) (hx : xs.length = 32) (hy : ys.length = 32) (dx : M.Dig xs) (dy : M.Dig ys) (i : Nat) (hi : i ≤ 255) (hg : Nrm w vg N) (hN : N < M.W) (b : Bool) (hm : ∀ w, Calls Saag.prog 71 #[.int .u8 17, .agg (cellsOf xs), .agg (cellsOf ys)] w fun e w' => e = .returned (.bool b) ∧ Below w.heap.size w w') (h : N.testBit i = (decide (i = 0) && b)) :
    Calls Saag.prog 27 #[.int .u8 17, .agg (cellsOf xs), .agg (cellsOf ys), .int .u8 (i : Int), vg] w fun e w' => e = .returned (.bool true) ∧ Below w.heap.size w w' := by
  obtain ⟨b1, b2, hB0⟩ := two_bx xs ys w
  obtain ⟨go, gn, gc, rfl, hgn, _, _⟩ := hg.len32 hN
  have B1 := hide b1
  have B2 := hide b2
  have HB0 := hide hB0
  have HX := hide hx
  have HY := hide hy
  have HN := hide h
  have hwr : IntKind.i64.wrap (i : Int) = (i : Int) := by rw [IntKind.wrap_i64]; omega
  have T1 := hide hm
  clear hm
  clear b1 b2 hB0 hx hy h
  by_cases h0 : i = 0
  · subst h0
    go_enter Saag.func27, Saag.ntmps27
    go_wp2_with (first | (refine wpList_load60w rfl _ rfl _ rfl xs (unhide HX) (unhide B1) ?_) | (refine wpList_load60w rfl _ rfl _ rfl ys (unhide HY) (unhide B2) ?_))
    generalize (w.alloc (Obj.cells (cellsOf xs) 60)).alloc (Obj.cells (cellsOf ys) 60) = W0 at *
    refine (unhide T1 _).mono ?_
    rintro e w1 ⟨rfl, hb1⟩
    have hB1 := bstep (unhide HB0) hb1
    go_wp2_with fail
    refine (normal_nrm (hg.later hB1) (M.lt100_lt hN)).mono ?_
    rintro e w' ⟨rfl, rfl⟩
    go_wp2_with fail
    refine (bit_num 0 ((hg.later hB1).num (M.lt100_lt hN)) (by omega)).mono ?_
    rintro e w' ⟨rfl, rfl⟩
    rw [unhide HN]
    cases b
    all_goals
      go_wp2
      go_ret
      exact ⟨rfl, hB1⟩
  · have hne : ((i : Int) == 0) = false := by simp; omega
    have hd : decide (i = 0) = false := by simp [h0]
    rw [hd, Bool.false_and] at HN
    clear h0 hd
    go_enter Saag.func27, Saag.ntmps27
    go_wp2_with fail
    have hB1 := unhide HB0
    generalize (w.alloc (Obj.cells (cellsOf xs) 60)).alloc (Obj.cells (cellsOf ys) 60) = W0 at *
    refine (normal_nrm (hg.later hB1) (M.lt100_lt hN)).mono ?_
    rintro e w' ⟨rfl, rfl⟩
    go_wp2_with fail
    refine (bit_num i ((hg.later hB1).num (M.lt100_lt hN)) (by omega)).mono ?_
    rintro e w' ⟨rfl, rfl⟩
    rw [unhide HN]
    go_wp2
    go_ret
    exact ⟨rfl, hB1⟩

set_option maxRecDepth 10000 in
set_option maxHeartbeats 1000000 in
theorem bits_18 {vg : Value} {N : Nat} {w : World} (xs ys : List Nat) (hx : xs.length = 32) (hy : ys.length = 32) (dx : M.Dig xs) (dy : M.Dig ys) (i : Nat) (hi : i ≤ 255) (hg : Nrm w vg N) (hN : N < M.W) (b : Bool) (hm : ∀ w, Calls Saag.prog 71 #[.int .u8 18, .agg (cellsOf xs), .agg (cellsOf ys)] w fun e w' => e = .returned (.bool b) ∧ Below w.heap.size w w') (h : N.testBit i = (decide (i = 0) && b)) :
    Calls Saag.prog 27 #[.int .u8 18, .agg (cellsOf xs), .agg (cellsOf ys), .int .u8 (i : Int), vg] w fun e w' => e = .returned (.bool true) ∧ Below w.heap.size w w' := by
  obtain ⟨b1, b2, hB0⟩ := two_bx xs ys w
  obtain ⟨go, gn, gc, rfl, hgn, _, _⟩ := hg.len32 hN
  have B1 := hide b1
  have B2 := hide b2
  have HB0 := hide hB0
  have HX := hide hx
  have HY := hide hy
  have HN := hide h
  have hwr : IntKind.i64.wrap (i : Int) = (i : Int) := by rw [IntKind.wrap_i64]; omega
  have T1 := hide hm
  clear hm
  clear b1 b2 hB0 hx hy h
  by_cases h0 : i = 0
  · subst h0
    go_enter Saag.func27, Saag.ntmps27
    go_wp2_with (first | (refine wpList_load60w rfl _ rfl _ rfl xs (unhide HX) (unhide B1) ?_) | (refine wpList_load60w rfl _ rfl _ rfl ys (unhide HY) (unhide B2) ?_))
    generalize (w.alloc (Obj.cells (cellsOf xs) 60)).alloc (Obj.cells (cellsOf ys) 60) = W0 at *
    refine (unhide T1 _).mono ?_
    rintro e w1 ⟨rfl, hb1⟩
    have hB1 := bstep (unhide HB0) hb1
    go_wp2_with fail
    refine (normal_nrm (hg.later hB1) (M.lt100_lt hN)).mono ?_
    rintro e w' ⟨rfl, rfl⟩
    go_wp2_with fail
    refine (bit_num 0 ((hg.later hB1).num (M.lt100_lt hN)) (by omega)).mono ?_
    rintro e w' ⟨rfl, rfl⟩
    rw [unhide HN]
    cases b
    all_goals
      go_wp2
      go_ret
      exact ⟨rfl, hB1⟩
  · have hne : ((i : Int) == 0) = false := by simp; omega
    have hd : decide (i = 0) = false := by simp [h0]
    rw [hd, Bool.false_and] at HN
    clear h0 hd
    go_enter Saag.func27, Saag.ntmps27
    go_wp2_with fail
    have hB1 := unhide HB0
    generalize (w.alloc (Obj.cells (cellsOf xs) 60)).alloc (Obj.cells (cellsOf ys) 60) = W0 at *
    refine (normal_nrm (hg.later hB1) (M.lt100_lt hN)).mono ?_
    rintro e w' ⟨rfl, rfl⟩
    go_wp2_with fail
    refine (bit_num i ((hg.later hB1).num (M.lt100_lt hN)) (by omega)).mono ?_
    rintro e w' ⟨rfl, rfl⟩
    rw [unhide HN]
    go_wp2
    go_ret
    exact ⟨rfl, hB1⟩

set_option maxRecDepth 10000 in
set_option maxHeartbeats 1000000 in
theorem bits_19 {vg : Value} {N : Nat} {w : World} (xs ys : List Nat) (hx : xs.length = 32) (hy : ys.length = 32) (dx : M.Dig xs) (dy : M.Dig ys) (i : Nat) (hi : i ≤ 255) (hg : Nrm w vg N) (hN : N < M.W) (b : Bool) (hm : ∀ w, Calls Saag.prog 71 #[.int .u8 19, .agg (cellsOf xs), .agg (cellsOf ys)] w fun e w' => e = .returned (.bool b) ∧ Below w.heap.size w w') (h : N.testBit i = (decide (i = 0) && b)) :
    Calls Saag.prog 27 #[.int .u8 19, .agg (cellsOf xs), .agg (cellsOf ys), .int .u8 (i : Int), vg] w fun e w' => e = .returned (.bool true) ∧ Below w.heap.size w w' := by
  obtain ⟨b1, b2, hB0⟩ := two_bx xs ys w
  obtain ⟨go, gn, gc, rfl, hgn, _, _⟩ := hg.len32 hN
  have B1 := hide b1
  have B2 := hide b2
  have HB0 := hide hB0
  have HX := hide hx
  have HY := hide hy
  have HN := hide h
  have hwr : IntKind.i64.wrap (i : Int) = (i : Int) := by rw [IntKind.wrap_i64]; omega
  have T1 := hide hm
  clear hm
  clear b1 b2 hB0 hx hy h
  by_cases h0 : i = 0
  · subst h0
    go_enter Saag.func27, Saag.ntmps27
    go_wp2_with (first | (refine wpList_load60w rfl _ rfl _ rfl xs (unhide HX) (unhide B1) ?_) | (refine wpList_load60w rfl _ rfl _ rfl ys (unhide HY) (unhide B2) ?_))
    generalize (w.alloc (Obj.cells (cellsOf xs) 60)).alloc (Obj.cells (cellsOf ys) 60) = W0 at *
    refine (unhide T1 _).mono ?_
    rintro e w1 ⟨rfl, hb1⟩
    have hB1 := bstep (unhide HB0) hb1
    go_wp2_with fail
    refine (normal_nrm (hg.later hB1) (M.lt100_lt hN)).mono ?_
    rintro e w' ⟨rfl, rfl⟩
    go_wp2_with fail
    refine (bit_num 0 ((hg.later hB1).num (M.lt100_lt hN)) (by omega)).mono ?_
    rintro e w' ⟨rfl, rfl⟩
    rw [unhide HN]
    cases b
    all_goals
      go_wp2
      go_ret
      exact ⟨rfl, hB1⟩
  · have hne : ((i : Int) == 0) = false := by simp; omega
    have hd : decide (i = 0) = false := by simp [h0]
    rw [hd, Bool.false_and] at HN
    clear h0 hd
    go_enter Saag.func27, Saag.ntmps27
    go_wp2_with fail
    have hB1 := unhide HB0
    generalize (w.alloc (Obj.cells (cellsOf xs) 60)).alloc (Obj.cells (cellsOf ys) 60) = W0 at *
    refine (normal_nrm (hg.later hB1) (M.lt100_lt hN)).mono ?_
    rintro e w' ⟨rfl, rfl⟩
    go_wp2_with fail
    refine (bit_num i ((hg.later hB1).num (M.lt100_lt hN)) (by omega)).mono ?_
    rintro e w' ⟨rfl, rfl⟩
    rw [unhide HN]
    go_wp2
    go_ret
    exact ⟨rfl, hB1⟩

set_option maxRecDepth 10000 in
set_option maxHeartbeats 1000000 in
theorem bits_20 {vg : Value} {N : Nat} {w : World} (xs ys : List Nat) (hx : xs.length = 32) (hy : ys.length = 32) (dx : M.Dig xs) (dy : M.Dig ys) (i : Nat) (hi : i ≤ 255) (hg : Nrm w vg N) (hN : N < M.W) (b : Bool) (hm : ∀ w, Calls Saag.prog 71 #[.int .u8 20, .agg (cellsOf xs), .agg (cellsOf ys)] w fun e w' => e = .returned (.bool b) ∧ Below w.heap.size w w') (h : N.testBit i = (decide (i = 0) && b)) :
    Calls Saag.prog 27 #[.int .u8 20, .agg (cellsOf xs), .agg (cellsOf ys), .int .u8 (i : Int), vg] w fun e w' => e = .returned (.bool true) ∧ Below w.heap.size w w' := by
  obtain ⟨b1, b2, hB0⟩ := two_bx xs ys w
  obtain ⟨go, gn, gc, rfl, hgn, _, _⟩ := hg.len32 hN
  have B1 := hide b1
  have B2 := hide b2
  have HB0 := hide hB0
  have HX := hide hx
  have HY := hide hy
  have HN := hide h
  have hwr : IntKind.i64.wrap (i : Int) = (i : Int) := by rw [IntKind.wrap_i64]; omega
  have T1 := hide hm
  clear hm
  clear b1 b2 hB0 hx hy h
  by_cases h0 : i = 0
  · subst h0
    go_enter Saag.func27, Saag.ntmps27
    go_wp2_with (first | (refine wpList_load60w rfl _ rfl _ rfl xs (unhide HX) (unhide B1) ?_) | (refine wpList_load60w rfl _ rfl _ rfl ys (unhide HY) (unhide B2) ?_))
    generalize (w.alloc (Obj.cells (cellsOf xs) 60)).alloc (Obj.cells (cellsOf ys) 60) = W0 at *
    refine (unhide T1 _).mono ?_
    rintro e w1 ⟨rfl, hb1⟩
    have hB1 := bstep (unhide HB0) hb1
    go_wp2_with fail
    refine (normal_nrm (hg.later hB1) (M.lt100_lt hN)).mono ?_
    rintro e w' ⟨rfl, rfl⟩
    go_wp2_with fail
    refine (bit_num 0 ((hg.later hB1).num (M.lt100_lt hN)) (by omega)).mono ?_
    rintro e w' ⟨rfl, rfl⟩
    rw [unhide HN]
    cases b
    all_goals
      go_wp2
      go_ret
      exact ⟨rfl, hB1⟩
  · have hne : ((i : Int) == 0) = false := by simp; omega
    have hd : decide (i = 0) = false := by simp [h0]
    rw [hd, Bool.false_and] at HN
    clear h0 hd
    go_enter Saag.func27, Saag.ntmps27
    go_wp2_with fail
    have hB1 := unhide HB0
    generalize (w.alloc (Obj.cells (cellsOf xs) 60)).alloc (Obj.cells (cellsOf ys) 60) = W0 at *
    refine (normal_nrm (hg.later hB1) (M.lt100_lt hN)).mono ?_
    rintro e w' ⟨rfl, rfl⟩
    go_wp2_with fail
    refine (bit_num i ((hg.later hB1).num (M.lt100_lt hN)) (by omega)).mono ?_
    rintro e w' ⟨rfl, rfl⟩
    rw [unhide HN]
    go_wp2
    go_ret
    exact ⟨rfl, hB1⟩

set_option maxRecDepth 10000 in
set_option maxHeartbeats 1000000 in
theorem bits_21 {vg : Value} {N : Nat} {w : World} (xs ys : List Nat) (hx : xs.length = 32) (hy : ys.length = 32) (dx : M.Dig xs) (dy : M.Dig ys) (i : Nat) (hi : i ≤ 255) (hg : Nrm w vg N) (hN : N < M.W) (b : Bool) (hm : ∀ w, Calls Saag.prog 71 #[.int .u8 21, .agg (cellsOf xs), .agg (cellsOf ys)] w fun e w' => e = .returned (.bool b) ∧ Below w.heap.size w w') (h : N.testBit i = (decide (i = 0) && b)) :
    Calls Saag.prog 27 #[.int .u8 21, .agg (cellsOf xs), .agg (cellsOf ys), .int .u8 (i : Int), vg] w fun e w' => e = .returned (.bool true) ∧ Below w.heap.size w w' := by
  obtain ⟨b1, b2, hB0⟩ := two_bx xs ys w
  obtain ⟨go, gn, gc, rfl, hgn, _, _⟩ := hg.len32 hN
  have B1 := hide b1
  have B2 := hide b2
  have HB0 := hide hB0
  have HX := hide hx
  have HY := hide hy
  have HN := hide h
  have hwr : IntKind.i64.wrap (i : Int) = (i : Int) := by rw [IntKind.wrap_i64]; omega
  have T1 := hide hm
  clear hm
  clear b1 b2 hB0 hx hy h
  by_cases h0 : i = 0
  · subst h0
    go_enter Saag.func27, Saag.ntmps27
    go_wp2_with (first | (refine wpList_load60w rfl _ rfl _ rfl xs (unhide HX) (unhide B1) ?_) | (refine wpList_load60w rfl _ rfl _ rfl ys (unhide HY) (unhide B2) ?_))
    generalize (w.alloc (Obj.cells (cellsOf xs) 60)).alloc (Obj.cells (cellsOf ys) 60) = W0 at *
    refine (unhide T1 _).mono ?_
    rintro e w1 ⟨rfl, hb1⟩
    have hB1 := bstep (unhide HB0) hb1
    go_wp2_with fail
    refine (normal_nrm (hg.later hB1) (M.lt100_lt hN)).mono ?_
    rintro e w' ⟨rfl, rfl⟩
    go_wp2_with fail
    refine (bit_num 0 ((hg.later hB1).num (M.lt100_lt hN)) (by omega)).mono ?_
    rintro e w' ⟨rfl, rfl⟩
    rw [unhide HN]
    cases b
    all_goals
      go_wp2
      go_ret
      exact ⟨rfl, hB1⟩
  · have hne : ((i : Int) == 0) = false := by simp; omega
    have hd : decide (i = 0) = false := by simp [h0]
    rw [hd, Bool.false_and] at HN
    clear h0 hd
    go_enter Saag.func27, Saag.ntmps27
    go_wp2_with fail
    have hB1 := unhide HB0
    generalize (w.alloc (Obj.cells (cellsOf xs) 60)).alloc (Obj.cells (cellsOf ys) 60) = W0 at *
    refine (normal_nrm (hg.later hB1) (M.lt100_lt hN)).mono ?_
    rintro e w' ⟨rfl, rfl⟩
    go_wp2_with fail
    refine (bit_num i ((hg.later hB1).num (M.lt100_lt hN)) (by omega)).mono ?_
    rintro e w' ⟨rfl, rfl⟩
    rw [unhide HN]
    go_wp2
    go_ret
    exact ⟨rfl, hB1⟩

set_option maxRecDepth 10000 in
set_option maxHeartbeats 1000000 in
theorem bits_other {vg : Value} {w : World} (xs ys : List Nat) (o i : Nat) (h22 : o ≠ 22) (h23 : o ≠ 23) (h24 : o ≠ 24) (h25 : o ≠ 25) (h27 : o ≠ 27) (h28 : o ≠ 28) (h29 : o ≠ 29) (h11 : o ≠ 11) (h26 : o ≠ 26) (h16 : o ≠ 16) (h17 : o ≠ 17) (h18 : o ≠ 18) (h19 : o ≠ 19) (h20 : o ≠ 20) (h21 : o ≠ 21) :
    Calls Saag.prog 27 #[.int .u8 (o : Int), .agg (cellsOf xs), .agg (cellsOf ys), .int .u8 (i : Int), vg] w fun e w' => e = .returned (.bool true) ∧ Below w.heap.size w w' := by
  have g22 : (((o : Nat) : Int) == 22) = false := by simp; omega
  have g23 : (((o : Nat) : Int) == 23) = false := by simp; omega
  have g24 : (((o : Nat) : Int) == 24) = false := by simp; omega
  have g25 : (((o : Nat) : Int) == 25) = false := by simp; omega
  have g27 : (((o : Nat) : Int) == 27) = false := by simp; omega
  have g28 : (((o : Nat) : Int) == 28) = false := by simp; omega
  have g29 : (((o : Nat) : Int) == 29) = false := by simp; omega
  have g11 : (((o : Nat) : Int) == 11) = false := by simp; omega
  have g26 : (((o : Nat) : Int) == 26) = false := by simp; omega
  have g16 : (((o : Nat) : Int) == 16) = false := by simp; omega
  have g17 : (((o : Nat) : Int) == 17) = false := by simp; omega
  have g18 : (((o : Nat) : Int) == 18) = false := by simp; omega
  have g19 : (((o : Nat) : Int) == 19) = false := by simp; omega
  have g20 : (((o : Nat) : Int) == 20) = false := by simp; omega
  have g21 : (((o : Nat) : Int) == 21) = false := by simp; omega
  clear h22 h23 h24 h25 h27 h28 h29 h11 h26 h16 h17 h18 h19 h20 h21
  go_enter Saag.func27, Saag.ntmps27
  go_wp2
  go_ret
  exact ⟨rfl, bstep (below_alloc _ _) (below_alloc _ _)⟩

end Go.Proofs.Ygcsaa
