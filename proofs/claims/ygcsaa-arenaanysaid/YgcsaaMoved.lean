import Derived.Test.YgcsaaCompared2
namespace Go.Proofs.Ygcsaa
open Go.RowKit
set_option linter.unusedSimpArgs false
set_option linter.unusedVariables false

/-- Block g holds a [32]byte. -/
def Bx (w : World) (g : Nat) (xs : List Nat) : Prop := w.heap[g]? = some (.cells (cellsOf xs) 60 (0, 0))

theorem Bx.new (w : World) (xs : List Nat) : Bx (w.alloc (.cells (cellsOf xs) 60)) w.heap.size xs := heap_alloc_new w _
theorem Bx.later {w w' : World} {g : Nat} {xs : List Nat} (h : Bx w g xs) (hb : Below w.heap.size w w') : Bx w' g xs := by
  unfold Bx
  rw [hb.block g (Array.getElem?_eq_some_iff.1 h).1]
  exact h

theorem wpList_load60 {ops : Array Oper} {rest : List Oper} {o : Oper} {a : Act} {w : World} {Q : Exit → Act → World → Prop} (hg : o.guard = none) (x : Operand) (ho : o.op = .load 60 x) (g : Nat) (hx : a.eval x = .pointer (some ⟨g, 0, none⟩))
    (xs : List Nat) (hl : xs.length = 32) (hb : Bx w g xs) (h : wpList Saag.prog ops Q rest (a.put o.dst (.agg (cellsOf xs))) w) : wpList Saag.prog ops Q (o :: rest) a w :=
  wpList_load_row hg 60 x ho g hx 60 (cellsOf xs) (0, 0) _ hb Saag.underlying60 rfl (by rw [Saag.info60, cellsOf_size, hl]) h

theorem wp_load60 {o : Oper} {a : Act} {w : World} {K : Act → World → Prop} {Q : Exit → Act → World → Prop} (x : Operand) (ho : o.op = .load 60 x) (g : Nat) (hx : a.eval x = .pointer (some ⟨g, 0, none⟩))
    (xs : List Nat) (hl : xs.length = 32) (hb : Bx w g xs) (h : K (a.put o.dst (.agg (cellsOf xs))) w) : o.wp Saag.prog a w K Q :=
  wp_load_row 60 x ho g hx 60 (cellsOf xs) (0, 0) _ hb Saag.underlying60 rfl (by rw [Saag.info60, cellsOf_size, hl]) h

theorem wpList_load60w {ops : Array Oper} {rest : List Oper} {o : Oper} {a : Act} {w : World} {Q : Exit → Act → World → Prop} (hg : Region.wanted o (yielded ops a.tmps) = true) (x : Operand) (ho : o.op = .load 60 x) (g : Nat) (hx : a.eval x = .pointer (some ⟨g, 0, none⟩))
    (xs : List Nat) (hl : xs.length = 32) (hb : Bx w g xs) (h : wpList Saag.prog ops Q rest (a.put o.dst (.agg (cellsOf xs))) w) : wpList Saag.prog ops Q (o :: rest) a w := by
  unfold wpList
  rw [if_pos hg]
  exact .inl (wp_load60 x ho g hx xs hl hb h)

set_option maxRecDepth 10000 in
set_option maxHeartbeats 1000000 in
theorem moved_27 (ys : List Nat) (hy : ys.length = 32) (dy : M.Dig ys) (n i : Nat) (hn : n ≤ 256) (hi : i ≤ 255) (w : World) :
    Calls Saag.prog 69 #[.int .u8 27, .int .i64 (n : Int), .agg (cellsOf ys), .int .i64 (i : Int)] w fun e w' => e = .returned (.bool (bitZ (M.val ys.reverse) ((i : Int) - (n : Int)))) ∧ Below w.heap.size w w' := by
  have hbx := hide (Bx.new w ys)
  have T := hide (fun w j h0 h1 => bitOf_num ys hy dy j h0 h1 w)
  have HY := hide hy
  clear hy
  go_enter Saag.func69, Saag.ntmps69
  go_wp2_with (first | (refine wpList_load60 rfl _ rfl _ rfl ys (unhide HY) (unhide hbx) ?_) | (refine wpList_load60w rfl _ rfl _ rfl ys (unhide HY) (unhide hbx) ?_))
  refine (unhide T _ _ (by omega) (by omega)).mono ?_
  rintro e w' ⟨rfl, rfl⟩
  go_wp2
  go_ret
  exact ⟨rfl, bstep (below_alloc _ _) (below_alloc _ _)⟩

set_option maxRecDepth 10000 in
set_option maxHeartbeats 1000000 in
theorem moved_28 (ys : List Nat) (hy : ys.length = 32) (dy : M.Dig ys) (n i : Nat) (hn : n ≤ 256) (hi : i ≤ 255) (w : World) :
    Calls Saag.prog 69 #[.int .u8 28, .int .i64 (n : Int), .agg (cellsOf ys), .int .i64 (i : Int)] w fun e w' => e = .returned (.bool (bitZ (M.val ys.reverse) ((i : Int) + (n : Int)))) ∧ Below w.heap.size w w' := by
  have hbx := hide (Bx.new w ys)
  have T := hide (fun w j h0 h1 => bitOf_num ys hy dy j h0 h1 w)
  have HY := hide hy
  clear hy
  go_enter Saag.func69, Saag.ntmps69
  go_wp2_with (first | (refine wpList_load60 rfl _ rfl _ rfl ys (unhide HY) (unhide hbx) ?_) | (refine wpList_load60w rfl _ rfl _ rfl ys (unhide HY) (unhide hbx) ?_))
  refine (unhide T _ _ (by omega) (by omega)).mono ?_
  rintro e w' ⟨rfl, rfl⟩
  go_wp2
  go_ret
  exact ⟨rfl, bstep (below_alloc _ _) (below_alloc _ _)⟩

set_option maxRecDepth 10000 in
set_option maxHeartbeats 1000000 in
theorem moved_29a (ys : List Nat) (hy : ys.length = 32) (dy : M.Dig ys) (n i : Nat) (hn : n ≤ 256) (hi : i ≤ 255) (h : i + n ≤ 255) (w : World) :
    Calls Saag.prog 69 #[.int .u8 29, .int .i64 (n : Int), .agg (cellsOf ys), .int .i64 (i : Int)] w fun e w' => e = .returned (.bool (bitZ (M.val ys.reverse) ((i : Int) + (n : Int)))) ∧ Below w.heap.size w w' := by
  have hbx := hide (Bx.new w ys)
  have T := hide (fun w j h0 h1 => bitOf_num ys hy dy j h0 h1 w)
  have HY := hide hy
  clear hy
  go_enter Saag.func69, Saag.ntmps69
  go_wp2_with (first | (refine wpList_load60 rfl _ rfl _ rfl ys (unhide HY) (unhide hbx) ?_) | (refine wpList_load60w rfl _ rfl _ rfl ys (unhide HY) (unhide hbx) ?_))
  refine (unhide T _ _ (by omega) (by omega)).mono ?_
  rintro e w' ⟨rfl, rfl⟩
  go_wp2
  go_ret
  exact ⟨rfl, bstep (below_alloc _ _) (below_alloc _ _)⟩

set_option maxRecDepth 10000 in
set_option maxHeartbeats 1000000 in
theorem moved_29b (ys : List Nat) (hy : ys.length = 32) (dy : M.Dig ys) (n i : Nat) (hn : n ≤ 256) (hi : i ≤ 255) (h : 255 < i + n) (w : World) :
    Calls Saag.prog 69 #[.int .u8 29, .int .i64 (n : Int), .agg (cellsOf ys), .int .i64 (i : Int)] w fun e w' => e = .returned (.bool (bitZ (M.val ys.reverse) 255)) ∧ Below w.heap.size w w' := by
  have hbx := hide (Bx.new w ys)
  have T := hide (fun w j h0 h1 => bitOf_num ys hy dy j h0 h1 w)
  have HY := hide hy
  clear hy
  go_enter Saag.func69, Saag.ntmps69
  go_wp2_with (first | (refine wpList_load60 rfl _ rfl _ rfl ys (unhide HY) (unhide hbx) ?_) | (refine wpList_load60w rfl _ rfl _ rfl ys (unhide HY) (unhide hbx) ?_))
  refine (unhide T _ _ (by omega) (by omega)).mono ?_
  rintro e w' ⟨rfl, rfl⟩
  go_wp2
  go_ret
  exact ⟨rfl, bstep (below_alloc _ _) (below_alloc _ _)⟩

set_option maxRecDepth 10000 in
set_option maxHeartbeats 1000000 in
theorem moved_11a (ys : List Nat) (hy : ys.length = 32) (dy : M.Dig ys) (n i : Nat) (hn : n ≤ 256) (hi : i ≤ 255) (h31 : n < 31) (h : i ≤ 8 * n + 7) (w : World) :
    Calls Saag.prog 69 #[.int .u8 11, .int .i64 (n : Int), .agg (cellsOf ys), .int .i64 (i : Int)] w fun e w' => e = .returned (.bool (bitZ (M.val ys.reverse) (i : Int))) ∧ Below w.heap.size w w' := by
  have hbx := hide (Bx.new w ys)
  have T := hide (fun w j h0 h1 => bitOf_num ys hy dy j h0 h1 w)
  have HY := hide hy
  clear hy
  go_enter Saag.func69, Saag.ntmps69
  go_wp2_with (first | (refine wpList_load60 rfl _ rfl _ rfl ys (unhide HY) (unhide hbx) ?_) | (refine wpList_load60w rfl _ rfl _ rfl ys (unhide HY) (unhide hbx) ?_))
  refine (unhide T _ _ (by omega) (by omega)).mono ?_
  rintro e w' ⟨rfl, rfl⟩
  go_wp2
  go_ret
  exact ⟨rfl, bstep (below_alloc _ _) (below_alloc _ _)⟩

set_option maxRecDepth 10000 in
set_option maxHeartbeats 1000000 in
theorem moved_11b (ys : List Nat) (hy : ys.length = 32) (dy : M.Dig ys) (n i : Nat) (hn : n ≤ 256) (hi : i ≤ 255) (h31 : n < 31) (h : 8 * n + 7 < i) (w : World) :
    Calls Saag.prog 69 #[.int .u8 11, .int .i64 (n : Int), .agg (cellsOf ys), .int .i64 (i : Int)] w fun e w' => e = .returned (.bool (bitZ (M.val ys.reverse) (8 * (n : Int) + 7))) ∧ Below w.heap.size w w' := by
  have hbx := hide (Bx.new w ys)
  have T := hide (fun w j h0 h1 => bitOf_num ys hy dy j h0 h1 w)
  have HY := hide hy
  clear hy
  go_enter Saag.func69, Saag.ntmps69
  go_wp2_with (first | (refine wpList_load60 rfl _ rfl _ rfl ys (unhide HY) (unhide hbx) ?_) | (refine wpList_load60w rfl _ rfl _ rfl ys (unhide HY) (unhide hbx) ?_))
  refine (unhide T _ _ (by omega) (by omega)).mono ?_
  rintro e w' ⟨rfl, rfl⟩
  go_wp2
  go_ret
  exact ⟨rfl, bstep (below_alloc _ _) (below_alloc _ _)⟩

set_option maxRecDepth 10000 in
set_option maxHeartbeats 1000000 in
theorem moved_11c (ys : List Nat) (hy : ys.length = 32) (dy : M.Dig ys) (n i : Nat) (hn : n ≤ 256) (hi : i ≤ 255) (h31 : 31 ≤ n) (w : World) :
    Calls Saag.prog 69 #[.int .u8 11, .int .i64 (n : Int), .agg (cellsOf ys), .int .i64 (i : Int)] w fun e w' => e = .returned (.bool (bitZ (M.val ys.reverse) (i : Int))) ∧ Below w.heap.size w w' := by
  have hbx := hide (Bx.new w ys)
  have T := hide (fun w j h0 h1 => bitOf_num ys hy dy j h0 h1 w)
  have HY := hide hy
  clear hy
  go_enter Saag.func69, Saag.ntmps69
  go_wp2_with (first | (refine wpList_load60 rfl _ rfl _ rfl ys (unhide HY) (unhide hbx) ?_) | (refine wpList_load60w rfl _ rfl _ rfl ys (unhide HY) (unhide hbx) ?_))
  refine (unhide T _ _ (by omega) (by omega)).mono ?_
  rintro e w' ⟨rfl, rfl⟩
  go_wp2
  go_ret
  exact ⟨rfl, bstep (below_alloc _ _) (below_alloc _ _)⟩

set_option maxRecDepth 10000 in
set_option maxHeartbeats 1000000 in
theorem moved_26a (ys : List Nat) (hy : ys.length = 32) (dy : M.Dig ys) (n i : Nat) (hn : n ≤ 256) (hi : i ≤ 255) (h1 : n < 32) (h2 : i < 8) (w : World) :
    Calls Saag.prog 69 #[.int .u8 26, .int .i64 (n : Int), .agg (cellsOf ys), .int .i64 (i : Int)] w fun e w' => e = .returned (.bool (bitZ (M.val ys.reverse) (8 * (31 - (n : Int)) + (i : Int)))) ∧ Below w.heap.size w w' := by
  have hbx := hide (Bx.new w ys)
  have T := hide (fun w j h0 h1 => bitOf_num ys hy dy j h0 h1 w)
  have HY := hide hy
  clear hy
  have g1 : decide ((n : Int) < 32) = true := decide_eq_true (by omega)
  have g2 : decide ((i : Int) < 8) = true := decide_eq_true (by omega)
  go_enter Saag.func69, Saag.ntmps69
  go_wp2_with (first | (refine wpList_load60 rfl _ rfl _ rfl ys (unhide HY) (unhide hbx) ?_) | (refine wpList_load60w rfl _ rfl _ rfl ys (unhide HY) (unhide hbx) ?_))
  refine (unhide T _ _ (by omega) (by omega)).mono ?_
  rintro e w' ⟨rfl, rfl⟩
  go_wp2
  go_ret
  exact ⟨rfl, bstep (below_alloc _ _) (below_alloc _ _)⟩

set_option maxRecDepth 10000 in
set_option maxHeartbeats 1000000 in
theorem moved_26b (ys : List Nat) (n i : Nat) (hn : n ≤ 256) (hi : i ≤ 255) (h1 : n < 32) (h2 : 8 ≤ i) (w : World) :
    Calls Saag.prog 69 #[.int .u8 26, .int .i64 (n : Int), .agg (cellsOf ys), .int .i64 (i : Int)] w fun e w' => e = .returned (.bool false) ∧ Below w.heap.size w w' := by
  go_enter Saag.func69, Saag.ntmps69
  go_wp2
  go_ret
  exact ⟨rfl, below_alloc _ _⟩

set_option maxRecDepth 10000 in
set_option maxHeartbeats 1000000 in
theorem moved_26c (ys : List Nat) (n i : Nat) (hn : n ≤ 256) (hi : i ≤ 255) (h1 : 32 ≤ n) (w : World) :
    Calls Saag.prog 69 #[.int .u8 26, .int .i64 (n : Int), .agg (cellsOf ys), .int .i64 (i : Int)] w fun e w' => e = .returned (.bool false) ∧ Below w.heap.size w w' := by
  go_enter Saag.func69, Saag.ntmps69
  go_wp2
  go_ret
  exact ⟨rfl, below_alloc _ _⟩

end Go.Proofs.Ygcsaa
