/-
  What playArena and playMem share: the operation's box, the answer's box.
-/
import Derived.Test.YgcsaaArP
namespace Go.Proofs.Ygcsaa
open Go.RowKit
set_option linter.unusedSimpArgs false
set_option linter.unusedVariables false

/-- The cells of an MOp. -/
def opCells (k a b n f : Nat) : Array Value := #[.int .u8 (k : Int), .int .u32 (a : Int), .int .u32 (b : Int), .int .u32 (n : Int), .int .u8 (f : Int)]

/-- Block g is an MOp. -/
def OBox (w : World) (g k a b n f : Nat) : Prop := w.heap[g]? = some (.cells (opCells k a b n f) 80 (0, 0))
theorem OBox.new (w : World) (k a b n f : Nat) : OBox (w.alloc (.cells (opCells k a b n f) 80)) w.heap.size k a b n f := heap_alloc_new w _
theorem OBox.lt {w : World} {g k a b n f : Nat} (h : OBox w g k a b n f) : g < w.heap.size := (Array.getElem?_eq_some_iff.1 h).1
theorem OBox.below {w w' : World} {g k a b n f B : Nat} (h : OBox w g k a b n f) (hb : Below B w w') (hg : g < B) : OBox w' g k a b n f := by unfold OBox; rw [hb.block g hg]; exact h
theorem OBox.later {w w' : World} {g k a b n f : Nat} (h : OBox w g k a b n f) (hb : Below w.heap.size w w') : OBox w' g k a b n f := h.below hb h.lt
theorem OBox.kC {w : World} {g k a b n f : Nat} (h : OBox w g k a b n f) : w.cell? ⟨g, 0, none⟩ = some (.int .u8 (k : Int)) := by rw [cell_of_row w g 0 _ _ _ h]; rfl
theorem OBox.aC {w : World} {g k a b n f : Nat} (h : OBox w g k a b n f) : w.cell? ⟨g, 1, none⟩ = some (.int .u32 (a : Int)) := by rw [cell_of_row w g 1 _ _ _ h]; rfl
theorem OBox.bC {w : World} {g k a b n f : Nat} (h : OBox w g k a b n f) : w.cell? ⟨g, 2, none⟩ = some (.int .u32 (b : Int)) := by rw [cell_of_row w g 2 _ _ _ h]; rfl
theorem OBox.nC {w : World} {g k a b n f : Nat} (h : OBox w g k a b n f) : w.cell? ⟨g, 3, none⟩ = some (.int .u32 (n : Int)) := by rw [cell_of_row w g 3 _ _ _ h]; rfl
theorem OBox.fC {w : World} {g k a b n f : Nat} (h : OBox w g k a b n f) : w.cell? ⟨g, 4, none⟩ = some (.int .u8 (f : Int)) := by rw [cell_of_row w g 4 _ _ _ h]; rfl
theorem Saag.info80 : (Saag.prog.info? 80).map (·.size) = some 5 := by kernel_rfl

theorem wpList_load80 {ops : Array Oper} {rest : List Oper} {o : Oper} {a : Act} {w : World} {Q : Exit → Act → World → Prop} (hg : o.guard = none) (x : Operand) (ho : o.op = .load 80 x) (g : Nat) (hx : a.eval x = .pointer (some ⟨g, 0, none⟩))
    {k A B n f : Nat} (hb : OBox w g k A B n f) (h : wpList Saag.prog ops Q rest (a.put o.dst (.agg (opCells k A B n f))) w) : wpList Saag.prog ops Q (o :: rest) a w :=
  wpList_load_row hg 80 x ho g hx 80 _ (0, 0) _ hb Saag.underlying80 rfl (by rw [Saag.info80]; rfl) h

/-! ### The answer -/
theorem run_alloc83 (w : World) : (Instr.alloc 83 true (.tuple #[])).run Saag.prog w = .ok (.pointer (some ⟨w.heap.size, 0, none⟩)) (w.alloc (.cells (anCells false 0 Z32 (.slice none 0 0)) 83)) := by kernel_rfl

theorem wpList_alloc83 {ops : Array Oper} {rest : List Oper} {o : Oper} {a : Act} {w : World} {Q : Exit → Act → World → Prop} (hg : o.guard = none) (ho : o.op = .alloc 83)
    (h : wpList Saag.prog ops Q rest (a.put o.dst (.pointer (some ⟨w.heap.size, 0, none⟩))) (w.alloc (.cells (anCells false 0 Z32 (.slice none 0 0)) 83))) : wpList Saag.prog ops Q (o :: rest) a w := by
  refine wpList_plain hg fun K hK => ?_
  unfold Oper.wp execOp
  simp only [ho, Sem.run_bind, run_alloc83, Result.andThen_ok, Sem.run_pure]
  exact hK _ _ h

theorem NBox.upd {w w' : World} {g k size : Nat} {ok : Bool} {word : List Nat} {rv : Value} (h : NBox w g ok size word rv) (u : Upd w w' k) (hk : g ≠ k) : NBox w' g ok size word rv := ⟨by rw [u.block g hk]; exact h.blk, h.len⟩
theorem NBox.setOk {w : World} {g size : Nat} {ok : Bool} {word : List Nat} {rv : Value} (h : NBox w g ok size word rv) (b : Bool) : NBox (w.setCell ⟨g, 0, none⟩ (.bool b)) g b size word rv :=
  ⟨by rw [heap_setCell_same w g 0 _ _ _ h.blk]; simp [anCells], h.len⟩
theorem NBox.setSize {w : World} {g size : Nat} {ok : Bool} {word : List Nat} {rv : Value} (h : NBox w g ok size word rv) (n : Nat) : NBox (w.setCell ⟨g, 1, none⟩ (.int .u32 (n : Int))) g ok n word rv :=
  ⟨by rw [heap_setCell_same w g 1 _ _ _ h.blk]; simp [anCells], h.len⟩
theorem NBox.setRead {w : World} {g size : Nat} {ok : Bool} {word : List Nat} {rv : Value} (h : NBox w g ok size word rv) (v : Value) : NBox (w.setCell ⟨g, 34, none⟩ v) g ok size word v :=
  ⟨by
    rw [heap_setCell_same w g 34 _ _ _ h.blk]
    have hl := h.len
    simp only [anCells, List.setIfInBounds_toArray]
    rw [show 34 = 32 + 1 + 1 from rfl, List.set_cons_succ, List.set_cons_succ, List.set_append_right _ _ (by simp; omega)]
    simp [hl], h.len⟩

theorem anCells_one (ok : Bool) (size : Nat) (word : List Nat) (ro : Option Addr) (n c : Nat) : (anCells ok size word (.slice ro n c)).all (·.oneCell') = true := by
  refine all_oneCell_toArray ?_
  intro v hv
  simp only [List.mem_cons, List.mem_append, List.mem_map, List.not_mem_nil, or_false] at hv
  rcases hv with rfl | rfl | ⟨x, _, rfl⟩ | rfl <;> rfl

theorem wpList_load83 {ops : Array Oper} {rest : List Oper} {o : Oper} {a : Act} {w : World} {Q : Exit → Act → World → Prop} (hg : o.guard = none) (x : Operand) (ho : o.op = .load 83 x) (g : Nat) (hx : a.eval x = .pointer (some ⟨g, 0, none⟩))
    {ok : Bool} {size : Nat} {word : List Nat} {rv : Value} (hb : NBox w g ok size word rv) (h : wpList Saag.prog ops Q rest (a.put o.dst (.agg (anCells ok size word rv))) w) : wpList Saag.prog ops Q (o :: rest) a w :=
  wpList_load_row hg 83 x ho g hx 83 _ (0, 0) _ hb.blk Saag.underlying83 rfl (by rw [Saag.info83, anCells_size _ _ _ _ hb.len]) h

theorem wpList_store83 {ops : Array Oper} {rest : List Oper} {o : Oper} {a : Act} {w : World} {Q : Exit → Act → World → Prop} (hg : o.guard = none) (x y : Operand) (ho : o.op = .store 83 x y) (g : Nat) (e1 : a.eval x = .pointer (some ⟨g, 0, none⟩))
    {ok : Bool} {size : Nat} {word : List Nat} {ro : Option Addr} {n c : Nat} (e2 : a.eval y = .agg (anCells ok size word (.slice ro n c))) (hl : word.length = 32) {ok0 : Bool} {size0 : Nat} {word0 : List Nat} {rv0 : Value} (hb : NBox w g ok0 size0 word0 rv0)
    (h : ∀ w', NBox w' g ok size word (.slice ro n c) → Upd w w' g → wpList Saag.prog ops Q rest (a.put o.dst undef) w') : wpList Saag.prog ops Q (o :: rest) a w := by
  refine wpList_store_row hg 83 x y ho g _ e1 e2 83 _ hb.blk (by rw [Saag.info83, anCells_size _ _ _ _ hl]) (by rw [anCells_size _ _ _ _ hl, anCells_size _ _ _ _ hb.len]) (anCells_one _ _ _ _ _ _) (h _ ⟨?_, hl⟩ (Upd.setRow _ _ _))
  rw [setRow_heap w g _ _ 83 _ hb.blk]

theorem ret83 {fn : Func} {p : Tmp} (h : fn.results = #[.cell p 83]) (tmps : Array Value) (w : World) (g : Nat) {ok : Bool} {size : Nat} {word : List Nat} {rv : Value} (hp : tmps.getD p undef = .pointer (some ⟨g, 0, none⟩)) (hb : NBox w g ok size word rv) :
    (results fn tmps).run Saag.prog w = .ok (.agg (anCells ok size word rv)) w :=
  results_cell_row h tmps w g 83 _ (0, 0) _ hp hb.blk Saag.underlying83 rfl (by rw [Saag.info83, anCells_size _ _ _ _ hb.len])

end Go.Proofs.Ygcsaa
