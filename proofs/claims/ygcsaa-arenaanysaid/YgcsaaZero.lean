import Derived.Test.YgcsaaCompared
import Derived.Laws.Tables
namespace Go.Proofs.Ygcsaa
open Go.RowKit
set_option linter.unusedSimpArgs false
set_option linter.unusedVariables false

/-- Thirty-two zero bytes. A plain definition: the walk does not lay it open. -/
def Z32 : List Nat := List.replicate 32 0

theorem Z32_len : Z32.length = 32 := by decide
theorem Z32_dig : M.Dig Z32 := M.dig_replicate_zero 32
theorem Saag.info60 : (Saag.prog.info? 60).map (·.size) = some 32 := by kernel_rfl

theorem cellsOf_size (xs : List Nat) : (cellsOf xs).size = xs.length := by simp [cellsOf]
theorem cellsOf_one (xs : List Nat) : (cellsOf xs).all (·.oneCell') = true := by
  simp only [cellsOf, Array.all_eq_true]
  intro i hi
  simp
  rfl

theorem built60 : (Saag.prog.built 60 ((#[] : Array (Nat × Operand)).map fun (i, x) => (i, (default : Value))).toList).getD #[] = cellsOf Z32 := by kernel_rfl

theorem wpList_zero60 {ops : Array Oper} {rest : List Oper} {o : Oper} {a : Act} {w : World} {Q : Exit → Act → World → Prop} (hg : o.guard = none) (ho : o.op = .build 60 #[])
    (h : wpList Saag.prog ops Q rest (a.put o.dst (.agg (cellsOf Z32))) w) : wpList Saag.prog ops Q (o :: rest) a w := by
  refine wpList_build hg 60 #[] ho (by kernel_rfl) ?_
  have e : (Saag.prog.built 60 ((#[] : Array (Nat × Operand)).map fun (i, x) => (i, a.eval x)).toList).getD #[] = cellsOf Z32 := by kernel_rfl
  rw [e]
  exact h

theorem run_alloc60 (w : World) : (Instr.alloc 60 true (.tuple #[])).run Saag.prog w = .ok (.pointer (some ⟨w.heap.size, 0, none⟩)) (w.alloc (.cells (cellsOf Z32) 60)) := by kernel_rfl

theorem wpList_alloc60 {ops : Array Oper} {rest : List Oper} {o : Oper} {a : Act} {w : World} {Q : Exit → Act → World → Prop} (hg : o.guard = none) (ho : o.op = .alloc 60)
    (h : wpList Saag.prog ops Q rest (a.put o.dst (.pointer (some ⟨w.heap.size, 0, none⟩))) (w.alloc (.cells (cellsOf Z32) 60))) : wpList Saag.prog ops Q (o :: rest) a w := by
  refine wpList_plain hg fun K hK => ?_
  unfold Oper.wp execOp
  simp only [ho, Sem.run_bind, run_alloc60, Result.andThen_ok, Sem.run_pure]
  exact hK _ _ h

/-- A [32]byte stored into the block that was just laid for it. -/
theorem wpList_store60 {ops : Array Oper} {rest : List Oper} {o : Oper} {a : Act} {w : World} {Q : Exit → Act → World → Prop} (hg : o.guard = none) (x y : Operand) (ho : o.op = .store 60 x y) (xs : List Nat) (hx : xs.length = 32)
    (g : Nat) (e1 : a.eval x = .pointer (some ⟨g, 0, none⟩)) (e2 : a.eval y = .agg (cellsOf xs)) (hgw : g = w.heap.size)
    (h : wpList Saag.prog ops Q rest (a.put o.dst undef) (w.alloc (.cells (cellsOf xs) 60))) : wpList Saag.prog ops Q (o :: rest) a (w.alloc (.cells (cellsOf Z32) 60)) := by
  subst hgw
  refine wpList_store_row hg 60 x y ho w.heap.size (cellsOf xs) e1 e2 60 (cellsOf Z32) (heap_alloc_new w _) (by rw [Saag.info60, cellsOf_size, hx]) (by rw [cellsOf_size, cellsOf_size, hx, Z32_len]) (cellsOf_one xs) ?_
  have e : (w.alloc (.cells (cellsOf Z32) 60)).setRow w.heap.size (cellsOf xs) = w.alloc (.cells (cellsOf xs) 60) := by
    unfold World.setRow World.alloc
    congr 1
    apply Array.ext_getElem?
    intro k
    simp only [Array.getElem?_modify, Array.getElem?_push]
    by_cases hk : k = w.heap.size
    · subst hk; simp
    · simp [hk, Ne.symm hk]
  rw [e]
  exact h

end Go.Proofs.Ygcsaa
