import Derived.Test.YgcsaaMoved
namespace Go.Proofs.Ygcsaa
open Go.RowKit
set_option linter.unusedSimpArgs false
set_option linter.unusedVariables false

/-- A region that draws its order, whose operations only read and whose callees make blocks at most: one walk, in the order of the text. -/
theorem region_below {id : Nat} {Q : Exit → Act → World → Prop} {a : Act} {w : World} {l : List Oper} (hm : Saag.prog.follows .mixedOrders = true) (hB : Region.lexB .any l.toArray = true)
    (h : wpQuiet Saag.prog l.toArray (fun w' => Below w.heap.size w w') (fun a' => ∀ w', Below w.heap.size w w' → Q .normal a' w') l a) : (Code.region id l.toArray true).wp Saag.prog Q a w :=
  wp_region_quiet (C := fun w' => Below w.heap.size w w') hm hB ⟨rfl, rfl, rfl, Nat.le_refl _, fun _ _ => rfl⟩ (by simpa using h)

/-- An operation that yields v in whatever world of the class. -/
theorem wpQuiet_val {ops : Array Oper} {C : World → Prop} {Q : Act → Prop} {rest : List Oper} {o : Oper} {a : Act} (hw : Region.wanted o (yielded ops a.tmps) = true) (v : Value)
    (hrun : ∀ w, C w → (execOp a.eval o).run Saag.prog w = .ok (.value v) w) (h : wpQuiet Saag.prog ops C Q rest (a.put o.dst v)) : wpQuiet Saag.prog ops C Q (o :: rest) a := by
  unfold wpQuiet
  rw [if_pos hw]
  refine ⟨v, fun w hC => ?_, h⟩
  unfold Oper.quietAt
  rw [hrun w hC]
  exact ⟨rfl, rfl⟩

theorem wpQuiet_load60 {ops : Array Oper} {W : World} {Q : Act → Prop} {rest : List Oper} {o : Oper} {a : Act} (hw : Region.wanted o (yielded ops a.tmps) = true) (x : Operand) (ho : o.op = .load 60 x) (g : Nat) (hx : a.eval x = .pointer (some ⟨g, 0, none⟩))
    (xs : List Nat) (hl : xs.length = 32) (hb : Bx W g xs) (h : wpQuiet Saag.prog ops (fun w' => Below W.heap.size W w') Q rest (a.put o.dst (.agg (cellsOf xs)))) : wpQuiet Saag.prog ops (fun w' => Below W.heap.size W w') Q (o :: rest) a := by
  refine wpQuiet_val hw (.agg (cellsOf xs)) (fun w hC => ?_) h
  have hb' : Bx w g xs := hb.later hC
  unfold execOp
  simp only [ho, hx, Instr.loadAt, Instr.sureAddr, Sem.run_bind, Sem.run_pure, Result.andThen_ok, run_loadVar_row w g 60 60 (cellsOf xs) (0, 0) _ hb' Saag.underlying60 rfl (by rw [Saag.info60, cellsOf_size, hl])]

end Go.Proofs.Ygcsaa
