/-
  law.arenaAnyHolds: the laws.
-/
import Derived.Test.YgcsaaArZ
namespace Go.Proofs.Ygcsaa
open Go.RowKit
set_option linter.unusedSimpArgs false
set_option linter.unusedVariables false

/-! ### A Mem laid, stored, loaded -/
theorem run_alloc148 (w : World) : (Instr.alloc 148 true (.tuple #[])).run Saag.prog w = .ok (.pointer (some ⟨w.heap.size, 0, none⟩)) (w.alloc (.cells #[.slice none 0 0] 148)) := by kernel_rfl

theorem wpList_alloc148 {ops : Array Oper} {rest : List Oper} {o : Oper} {a : Act} {w : World} {Q : Exit → Act → World → Prop} (hg : o.guard = none) (ho : o.op = .alloc 148)
    (h : wpList Saag.prog ops Q rest (a.put o.dst (.pointer (some ⟨w.heap.size, 0, none⟩))) (w.alloc (.cells #[.slice none 0 0] 148))) : wpList Saag.prog ops Q (o :: rest) a w := by
  refine wpList_plain hg fun K hK => ?_
  unfold Oper.wp execOp
  simp only [ho, Sem.run_bind, run_alloc148, Result.andThen_ok, Sem.run_pure]
  exact hK _ _ h

theorem wpList_store148 {ops : Array Oper} {rest : List Oper} {o : Oper} {a : Act} {w : World} {Q : Exit → Act → World → Prop} (hg : o.guard = none) (x y : Operand) (ho : o.op = .store 148 x y) (g : Nat) (e1 : a.eval x = .pointer (some ⟨g, 0, none⟩))
    {ao : Option Addr} {n cap : Nat} (e2 : a.eval y = .agg #[.slice ao n cap]) {v0 : Value} (hb : MBox w g v0)
    (h : ∀ w', MBox w' g (.slice ao n cap) → Upd w w' g → wpList Saag.prog ops Q rest (a.put o.dst undef) w') : wpList Saag.prog ops Q (o :: rest) a w := by
  refine wpList_store_row hg 148 x y ho g _ e1 e2 148 _ hb (by rw [Saag.info148]; rfl) rfl (all_oneCell_toArray (cs := [.slice ao n cap]) (fun v hv => by cases List.mem_singleton.1 hv; rfl)) (h _ ?_ (Upd.setRow _ _ _))
  unfold MBox
  rw [setRow_heap w g _ _ 148 _ hb]

theorem wpList_load83w {ops : Array Oper} {rest : List Oper} {o : Oper} {a : Act} {w : World} {Q : Exit → Act → World → Prop} (hg : Region.wanted o (yielded ops a.tmps) = true) (x : Operand) (ho : o.op = .load 83 x) (g : Nat) (hx : a.eval x = .pointer (some ⟨g, 0, none⟩))
    {ok : Bool} {size : Nat} {word : List Nat} {rv : Value} (hb : NBox w g ok size word rv) (h : wpList Saag.prog ops Q rest (a.put o.dst (.agg (anCells ok size word rv))) w) : wpList Saag.prog ops Q (o :: rest) a w := by
  unfold wpList
  rw [if_pos hg]
  exact .inl (wp_load_row 83 x ho g hx 83 _ (0, 0) _ hb.blk Saag.underlying83 rfl (by rw [Saag.info83, anCells_size _ _ _ _ hb.len]) h)

theorem yieldsIf_load78 {ops : Array Oper} {S : World → Prop} {o : Oper} {a : Act} (hw : Region.wanted o (yielded ops a.tmps) = true) (x : Operand) (ho : o.op = .load 78 x) (g : Nat) (hx : a.eval x = .pointer (some ⟨g, 0, none⟩))
    (bv : Value) (bs : List Nat) (t : Nat) (hb : ∀ w, S w → ABox w g bv bs t) : YieldsIf Saag.prog ops S o (.agg (arCells bv bs t)) a := by
  refine .inl ⟨hw, fun w hC => ?_⟩
  have hb' := hb w hC
  unfold execOp
  simp only [ho, hx, Instr.loadAt, Instr.sureAddr, Sem.run_bind, Sem.run_pure, Result.andThen_ok, run_loadVar_row w g 78 78 (arCells bv bs t) (0, 0) _ hb'.blk Saag.underlying78 rfl (by rw [Saag.info78, arCells_size _ _ _ hb'.len])]

theorem yieldsIf_load148 {ops : Array Oper} {S : World → Prop} {o : Oper} {a : Act} (hw : Region.wanted o (yielded ops a.tmps) = true) (x : Operand) (ho : o.op = .load 148 x) (g : Nat) (hx : a.eval x = .pointer (some ⟨g, 0, none⟩))
    (v : Value) (hb : ∀ w, S w → MBox w g v) : YieldsIf Saag.prog ops S o (.agg #[v]) a := by
  refine .inl ⟨hw, fun w hC => ?_⟩
  have hb' := hb w hC
  unfold execOp
  simp only [ho, hx, Instr.loadAt, Instr.sureAddr, Sem.run_bind, Sem.run_pure, Result.andThen_ok, run_loadVar_row w g 148 148 #[v] (0, 0) _ hb' Saag.underlying148 rfl (by rw [Saag.info148]; rfl)]

/-! ### The four boxes -/
structure HW (w W : World) (kv : Value) (kb : List Nat) (kt : Nat) (pv : Value) (pb : List Nat) (pt k a b n f : Nat) (ok : Bool) (size : Nat) (word : List Nat) (rv : Value) : Prop where
  kept : ABox W w.heap.size kv kb kt
  played : ABox W (w.heap.size + 1) pv pb pt
  op : OBox W (w.heap.size + 1 + 1) k a b n f
  ans : NBox W (w.heap.size + 1 + 1 + 1) ok size word rv
  bel : Below w.heap.size w W
  size : W.heap.size = w.heap.size + 4

theorem holdsW (w : World) (kv : Value) (kb : List Nat) (kt : Nat) (pv : Value) (pb : List Nat) (pt k a b n f : Nat) (ok : Bool) (size : Nat) (word : List Nat) (rv : Value) (lk : kb.length = 8) (lp : pb.length = 8) (lw : word.length = 32) :
    HW w ((((w.alloc (.cells (arCells kv kb kt) 78)).alloc (.cells (arCells pv pb pt) 78)).alloc (.cells (opCells k a b n f) 80)).alloc (.cells (anCells ok size word rv) 83)) kv kb kt pv pb pt k a b n f ok size word rv := by
  refine ⟨?_, ?_, ?_, ?_, ?_, ?_⟩
  · exact (((ABox.new w kv kb kt lk).later (below_alloc _ _)).later (below_alloc _ _)).later (below_alloc _ _)
  · have := ((ABox.new (w.alloc (.cells (arCells kv kb kt) 78)) pv pb pt lp).later (below_alloc _ (.cells (opCells k a b n f) 80))).later (below_alloc _ (.cells (anCells ok size word rv) 83))
    simpa using this
  · have := (OBox.new ((w.alloc (.cells (arCells kv kb kt) 78)).alloc (.cells (arCells pv pb pt) 78)) k a b n f).later (below_alloc _ (.cells (anCells ok size word rv) 83))
    simpa using this
  · have := NBox.new (((w.alloc (.cells (arCells kv kb kt) 78)).alloc (.cells (arCells pv pb pt) 78)).alloc (.cells (opCells k a b n f) 80)) ok size word rv lw
    simpa using this
  · exact bstep (bstep (bstep (below_alloc _ _) (below_alloc _ _)) (below_alloc _ _)) (below_alloc _ _)
  · simp

end Go.Proofs.Ygcsaa
