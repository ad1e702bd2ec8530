/-
  law.ArenaAny: the laws.
-/
import Derived.Test.YgcsaaHo3
namespace Go.Proofs.Ygcsaa
open Go.RowKit
set_option linter.unusedSimpArgs false
set_option linter.unusedVariables false

theorem mSpec_word (k a b n f : Nat) (ss : List Nat) (fr : Nat) (L : List (List Nat)) (hd : M.Dig (topOf L)) : (mSpec k a b n f ss fr L).word.length = 32 ∧ M.Dig (mSpec k a b n f ss fr L).word := by
  have z : M.Dig Z32 := M.dig_replicate_zero 32
  by_cases h4 : k = 4
  · subst h4
    have hm : mSpec 4 a b n f ss fr L = if HasL L a 32 then ⟨true, 0, sg (topOf L) a 32, none, L⟩ else ⟨false, 0, Z32, none, L⟩ := rfl
    rw [hm]
    by_cases h : HasL L a 32
    · rw [if_pos h]; exact ⟨sg_len h.2, sg_dig hd _ _⟩
    · rw [if_neg h]; exact ⟨Z32_len, z⟩
  · have hw : (mSpec k a b n f ss fr L).word = Z32 := by
      unfold mSpec mPut
      rw [if_neg h4]
      repeat' split
      all_goals rfl
    rw [hw]
    exact ⟨Z32_len, z⟩

theorem absF_dig {xs bs : List Nat} {t : Nat} (hd : M.Dig xs) : M.Dig (topOf (absF xs bs t)) := by
  cases t with
  | zero => exact M.dig_replicate_zero 0
  | succ k => rw [absF_top]; exact sg_dig hd _ _

theorem Fresh.ast {B g : Nat} {w : World} {bv : Value} {xs bs : List Nat} {t : Nat} (hf : Fresh B w bv xs) (h : ABox w g bv bs t) (hu : U32s bs) (hg : Good xs.length bs t) : ∃ ob, ASt w g ob xs bs t ∧ ∀ b, ob = some b → B ≤ b := by
  obtain ⟨d, ⟨rfl, rfl⟩ | ⟨c, hc, rfl, hb⟩⟩ := hf
  · exact ⟨none, ⟨h, fun _ => rfl, fun b e => (by cases e), hu, hg, d⟩, fun b e => (by cases e)⟩
  · exact ⟨some c, ⟨h, fun e => (by cases e), fun b e => (by cases e; exact hb), hu, hg, d⟩, fun b e => (by cases e; exact hc)⟩

theorem wp_alloc83 {o : Oper} {a : Act} {w : World} {K : Act → World → Prop} {Q : Exit → Act → World → Prop} (ho : o.op = .alloc 83)
    (h : K (a.put o.dst (.pointer (some ⟨w.heap.size, 0, none⟩))) (w.alloc (.cells (anCells false 0 Z32 (.slice none 0 0)) 83))) : o.wp Saag.prog a w K Q := by
  unfold Oper.wp execOp
  simp only [ho, Sem.run_bind, run_alloc83, Result.andThen_ok, Sem.run_pure]
  exact h

theorem wp_store83 {o : Oper} {a : Act} {w : World} {K : Act → World → Prop} {Q : Exit → Act → World → Prop} (x y : Operand) (ho : o.op = .store 83 x y) (g : Nat) (e1 : a.eval x = .pointer (some ⟨g, 0, none⟩))
    {ok : Bool} {size : Nat} {word : List Nat} {ro : Option Addr} {n c : Nat} (e2 : a.eval y = .agg (anCells ok size word (.slice ro n c))) (hl : word.length = 32) {ok0 : Bool} {size0 : Nat} {word0 : List Nat} {rv0 : Value} (hb : NBox w g ok0 size0 word0 rv0)
    (h : ∀ w', NBox w' g ok size word (.slice ro n c) → Upd w w' g → K (a.put o.dst undef) w') : o.wp Saag.prog a w K Q := by
  have hr := wp_store_row (P := Saag.prog) (o := o) (a := a) (w := w) (K := K) (Q := Q) 83 x y ho g _ e1 e2 83 _ hb.blk (by rw [Saag.info83, anCells_size _ _ _ _ hl]) (by rw [anCells_size _ _ _ _ hl, anCells_size _ _ _ _ hb.len]) (anCells_one _ _ _ _ _ _)
  exact hr (h _ ⟨by rw [setRow_heap w g _ _ 83 _ hb.blk], hl⟩ (Upd.setRow _ _ _))

theorem yieldsIf_load80 {ops : Array Oper} {S : World → Prop} {o : Oper} {a : Act} (hw : Region.wanted o (yielded ops a.tmps) = true) (x : Operand) (ho : o.op = .load 80 x) (g : Nat) (hx : a.eval x = .pointer (some ⟨g, 0, none⟩))
    (k A B n f : Nat) (hb : ∀ w, S w → OBox w g k A B n f) : YieldsIf Saag.prog ops S o (.agg (opCells k A B n f)) a := by
  refine .inl ⟨hw, fun w hC => ?_⟩
  have hb' := hb w hC
  unfold OBox at hb'
  unfold execOp
  simp only [ho, hx, Instr.loadAt, Instr.sureAddr, Sem.run_bind, Sem.run_pure, Result.andThen_ok, run_loadVar_row w g 80 80 (opCells k A B n f) (0, 0) _ hb' Saag.underlying80 rfl (by rw [Saag.info80]; rfl)]

/-- The two boxes. -/
structure AW (w W : World) (bv : Value) (bs : List Nat) (t k a b n f : Nat) : Prop where
  ar : ABox W w.heap.size bv bs t
  op : OBox W (w.heap.size + 1) k a b n f
  bel : Below w.heap.size w W

theorem anyW (w : World) (bv : Value) (bs : List Nat) (t k a b n f : Nat) (lb : bs.length = 8) : AW w ((w.alloc (.cells (arCells bv bs t) 78)).alloc (.cells (opCells k a b n f) 80)) bv bs t k a b n f := by
  refine ⟨(ABox.new w bv bs t lb).later (below_alloc _ _), ?_, bstep (below_alloc _ _) (below_alloc _ _)⟩
  have := OBox.new (w.alloc (.cells (arCells bv bs t) 78)) k a b n f
  simpa using this

end Go.Proofs.Ygcsaa
