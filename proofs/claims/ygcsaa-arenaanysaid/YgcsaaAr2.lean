import Derived.Test.YgcsaaAr1
namespace Go.Proofs.Ygcsaa
open Go.RowKit
set_option linter.unusedSimpArgs false
set_option linter.unusedVariables false

theorem ABox.new (w : World) (bv : Value) (bs : List Nat) (t : Nat) (h : bs.length = 8) : ABox (w.alloc (.cells (arCells bv bs t) 78)) w.heap.size bv bs t := ⟨heap_alloc_new w _, h⟩

theorem ABox.upd {w w' : World} {g h : Nat} {bv : Value} {bs : List Nat} {t : Nat} (b : ABox w g bv bs t) (u : Upd w w' h) (hne : g ≠ h) : ABox w' g bv bs t := ⟨by rw [u.block g hne]; exact b.blk, b.len⟩
theorem Fresh.upd {B : Nat} {w w' : World} {v : Value} {xs : List Nat} {h : Nat} (f : Fresh B w v xs) (u : Upd w w' h) (hh : h < B) : Fresh B w' v xs := by
  obtain ⟨d, ⟨rfl, rfl⟩ | ⟨g, hg, rfl, hk⟩⟩ := f
  · exact ⟨d, .inl ⟨rfl, rfl⟩⟩
  · exact ⟨d, .inr ⟨g, hg, rfl, hk.upd u (by omega)⟩⟩
theorem Fresh.mono {B B' : Nat} {w : World} {v : Value} {xs : List Nat} (f : Fresh B w v xs) (hh : B' ≤ B) : Fresh B' w v xs := by
  obtain ⟨d, h | ⟨g, hg, h⟩⟩ := f
  · exact ⟨d, .inl h⟩
  · exact ⟨d, .inr ⟨g, Nat.le_trans hh hg, h⟩⟩

/-- Eight zero bases. A plain definition. -/
def Z8 : List Nat := List.replicate 8 0
theorem Z8_len : Z8.length = 8 := by decide

theorem run_alloc78 (w : World) : (Instr.alloc 78 true (.tuple #[])).run Saag.prog w = .ok (.pointer (some ⟨w.heap.size, 0, none⟩)) (w.alloc (.cells (arCells (.slice none 0 0) Z8 0) 78)) := by kernel_rfl

theorem wpList_alloc78 {ops : Array Oper} {rest : List Oper} {o : Oper} {a : Act} {w : World} {Q : Exit → Act → World → Prop} (hg : o.guard = none) (ho : o.op = .alloc 78)
    (h : wpList Saag.prog ops Q rest (a.put o.dst (.pointer (some ⟨w.heap.size, 0, none⟩))) (w.alloc (.cells (arCells (.slice none 0 0) Z8 0) 78))) : wpList Saag.prog ops Q (o :: rest) a w := by
  refine wpList_plain hg fun K hK => ?_
  unfold Oper.wp execOp
  simp only [ho, Sem.run_bind, run_alloc78, Result.andThen_ok, Sem.run_pure]
  exact hK _ _ h

theorem wpList_load78 {ops : Array Oper} {rest : List Oper} {o : Oper} {a : Act} {w : World} {Q : Exit → Act → World → Prop} (hg : o.guard = none) (x : Operand) (ho : o.op = .load 78 x) (g : Nat) (hx : a.eval x = .pointer (some ⟨g, 0, none⟩))
    {bv : Value} {bs : List Nat} {t : Nat} (hb : ABox w g bv bs t) (h : wpList Saag.prog ops Q rest (a.put o.dst (.agg (arCells bv bs t))) w) : wpList Saag.prog ops Q (o :: rest) a w :=
  wpList_load_row hg 78 x ho g hx 78 _ (0, 0) _ hb.blk Saag.underlying78 rfl (by rw [Saag.info78, arCells_size _ _ _ hb.len]) h

theorem wpList_store78 {ops : Array Oper} {rest : List Oper} {o : Oper} {a : Act} {w : World} {Q : Exit → Act → World → Prop} (hg : o.guard = none) (x y : Operand) (ho : o.op = .store 78 x y) (g : Nat) (e1 : a.eval x = .pointer (some ⟨g, 0, none⟩))
    {bo : Option Addr} {n cap : Nat} {bs : List Nat} {t : Nat} (e2 : a.eval y = .agg (arCells (.slice bo n cap) bs t)) (hl : bs.length = 8) {bv0 : Value} {bs0 : List Nat} {t0 : Nat} (hb : ABox w g bv0 bs0 t0)
    (h : ∀ w', ABox w' g (.slice bo n cap) bs t → Upd w w' g → wpList Saag.prog ops Q rest (a.put o.dst undef) w') : wpList Saag.prog ops Q (o :: rest) a w := by
  refine wpList_store_row hg 78 x y ho g _ e1 e2 78 _ hb.blk (by rw [Saag.info78, arCells_size _ _ _ hl]) (by rw [arCells_size _ _ _ hl, arCells_size _ _ _ hb.len]) (arCells_one _ _ _ _ _) (h _ ⟨?_, hl⟩ (Upd.setRow _ _ _))
  rw [setRow_heap w g _ _ 78 _ hb.blk]

/-- The result of a function that hands back an Arena. -/
theorem ret78 {fn : Func} {p : Tmp} (h : fn.results = #[.cell p 78]) (tmps : Array Value) (w : World) (g : Nat) {bv : Value} {bs : List Nat} {t : Nat} (hp : tmps.getD p undef = .pointer (some ⟨g, 0, none⟩)) (hb : ABox w g bv bs t) :
    (results fn tmps).run Saag.prog w = .ok (.agg (arCells bv bs t)) w :=
  results_cell_row h tmps w g 78 _ (0, 0) _ hp hb.blk Saag.underlying78 rfl (by rw [Saag.info78, arCells_size _ _ _ hb.len])

set_option maxRecDepth 10000 in
set_option maxHeartbeats 400000 in
theorem copyArena_any {bv : Value} {bs : List Nat} {t : Nat} {xs : List Nat} {w : World} (h : Rd w bv xs) (hl : bs.length = 8) (hmax : xs.length ≤ 140737488355328) :
    Calls Saag.prog 28 #[.agg (arCells bv bs t)] w fun e w' => ∃ bv', e = .returned (.agg (arCells bv' bs t)) ∧ Fresh w.heap.size w' bv' xs ∧ Below w.heap.size w w' := by
  obtain ⟨ao, k, cap, rfl, hk, h2, hd, hr⟩ := id h
  have B1 := ABox.new w (.slice ao k cap) bs t hl
  have B2 := ABox.new (w.alloc (.cells (arCells (.slice ao k cap) bs t) 78)) (.slice none 0 0) Z8 0 Z8_len
  have hB0 := bstep (below_alloc w (.cells (arCells (.slice ao k cap) bs t) 78)) (below_alloc _ (.cells (arCells (.slice none 0 0) Z8 0) 78))
  have B1' := B1.later (below_alloc _ (.cells (arCells (.slice none 0 0) Z8 0) 78))
  have c0 := B1'.buf
  have H1 := hide B1'
  have H2 := hide B2
  have H0 := hide hB0
  have HR := hide h
  clear B1 B2 B1' hB0 h hk h2 hd hr
  go_enter Saag.func28, Saag.ntmps28
  go_wp2_with (refine wpList_alloc78 rfl rfl ?_)
  refine (copyBytes_any ((unhide HR).later (unhide H0)) hmax).mono ?_
  rintro e w1 ⟨bv', rfl, hf, hb⟩
  obtain ⟨bo, k', cap', rfl, _⟩ := hf.rd
  have A1 := (unhide H1).later hb
  have A2 : ABox w1 (w.heap.size + 1) (.slice none 0 0) Z8 0 := by simpa using (unhide H2).later hb
  have hB1 := hide (bstep (unhide H0) hb)
  have D1 := A1.setBuf (.slice bo k' cap')
  have u1 := Upd.setCell w1 ⟨w.heap.size, 0, none⟩ (.slice bo k' cap')
  have A2' := A2.upd u1 (by simp)
  have c1 := A1.buf
  have f1 := A1.frozen 0
  have HF := hide hf
  have U1 := hide u1
  clear c0 hf u1 H1 H2 H0 HR A1 A2
  rename_i hrd
  clear hrd hb
  go_wp2_with (first | refine wpList_load78 rfl _ rfl _ rfl D1 ?_ | (refine wpList_store78 rfl _ _ rfl _ rfl rfl hl A2' ?_; intro w2 E1 u2))
  refine bodyPost_ret (ret78 rfl _ _ _ rfl E1) rfl ?_
  refine ⟨_, rfl, ?_, ?_⟩
  · have hF := unhide HF
    simp only [World.size_alloc] at hF
    exact ((hF.upd (unhide U1) (by show w.heap.size < _; omega)).upd u2 (by omega)).mono (by omega)
  · exact u2.below ((unhide U1).below (unhide hB1) (Nat.le_refl _)) (by omega)

end Go.Proofs.Ygcsaa
