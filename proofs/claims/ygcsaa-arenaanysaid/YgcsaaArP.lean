/-
  law.memAnswer in memory; sameMemAnswer.
-/
import Derived.Test.YgcsaaArO
import Derived.Stop.BytesEq
namespace Go.Proofs.Ygcsaa
open Go.RowKit Go.Extern.Stop
set_option linter.unusedSimpArgs false
set_option linter.unusedVariables false

theorem Saag.sizeOf5 (w : World) : (sizeOf 5).run Saag.prog w = .ok 1 w := by kernel_rfl

theorem run_eql60 (w : World) (ws : List Nat) (hl : ws.length = 32) (hd : M.Dig ws) : (binOp .eql 60 (.agg (cellsOf ws)) (.agg (cellsOf ws))).run Saag.prog w = .ok (.bool true) w := by
  have e : cellsOf ws = ((ws.map UInt8.ofNat).map cell).toArray := by
    unfold cellsOf
    congr 1
    rw [List.map_map]
    apply List.map_congr_left
    intro x hx
    have := hd x hx
    simp [cell]
    omega
  rw [e, run_eql_bytes w 60 5 32 Saag.underlying60 Saag.underlying5 Saag.sizeOf5 _ _ (by simp [hl]) (by simp [hl])]
  simp

/-- The cells of a memAnswer. -/
def anCells (ok : Bool) (size : Nat) (word : List Nat) (rv : Value) : Array Value := (Value.bool ok :: Value.int .u32 (size : Int) :: ((word.map fun x => Value.int .u8 ((x : Nat) : Int)) ++ [rv])).toArray

/-- Block g is a memAnswer. -/
structure NBox (w : World) (g : Nat) (ok : Bool) (size : Nat) (word : List Nat) (rv : Value) : Prop where
  blk : w.heap[g]? = some (.cells (anCells ok size word rv) 83 (0, 0))
  len : word.length = 32

theorem Saag.info83 : (Saag.prog.info? 83).map (·.size) = some 35 := by kernel_rfl
theorem anCells_size (ok : Bool) (size : Nat) (word : List Nat) (rv : Value) (h : word.length = 32) : (anCells ok size word rv).size = 35 := by simp [anCells, h]
theorem NBox.lt {w : World} {g size : Nat} {ok : Bool} {word : List Nat} {rv : Value} (h : NBox w g ok size word rv) : g < w.heap.size := (Array.getElem?_eq_some_iff.1 h.blk).1
theorem NBox.new (w : World) (ok : Bool) (size : Nat) (word : List Nat) (rv : Value) (h : word.length = 32) : NBox (w.alloc (.cells (anCells ok size word rv) 83)) w.heap.size ok size word rv := ⟨heap_alloc_new w _, h⟩
theorem NBox.below {w w' : World} {g size B : Nat} {ok : Bool} {word : List Nat} {rv : Value} (h : NBox w g ok size word rv) (hb : Below B w w') (hg : g < B) : NBox w' g ok size word rv := ⟨by rw [hb.block g hg]; exact h.blk, h.len⟩
theorem NBox.later {w w' : World} {g size : Nat} {ok : Bool} {word : List Nat} {rv : Value} (h : NBox w g ok size word rv) (hb : Below w.heap.size w w') : NBox w' g ok size word rv := h.below hb h.lt
theorem NBox.okC {w : World} {g size : Nat} {ok : Bool} {word : List Nat} {rv : Value} (h : NBox w g ok size word rv) : w.cell? ⟨g, 0, none⟩ = some (.bool ok) := by rw [cell_of_row w g 0 _ _ _ h.blk]; simp [anCells]
theorem NBox.sizeC {w : World} {g size : Nat} {ok : Bool} {word : List Nat} {rv : Value} (h : NBox w g ok size word rv) : w.cell? ⟨g, 1, none⟩ = some (.int .u32 (size : Int)) := by rw [cell_of_row w g 1 _ _ _ h.blk]; simp [anCells]
theorem NBox.readC {w : World} {g size : Nat} {ok : Bool} {word : List Nat} {rv : Value} (h : NBox w g ok size word rv) : w.cell? ⟨g, 34, none⟩ = some rv := by
  rw [cell_of_row w g 34 _ _ _ h.blk]
  have hl := h.len
  simp only [anCells, List.getElem?_toArray]
  rw [show 34 = 32 + 1 + 1 from rfl, List.getElem?_cons_succ, List.getElem?_cons_succ, List.getElem?_append_right (by simp; omega)]
  simp [hl]
theorem NBox.range {w : World} {g size : Nat} {ok : Bool} {word : List Nat} {rv : Value} (h : NBox w g ok size word rv) : w.rangeAt g 2 (word.map fun x => Value.int .u8 ((x : Nat) : Int)) := by
  intro j v hj
  have hj' : j < word.length := by
    have := (List.getElem?_eq_some_iff.1 hj).1
    simpa using this
  rw [cell_of_row w g (2 + j) _ _ _ h.blk]
  simp only [anCells, List.getElem?_toArray]
  rw [show 2 + j = j + 1 + 1 by omega, List.getElem?_cons_succ, List.getElem?_cons_succ, List.getElem?_append_left (by simpa using hj')]
  exact hj
theorem NBox.frozen {w : World} {g size : Nat} {ok : Bool} {word : List Nat} {rv : Value} (h : NBox w g ok size word rv) (i : Nat) : w.frozen? ⟨g, i, none⟩ = false := frozen_of_row w g i _ _ h.blk

/-- A load of the word out of an answer, guarded or not. -/
theorem wpList_loadW {ops : Array Oper} {rest : List Oper} {o : Oper} {a : Act} {w : World} {Q : Exit → Act → World → Prop} (hg : Region.wanted o (yielded ops a.tmps) = true) (x : Operand) (ho : o.op = .load 60 x) (g : Nat) (hx : a.eval x = .pointer (some ⟨g, 2, none⟩))
    {ok : Bool} {size : Nat} {word : List Nat} {rv : Value} (hb : NBox w g ok size word rv) (h : wpList Saag.prog ops Q rest (a.put o.dst (.agg (cellsOf word))) w) : wpList Saag.prog ops Q (o :: rest) a w := by
  unfold wpList
  rw [if_pos hg]
  exact .inl (wp_load_mid 60 x ho g 2 hx (word.map fun x => Value.int .u8 ((x : Nat) : Int)) _ hb.range Saag.underlying60 rfl (by rw [Saag.info60, List.length_map, hb.len]) h)

theorem RdO.later {w w' : World} {v : Value} {ro : Option (List Nat)} (h : RdO w v ro) (hb : Below w.heap.size w w') : RdO w' v ro := by
  cases ro with
  | none => exact h
  | some l =>
    obtain ⟨a, n, cap, h1, h2⟩ := h
    exact ⟨a, n, cap, h1, h2.later hb⟩
theorem RdO.shape {w : World} {v : Value} {ro : Option (List Nat)} (h : RdO w v ro) : ∃ ao n cap, v = .slice ao n cap ∧ (ao.isNone = true ↔ ro = none) ∧ Rd w v (ro.getD []) := by
  cases ro with
  | none =>
    have h' : v = .slice none 0 0 := h
    subst h'
    exact ⟨none, 0, 0, rfl, by simp, none, 0, 0, rfl, rfl, Nat.le_refl _, M.dig_replicate_zero 0, Row.nil w none⟩
  | some l =>
    obtain ⟨a, n, cap, h1, h2⟩ := h
    exact ⟨some a, n, cap, h1, by simp, h2⟩

set_option maxRecDepth 10000 in
set_option maxHeartbeats 1000000 in
theorem sameAns_any {w : World} {ok : Bool} {size : Nat} {word : List Nat} {r1 r2 : Value} {ro : Option (List Nat)} (hl : word.length = 32) (hd : M.Dig word) (h1 : RdO w r1 ro) (h2 : RdO w r2 ro) :
    Calls Saag.prog 87 #[.agg (anCells ok size word r1), .agg (anCells ok size word r2)] w fun e w' => e = .returned (.bool true) ∧ Below w.heap.size w w' := by
  obtain ⟨a1, n1, c1, rfl, i1, rd1⟩ := h1.shape
  obtain ⟨a2, n2, c2, rfl, i2, rd2⟩ := h2.shape
  have hB := bstep (below_alloc w (.cells (anCells ok size word (.slice a1 n1 c1)) 83)) (below_alloc _ (.cells (anCells ok size word (.slice a2 n2 c2)) 83))
  have N1 := (NBox.new w ok size word (.slice a1 n1 c1) hl).later (below_alloc _ (.cells (anCells ok size word (.slice a2 n2 c2)) 83))
  have N2 : NBox ((w.alloc (.cells (anCells ok size word (.slice a1 n1 c1)) 83)).alloc (.cells (anCells ok size word (.slice a2 n2 c2)) 83)) (w.heap.size + 1) ok size word (.slice a2 n2 c2) := by
    have := NBox.new (w.alloc (.cells (anCells ok size word (.slice a1 n1 c1)) 83)) ok size word (.slice a2 n2 c2) hl
    simpa using this
  have T := hide (equalBytes_any (rd1.later hB) (rd2.later hB))
  have e1 := fun w => Lib.run_eql_slice_nil (P := Saag.prog) w 41 5 a1 n1 c1 0 0 Saag.underlying41
  have e2 := fun w => Lib.run_eql_slice_nil (P := Saag.prog) w 41 5 a2 n2 c2 0 0 Saag.underlying41
  have hiso : a1.isNone = a2.isNone := by rw [Bool.eq_iff_iff, i1, i2]
  have hq := fun w => run_eql60 w word hl hd
  have k1 := N1.okC
  have k2 := N1.sizeC
  have k3 := N1.readC
  have l1 := N2.okC
  have l2 := N2.sizeC
  have l3 := N2.readC
  have HN1 := hide N1
  have HN2 := hide N2
  have HB := hide hB
  clear i1 i2 rd1 rd2 h1 h2 N1 N2 hB
  go_enter Saag.func87, Saag.ntmps87
  go_wp2_with (first | refine wpList_loadW rfl _ rfl _ rfl (unhide HN1) ?_ | refine wpList_loadW rfl _ rfl _ rfl (unhide HN2) ?_)
  refine (unhide T).mono ?_
  rintro e w' ⟨rfl, rfl⟩
  have ed : decide True = true := rfl
  rw [ed]
  go_wp2
  go_ret
  exact ⟨by first | rfl | simp [hiso], unhide HB⟩

end Go.Proofs.Ygcsaa
