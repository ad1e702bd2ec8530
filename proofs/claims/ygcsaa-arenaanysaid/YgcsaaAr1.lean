/-
  mem.Arena in memory; copyBytes, copyArena.
-/
import Derived.Test.YgcsaaQB
import Derived.Deep.RegionHeld3
namespace Go.Proofs.Ygcsaa
open Go.RowKit
set_option linter.unusedSimpArgs false
set_option linter.unusedVariables false

theorem Saag.info78 : (Saag.prog.info? 78).map (·.size) = some 10 := by kernel_rfl

/-- The cells of a mem.Arena. -/
def arCells (bv : Value) (bs : List Nat) (t : Nat) : Array Value := (bv :: ((bs.map fun x => Value.int .u32 ((x : Nat) : Int)) ++ [Value.int .u8 (t : Int)])).toArray

/-- Block g of w is an Arena. -/
structure ABox (w : World) (g : Nat) (bv : Value) (bs : List Nat) (t : Nat) : Prop where
  blk : w.heap[g]? = some (.cells (arCells bv bs t) 78 (0, 0))
  len : bs.length = 8

theorem ABox.lt {w : World} {g : Nat} {bv : Value} {bs : List Nat} {t : Nat} (h : ABox w g bv bs t) : g < w.heap.size := (Array.getElem?_eq_some_iff.1 h.blk).1
theorem ABox.buf {w : World} {g : Nat} {bv : Value} {bs : List Nat} {t : Nat} (h : ABox w g bv bs t) : w.cell? ⟨g, 0, none⟩ = some bv := by
  rw [cell_of_row w g 0 _ _ _ h.blk]; simp [arCells]
theorem ABox.base {w : World} {g : Nat} {bv : Value} {bs : List Nat} {t : Nat} (h : ABox w g bv bs t) (i : Nat) (hi : i < 8) : w.cell? ⟨g, 1 + i, none⟩ = some (.int .u32 ((bs.getD i 0 : Nat) : Int)) := by
  rw [cell_of_row w g (1 + i) _ _ _ h.blk]
  have hl := h.len
  simp only [arCells, List.getElem?_toArray, Nat.add_comm 1 i, List.getElem?_cons_succ]
  rw [List.getElem?_append_left (by simp; omega)]
  simp [List.getD_eq_getElem?_getD, hl, hi]
theorem ABox.top {w : World} {g : Nat} {bv : Value} {bs : List Nat} {t : Nat} (h : ABox w g bv bs t) : w.cell? ⟨g, 9, none⟩ = some (.int .u8 (t : Int)) := by
  rw [cell_of_row w g 9 _ _ _ h.blk]
  have hl := h.len
  simp only [arCells, List.getElem?_toArray]
  rw [show 9 = 8 + 1 from rfl, List.getElem?_cons_succ, List.getElem?_append_right (by simp; omega)]
  simp [hl]
theorem ABox.frozen {w : World} {g : Nat} {bv : Value} {bs : List Nat} {t : Nat} (h : ABox w g bv bs t) (i : Nat) : w.frozen? ⟨g, i, none⟩ = false := frozen_of_row w g i _ _ h.blk
theorem ABox.below {w w' : World} {g B : Nat} {bv : Value} {bs : List Nat} {t : Nat} (h : ABox w g bv bs t) (hb : Below B w w') (hg : g < B) : ABox w' g bv bs t := ⟨by rw [hb.block g hg]; exact h.blk, h.len⟩
theorem ABox.later {w w' : World} {g : Nat} {bv : Value} {bs : List Nat} {t : Nat} (h : ABox w g bv bs t) (hb : Below w.heap.size w w') : ABox w' g bv bs t := h.below hb h.lt

theorem arCells_size (bv : Value) (bs : List Nat) (t : Nat) (h : bs.length = 8) : (arCells bv bs t).size = 10 := by simp [arCells, h]
theorem arCells_one (bo : Option Addr) (n cap : Nat) (bs : List Nat) (t : Nat) : (arCells (.slice bo n cap) bs t).all (·.oneCell') = true := by
  refine all_oneCell_toArray ?_
  intro v hv
  simp only [List.mem_cons, List.mem_append, List.mem_map, List.not_mem_nil, or_false] at hv
  rcases hv with rfl | ⟨x, _, rfl⟩ | rfl <;> rfl

theorem ABox.setBuf {w : World} {g : Nat} {bv : Value} {bs : List Nat} {t : Nat} (h : ABox w g bv bs t) (v : Value) : ABox (w.setCell ⟨g, 0, none⟩ v) g v bs t :=
  ⟨by rw [heap_setCell_same w g 0 _ _ _ h.blk]; simp [arCells], h.len⟩
theorem ABox.setBase {w : World} {g : Nat} {bv : Value} {bs : List Nat} {t : Nat} (h : ABox w g bv bs t) (i x : Nat) (hi : i < 8) : ABox (w.setCell ⟨g, 1 + i, none⟩ (.int .u32 (x : Int))) g bv (bs.set i x) t :=
  ⟨by
    rw [heap_setCell_same w g (1 + i) _ _ _ h.blk]
    have hl := h.len
    simp only [arCells, List.setIfInBounds_toArray, Nat.add_comm 1 i, List.set_cons_succ]
    rw [List.set_append_left _ _ (by simp; omega), List.map_set], by simp [h.len]⟩
theorem ABox.setTop {w : World} {g : Nat} {bv : Value} {bs : List Nat} {t : Nat} (h : ABox w g bv bs t) (x : Nat) : ABox (w.setCell ⟨g, 9, none⟩ (.int .u8 (x : Int))) g bv bs x :=
  ⟨by
    rw [heap_setCell_same w g 9 _ _ _ h.blk]
    have hl := h.len
    simp only [arCells, List.setIfInBounds_toArray]
    rw [show 9 = 8 + 1 from rfl, List.set_cons_succ, List.set_append_right _ _ (by simp; omega)]
    simp [hl], h.len⟩

/-- nil, or the bytes xs in a block of their own, from block B on. -/
def Fresh (B : Nat) (w : World) (v : Value) (xs : List Nat) : Prop :=
  M.Dig xs ∧ ((v = .slice none 0 0 ∧ xs = []) ∨ ∃ g, B ≤ g ∧ v = .slice (some ⟨g, 0, none⟩) xs.length xs.length ∧ Blk w g xs)

theorem Fresh.rd {B : Nat} {w : World} {v : Value} {xs : List Nat} (h : Fresh B w v xs) : Rd w v xs := by
  obtain ⟨d, ⟨rfl, rfl⟩ | ⟨g, _, rfl, hb⟩⟩ := h
  · exact ⟨none, 0, 0, rfl, rfl, Nat.le_refl _, d, Row.nil w none⟩
  · exact ⟨_, _, _, rfl, rfl, Nat.le_refl _, d, hb.row⟩
theorem Fresh.later {B : Nat} {w w' : World} {v : Value} {xs : List Nat} (h : Fresh B w v xs) (hb : Below w.heap.size w w') : Fresh B w' v xs := by
  obtain ⟨d, ⟨rfl, rfl⟩ | ⟨g, hg, rfl, hk⟩⟩ := h
  · exact ⟨d, .inl ⟨rfl, rfl⟩⟩
  · exact ⟨d, .inr ⟨g, hg, rfl, hk.below hb hk.lt⟩⟩
theorem Rd.later {w w' : World} {v : Value} {xs : List Nat} (h : Rd w v xs) (hb : Below w.heap.size w w') : Rd w' v xs := h.below hb (Nat.le_refl _)

/-- 'make' of n bytes, up to Go's own bound. -/
theorem wpList_make_big (w : World) {ops : Array Oper} {rest : List Oper} {o : Oper} {a : Act} {Q : Exit → Act → World → Prop}
    (hg : o.guard = none) (l c : Operand) (t : TypeId) (hop : o.op = Op.makeSlice t l c) (h1 : Saag.prog.underlying t = some (.slice 5))
    (kl kc : IntKind) (L C : Int) (n : Nat) (hl : a.eval l = .int kl L) (hc : a.eval c = .int kc C) (hL : L = (n : Int)) (hC : C = (n : Int)) (b2 : n ≤ 140737488355328)
    (hK : ∀ w', Hid (Blk w' w.heap.size (List.replicate n 0)) → Hid (w'.heap.size = w.heap.size + 1) → Below w.heap.size w w' → wpList Saag.prog ops Q rest (a.put o.dst (.slice (some ⟨w.heap.size, 0, none⟩) n n)) w') :
    wpList Saag.prog ops Q (o :: rest) a w := by
  refine wpList_plain hg fun K hK' => ?_
  obtain ⟨i, hi, hz, hs, hb⟩ := info_parts Saag.info5
  subst hL
  subst hC
  have hrun := run_make (P := Saag.prog) w t 5 i (.int .u8 0) h1 hi hz kl kc n n (by omega) (Int.le_refl _) (by rw [hb]; omega) (by omega)
  simp only [Int.toNat_natCast, hs, Nat.mul_one] at hrun
  unfold Oper.wp
  simp [execOp, hop, hl, hc, hrun, Result.andThen]
  refine hK' _ _ (hK _ ?_ ?_ ?_)
  · show Blk _ _ _
    unfold Blk
    rw [heap_alloc_new, made_bytes]
  · show _ = _
    simp
  · exact (Below.refl _ _).alloc (Nat.le_refl _) _

set_option maxRecDepth 10000 in
set_option maxHeartbeats 400000 in
theorem copyBytes_any {v : Value} {xs : List Nat} {w : World} (h : Rd w v xs) (hmax : xs.length ≤ 140737488355328) :
    Calls Saag.prog 31 #[v] w fun e w' => ∃ v', e = .returned v' ∧ Fresh w.heap.size w' v' xs ∧ Below w.heap.size w w' := by
  obtain ⟨ao, k, cap, rfl, hk, h2, hd, hr⟩ := h
  cases ao with
  | none =>
    have hx : xs = [] := by
      cases xs with
      | nil => rfl
      | cons x xs => obtain ⟨b, off, e, _⟩ := hr 0 (by simp); cases e
    clear h2
    have hnil := fun w => Lib.run_eql_slice_nil (P := Saag.prog) w 41 5 none k cap 0 0 Saag.underlying41
    go_enter Saag.func31, Saag.ntmps31
    go_wp2
    go_ret
    exact ⟨_, rfl, ⟨hd, .inl ⟨rfl, hx⟩⟩, Below.refl _ _⟩
  | some ad =>
    have hcp := fun w1 (hblk : Hid (Blk w1 w.heap.size (List.replicate k 0))) (hbel : Below w.heap.size w w1) => run_copy_bytes w1 41 41 3 w.heap.size 0 k k ad k cap (List.replicate k 0) xs Saag.underlying41 hblk (by rw [hk]; simp [Nat.min_def]) (hr.below hbel (Nat.le_refl _)) (by simp [hk])
    rw [hk] at hcp
    have Hcp := hide hcp
    have Hk := hide hk
    have Hm : k ≤ 140737488355328 := by omega
    clear hcp hk hmax h2
    have hnil := fun w => Lib.run_eql_slice_nil (P := Saag.prog) w 41 5 (some ad) k cap 0 0 Saag.underlying41
    go_enter Saag.func31, Saag.ntmps31
    go_wp2_with (at_make; refine wpList_make_big _ rfl _ _ 41 rfl Saag.underlying41 _ _ _ _ k rfl rfl rfl rfl Hm ?_; intro w1 hblk hsz hbel; obtain ⟨w2, hrun, hblk2, hupd⟩ := unhide Hcp w1 hblk hbel)
    go_ret
    refine ⟨_, rfl, ⟨hd, .inr ⟨w.heap.size, Nat.le_refl _, by rw [unhide Hk]; rfl, ?_⟩⟩, hupd.below hbel (Nat.le_refl _)⟩
    have e : splice (List.replicate k 0) 0 xs = xs := by simp [splice, unhide Hk]
    rw [← e]
    exact hblk2

end Go.Proofs.Ygcsaa
