/-
  (*mem.Arena).Store8, Store32.
-/
import Derived.Test.YgcsaaAr7
namespace Go.Proofs.Ygcsaa
open Go.RowKit
set_option linter.unusedSimpArgs false
set_option linter.unusedVariables false

/-- What a method hands back and leaves that lays ys at off, if it fits. -/
def WrOut (e : Ending) (w w' : World) (g : Nat) (ob : Option Nat) (xs bs : List Nat) (t off : Nat) (ys : List Nat) : Prop :=
  (Fits bs t off ys.length ∧ e = .returned (.bool true) ∧ ASt w' g ob (splice xs (loA bs t + off) ys) bs t ∧ Chg w w' g ob) ∨
  (¬ Fits bs t off ys.length ∧ e = .returned (.bool false) ∧ ASt w' g ob xs bs t ∧ Chg w w' g ob)

theorem set_splice (xs : List Nat) (o y : Nat) (ys : List Nat) (h : o < xs.length) : splice (xs.set o y) (o + 1) ys = splice xs o (y :: ys) := by
  simp only [splice, List.length_cons]
  rw [List.set_eq_take_append_cons_drop, if_pos h]
  have h1 : (xs.take o).length = o := by simp; omega
  rw [List.take_append, List.drop_append, h1]
  have e1 : o + 1 - o = 1 := by omega
  have e2 : o + 1 + ys.length - o = 1 + ys.length := by omega
  have e3 : List.drop (o + 1 + ys.length) (xs.take o) = [] := by simp; omega
  rw [e1, e2, e3, List.take_take, Nat.min_eq_right (by omega)]
  have e4 : 1 + ys.length = ys.length + 1 := by omega
  rw [e4, List.drop_succ_cons, List.drop_drop]
  simp [Nat.add_comm, Nat.add_left_comm]

theorem blk_setCells (b : Nat) : ∀ (ys : List Nat) (o : Nat) (w : World) (xs : List Nat), Blk w b xs → o + ys.length ≤ xs.length →
    Blk (w.setCells b o (ys.map fun x => Value.int .u8 ((x : Nat) : Int))) b (splice xs o ys) ∧ Upd w (w.setCells b o (ys.map fun x => Value.int .u8 ((x : Nat) : Int))) b := by
  intro ys
  induction ys with
  | nil => intro o w xs h _; rw [splice_nil]; exact ⟨h, Upd.refl _ _⟩
  | cons y ys ih =>
    intro o w xs h hl
    simp only [List.length_cons] at hl
    have h1 := h.set o y (x := (y : Int)) rfl
    have h2 := ih (o + 1) _ _ h1 (by rw [List.length_set]; omega)
    rw [set_splice xs o y ys (by omega)] at h2
    exact ⟨h2.1, (Upd.setCell w ⟨b, o, none⟩ _).trans h2.2⟩

theorem Blk.there {w : World} {b : Nat} {xs : List Nat} (h : Blk w b xs) (o n : Nat) (hl : o + n ≤ xs.length) : w.there b o n := fun j hj =>
  ⟨by rw [h.cell (o + j) (by omega)]; rfl, h.frozen _⟩

set_option maxRecDepth 10000 in
set_option maxHeartbeats 1000000 in
theorem store8_any {w : World} {g : Nat} {ob : Option Nat} {xs bs : List Nat} {t : Nat} (off v : Nat) (ho : off < 4294967296) (hv : v < 256) (h : ASt w g ob xs bs t) :
    Calls Saag.prog 81 #[.pointer (some ⟨g, 0, none⟩), .int .u32 (off : Int), .int .u8 (v : Int)] w fun e w' => WrOut e w w' g ob xs bs t off [v] := by
  have T := hide (part_any off 1 ho (by omega) h)
  have HS := hide h
  clear h
  go_enter Saag.func81, Saag.ntmps81
  go_wp2_with fail
  refine (unhide T).mono ?_
  rintro e w' ⟨⟨hf, v', rfl, hs⟩ | ⟨hf, rfl⟩, q, rfl⟩
  · have hle := (unhide HS).fits_le hf
    rcases hs with ⟨h0, _⟩ | ⟨_, b, rfl, rfl⟩
    · cases h0
    have S1 := (unhide HS).drewN q
    have K1 := S1.buf b rfl
    have c1 := K1.cell (loA bs t + off) (by omega)
    have f1 := K1.frozen (loA bs t + off)
    have K2 := K1.set (loA bs t + off) v (x := (v : Int)) rfl
    have u2 := Upd.setCell (w.drewN q) ⟨b, loA bs t + off, none⟩ (.int .u8 (v : Int))
    rw [← splice_one (by omega)] at K2
    have S2 := hide (S1.wrote rfl u2 K2 (splice_len (by simpa using hle)) (splice_dig S1.dig (M.dig_one hv) _))
    have C2 : Hid (Chg w ((w.drewN q).setCell ⟨b, loA bs t + off, none⟩ (.int .u8 (v : Int))) g (some b)) := hide ((Chg.ofBelow (below_drewN w q) _ _).trans (Chg.ofUpd' u2 g))
    clear T HS K1 K2 u2 S1
    generalize hoo : loA bs t + off = o at *
    have Hoo := hide hoo
    clear hoo
    generalize xs.getD o 0 = x at *
    go_wp2
    go_ret
    exact .inl ⟨hf, rfl, by rw [unhide Hoo]; exact unhide S2, unhide C2⟩
  · have S2 := hide ((unhide HS).drewN q)
    have C2 : Hid (Chg w (w.drewN q) g ob) := hide (Chg.ofBelow (below_drewN w q) _ _)
    clear T HS
    go_wp2
    go_ret
    exact .inr ⟨hf, rfl, unhide S2, unhide C2⟩

theorem yieldsIf_box60 {ops : Array Oper} {S : World → Prop} {o : Oper} {a : Act} (hw : Region.wanted o (yielded ops a.tmps) = true) (x : Operand) (ho : o.op = .load 60 x) (g : Nat) (hx : a.eval x = .pointer (some ⟨g, 0, none⟩))
    (xs : List Nat) (hl : xs.length = 32) (hb : ∀ w, S w → Bx w g xs) : YieldsIf Saag.prog ops S o (.agg (cellsOf xs)) a := by
  refine .inl ⟨hw, fun w hC => ?_⟩
  unfold execOp
  simp only [ho, hx, Instr.loadAt, Instr.sureAddr, Sem.run_bind, Sem.run_pure, Result.andThen_ok, run_loadVar_row w g 60 60 (cellsOf xs) (0, 0) _ (hb w hC) Saag.underlying60 rfl (by rw [Saag.info60, cellsOf_size, hl])]

set_option maxRecDepth 10000 in
set_option maxHeartbeats 2000000 in
theorem store32_any {w : World} {g : Nat} {ob : Option Nat} {xs bs : List Nat} {t : Nat} (off : Nat) (ys : List Nat) (ho : off < 4294967296) (hy : ys.length = 32) (dy : M.Dig ys) (h : ASt w g ob xs bs t) :
    Calls Saag.prog 79 #[.pointer (some ⟨g, 0, none⟩), .int .u32 (off : Int), .agg (cellsOf ys)] w fun e w' => WrOut e w w' g ob xs bs t off ys := by
  have hB0 := below_alloc w (.cells (cellsOf ys) 60)
  have S1 := h.later hB0
  have T := hide (part_any off 32 ho (by omega) S1)
  have X1 := hide (Bx.new w ys)
  have HS := hide S1
  have HB0 := hide hB0
  have HY := hide hy
  unfold WrOut
  rw [hy]
  clear S1 hB0 h hy
  go_enter Saag.func79, Saag.ntmps79
  go_wp2_with fail
  refine (unhide T).mono ?_
  rintro e w' ⟨⟨hf, v', rfl, hs⟩ | ⟨hf, rfl⟩, q, rfl⟩
  · have hle := (unhide HS).fits_le hf
    rcases hs with ⟨h0, _⟩ | ⟨_, b, rfl, rfl⟩
    · cases h0
    have hat : ∀ w, (Instr.arrayAt 60 (.slice (some ⟨b, loA bs t + off, none⟩) 32 32)).run Saag.prog w = .ok (.pointer (some ⟨b, loA bs t + off, none⟩)) w := fun w => run_arrayAt w 60 5 32 _ 32 32 Saag.underlying60 (Nat.le_refl _)
    have S1 := (unhide HS).drewN q
    have X2 : Bx ((w.alloc (Obj.cells (cellsOf ys) 60)).drewN q) w.heap.size ys := unhide X1
    have HBq : Below w.heap.size w ((w.alloc (Obj.cells (cellsOf ys) 60)).drewN q) := bdrew (unhide HB0) q
    clear T HS X1 HB0
    generalize (w.alloc (Obj.cells (cellsOf ys) 60)).drewN q = W at *
    have HS1 := hide S1
    have HX2 := hide X2
    have HHB := hide HBq
    have hbr : b ≠ w.heap.size := by
      intro e
      have k := S1.buf b rfl
      subst e
      unfold Blk at k
      unfold Bx at X2
      rw [X2] at k
      simp at k
    clear S1 X2 HBq
    go_wp2_with fail
    have hX0 : Bx W.drew w.heap.size ys := unhide HX2
    have hS0 : ASt W.drew g (some b) xs bs t := (unhide HS1).drewN 1
    have hB0 : Below w.heap.size w W.drew := bdrew (unhide HHB) 1
    refine wp_region_held_drew (S := fun w' => Bx w' w.heap.size ys) (by kernel_rfl) hX0 (fun _ => ?_)
    refine wpAnyH_take (i := 0) (v := .slice (some ⟨b, loA bs t + off, none⟩) 32 32) rfl (by kernel_rfl) (by kernel_rfl) (by kernel_rfl) (fun _ _ _ h => h) (Or.inl ⟨by rfl, ?_⟩) (by assumption) ?_
    · intro w1 hw1
      go_simp
      try rfl
    try simp only [Act.put, List.setIfInBounds_toArray, List.set_cons_zero, List.set_cons_succ]
    refine wpAnyH_take (i := 1) (v := .pointer (some ⟨b, loA bs t + off, none⟩)) rfl (by kernel_rfl) (by kernel_rfl) (by kernel_rfl) (fun _ _ _ h => h) (Or.inl ⟨by rfl, ?_⟩) (by assumption) ?_
    · intro w1 hw1
      go_simp
      try rfl
    try simp only [Act.put, List.setIfInBounds_toArray, List.set_cons_zero, List.set_cons_succ]
    refine wpAnyH_take (i := 2) (v := .agg (cellsOf ys)) rfl (by kernel_rfl) (by kernel_rfl) (by kernel_rfl) (fun _ _ _ h => h) (yieldsIf_box60 (by rfl) _ rfl _ rfl ys (unhide HY) (fun _ h => h)) (by assumption) ?_
    try simp only [Act.put, List.setIfInBounds_toArray, List.set_cons_zero, List.set_cons_succ]
    refine wpAnyH_take (i := 3) (v := .pointer (some ⟨b, loA bs t + off, none⟩)) rfl (by kernel_rfl) (by kernel_rfl) (by kernel_rfl) (fun _ _ _ h => h) (Or.inl ⟨by rfl, ?_⟩) (by assumption) ?_
    · intro w1 hw1
      go_simp
      try rfl
    try simp only [Act.put, List.setIfInBounds_toArray, List.set_cons_zero, List.set_cons_succ]
    refine wpAnyH_ready (rs := [4]) (by kernel_rfl) (by simp) ?_
    refine AllReadyH.cons rfl (fun K hK => ?_) AllReadyH.nil
    rw [if_pos (by rfl)]
    refine wp_store_mid 60 _ _ rfl b (loA bs t + off) (cellsOf ys) rfl rfl ((hS0.buf b rfl).there _ _ (by rw [cellsOf_size, unhide HY]; exact hle)) (by rw [Saag.info60, cellsOf_size, unhide HY]) (cellsOf_one ys) ?_
    have hsc := blk_setCells b ys (loA bs t + off) W.drew xs (hS0.buf b rfl) (by rw [unhide HY]; exact hle)
    have S2 := hide (hS0.wrote rfl hsc.2 hsc.1 (splice_len (by rw [unhide HY]; exact hle)) (splice_dig hS0.dig dy _))
    have C2 := hide ((Chg.ofBelow hB0 g (some b)).trans (Chg.ofUpd' hsc.2 g))
    have X2 := hX0.upd hsc.2 (Ne.symm hbr)
    have ecs : (cellsOf ys).toList = ys.map fun x => Value.int .u8 ((x : Nat) : Int) := rfl
    rw [ecs]
    refine hK.out _ _ X2 (fun _ => ?_)
    generalize W.drew.setCells b (loA bs t + off) (ys.map fun x => Value.int .u8 ((x : Nat) : Int)) = W2 at *
    clear hK K hX0 hS0 hB0 hsc HX2 HS1
    refine wpAnyH_done (by kernel_rfl) ?_ _
    go_wp2
    go_ret
    exact .inl ⟨hf, rfl, unhide S2, unhide C2⟩
  · have S2 := hide ((unhide HS).drewN q)
    have C2 : Hid (Chg w ((w.alloc (Obj.cells (cellsOf ys) 60)).drewN q) g ob) := hide (Chg.ofBelow (bdrew (unhide HB0) q) _ _)
    clear T HS X1 HB0
    generalize (w.alloc (Obj.cells (cellsOf ys) 60)).drewN q = W at *
    go_wp2
    go_ret
    exact .inr ⟨hf, rfl, unhide S2, unhide C2⟩

end Go.Proofs.Ygcsaa
