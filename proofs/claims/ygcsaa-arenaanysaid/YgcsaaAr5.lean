/-
  (*mem.Arena).Enter, Leave.
-/
import Derived.Test.YgcsaaAr4
namespace Go.Proofs.Ygcsaa
open Go.RowKit
set_option linter.unusedSimpArgs false
set_option linter.unusedVariables false

theorem cell_ne (w : World) (g i j : Nat) (v : Value) (h : j ≠ i) : (w.setCell ⟨g, i, none⟩ v).cell? ⟨g, j, none⟩ = w.cell? ⟨g, j, none⟩ := by
  simp only [World.cell?, World.setCell, Array.getElem?_modify, if_true]
  cases w.heap[g]? with
  | none => rfl
  | some o => cases o <;> simp [Array.getElem?_setIfInBounds, Ne.symm h]
theorem cell_ne_drew (w : World) (g i j : Nat) (v : Value) (h : j ≠ i) : (w.setCell ⟨g, i, none⟩ v).drew.cell? ⟨g, j, none⟩ = w.cell? ⟨g, j, none⟩ := cell_ne w g i j v h

set_option maxRecDepth 10000 in
set_option maxHeartbeats 1000000 in
theorem enter_full {w : World} {g : Nat} {bv : Value} {bs : List Nat} (h : ABox w g bv bs 7) :
    Calls Saag.prog 74 #[.pointer (some ⟨g, 0, none⟩)] w fun e w' => e = .returned (.bool false) ∧ w = w' := by
  have c9 := h.top
  clear h
  go_enter Saag.func74, Saag.ntmps74
  go_wp2
  go_ret
  exact ⟨rfl, rfl⟩

set_option maxRecDepth 10000 in
set_option maxHeartbeats 2000000 in
theorem enter_some {w : World} {g : Nat} {bv : Value} {bs : List Nat} {t : Nat} (h : ABox w g bv bs t) (ht : t ≤ 6) :
    Calls Saag.prog 74 #[.pointer (some ⟨g, 0, none⟩)] w fun e w' => e = .returned (.bool true) ∧ ABox w' g bv (bs.set (t + 1) (bs.getD t 0)) (t + 1) ∧ Upd w w' g := by
  obtain ⟨u, hu⟩ : ∃ u, u = t + 1 := ⟨_, rfl⟩
  have c9 := h.top
  have ct := h.base t (by omega)
  have ct1 := h.base u (by omega)
  have f1 := h.frozen (1 + u)
  have h6 : decide ((6 : Int) < (t : Int)) = false := by simp; omega
  have hb1 : (t : Int) < 8 := by omega
  have hb2 : (u : Int) < 8 := by omega
  have hwr : IntKind.u8.wrap ((t : Int) + 1) = (u : Int) := by rw [IntKind.wrap_u8]; omega
  have n1 : 9 ≠ 1 + u := by omega
  have n2 : 1 + t ≠ 1 + u := by omega
  have H := hide h
  have HU := hide hu
  rw [← hu]
  clear h hu
  generalize bs.getD t 0 = x at *
  generalize bs.getD u 0 = y at *
  go_enter Saag.func74, Saag.ntmps74
  go_wp2
  go_region_held3 (fun w' => w'.cell? ⟨g, 9, none⟩ = some (.int .u8 (t : Int)) ∧ w'.cell? ⟨g, 1 + t, none⟩ = some (.int .u32 (x : Int)))
    (first | exact ⟨c9, ct⟩ | exact ⟨(cell_ne_drew _ _ _ _ _ n1).trans c9, (cell_ne_drew _ _ _ _ _ n2).trans ct⟩) (fail)
  have A1 : ABox (w.setCell ⟨g, 1 + u, none⟩ (.int .u32 (x : Int))).drew g bv (bs.set u x) t := ((unhide H).setBase u x (by omega)).drewN 1
  have U1 : Upd w (w.setCell ⟨g, 1 + u, none⟩ (.int .u32 (x : Int))).drew g := (Upd.setCell w ⟨g, 1 + u, none⟩ _).trans (Upd.drewN _ 1 _)
  rename_i hHeld
  clear hHeld c9 ct ct1 f1 H h6 hb1 hb2 n1 n2
  generalize (w.setCell ⟨g, 1 + u, none⟩ (.int .u32 (x : Int))).drew = W at *
  have c9 := A1.top
  have f9 := A1.frozen 9
  have A2 := hide (A1.setTop u)
  have U2 := hide (U1.trans (Upd.setCell W ⟨g, 9, none⟩ (.int .u8 (u : Int))))
  clear A1 U1
  go_wp2
  go_ret
  exact ⟨rfl, unhide A2, unhide U2⟩

set_option maxRecDepth 10000 in
set_option maxHeartbeats 1000000 in
theorem leave_none {w : World} {g : Nat} {bv : Value} {bs : List Nat} (h : ABox w g bv bs 0) :
    Calls Saag.prog 75 #[.pointer (some ⟨g, 0, none⟩)] w fun e w' => e = .returned (.bool false) ∧ w = w' := by
  have c9 := h.top
  clear h
  go_enter Saag.func75, Saag.ntmps75
  go_wp2
  go_ret
  exact ⟨rfl, rfl⟩

set_option maxRecDepth 10000 in
set_option maxHeartbeats 1000000 in
theorem leave_some {w : World} {g : Nat} {bv : Value} {bs : List Nat} {t k : Nat} (h : ABox w g bv bs t) (ht : t ≤ 7) (hk : t = k + 1) :
    Calls Saag.prog 75 #[.pointer (some ⟨g, 0, none⟩)] w fun e w' => e = .returned (.bool true) ∧ ABox w' g bv bs k ∧ Upd w w' g := by
  have c9 := h.top
  have f9 := h.frozen 9
  have hz : ((t : Int) == 0) = false := by simp; omega
  have hwr : IntKind.u8.wrap ((t : Int) - 1) = (k : Int) := by rw [IntKind.wrap_u8]; omega
  have A2 := hide (h.setTop k)
  have U2 := hide (Upd.setCell w ⟨g, 9, none⟩ (.int .u8 (k : Int)))
  clear h hk
  go_enter Saag.func75, Saag.ntmps75
  go_wp2
  go_ret
  exact ⟨rfl, unhide A2, unhide U2⟩

end Go.Proofs.Ygcsaa
