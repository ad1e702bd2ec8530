/-
  (*mmodel.Mem).Grow.
-/
import Derived.Test.YgcsaaArL
namespace Go.Proofs.Ygcsaa
open Go.RowKit
set_option linter.unusedSimpArgs false
set_option linter.unusedVariables false

/-- What a method of Mem leaves, by the frames' bytes. -/
def MOutB (B : Nat) (w w' : World) (m : Nat) (L : List (List Nat)) : Prop := ∃ Fs v, Fs.map (·.2) = L ∧ MSt B w' m v Fs ∧ Mch B w w'
theorem MOut.b {B m : Nat} {w w' : World} {Fs : List Fr} (h : MOut B w w' m Fs) : MOutB B w w' m (Fs.map (·.2)) := by
  obtain ⟨v, h1, h2⟩ := h
  exact ⟨Fs, v, rfl, h1, h2⟩

/-- The top frame lengthened to n bytes. -/
def growL (L : List (List Nat)) (n : Nat) : List (List Nat) := L.dropLast ++ (match L.getLast? with
  | none => []
  | some f => [f ++ List.replicate (n - f.length) 0])
theorem growL_app (L : List (List Nat)) (f : List Nat) (n : Nat) : growL (L ++ [f]) n = L ++ [f ++ List.replicate (n - f.length) 0] := by simp [growL]

theorem Frs.setLast {B p cap : Nat} {w : World} {Gs : List Fr} {f f' : Fr} (h : Frs B w (.slice (some ⟨p, 0, none⟩) (Gs.length + 1) cap) (Gs ++ [f])) (hf : FrOk B w f') (ha : ∀ g ∈ Gs, ∀ b, g.1 = some b → f'.1 ≠ some b) :
    Frs B (w.setCell ⟨p, Gs.length, none⟩ (fv f')) (.slice (some ⟨p, 0, none⟩) (Gs.length + 1) cap) (Gs ++ [f']) ∧ ∃ cur, w.heap[p]? = some (.cells cur 41 (0, 0)) ∧ B ≤ p := by
  rcases h.own.2 with ⟨h, _⟩ | ⟨g, c, cur, hv, h1, h2, h3, h4, h5, h6⟩
  · cases h
  · injection hv with e1 e2 e3
    injection e1 with e1
    injection e1 with e1
    subst e1
    subst e3
    have up := Upd.setCell w ⟨p, Gs.length, none⟩ (fv f')
    have key : ∀ f0, FrOk B w f0 → FrOk B (w.setCell ⟨p, Gs.length, none⟩ (fv f')) f0 := fun f0 h0 => h0.same (fun k e => up.block k (fun e' => by
      have hb := (h0.blk k e).2
      unfold Blk at hb
      rw [e', h2] at hb
      simp at hb))
    have hlen : (Gs ++ [f]).length = Gs.length + 1 := by simp
    refine ⟨⟨⟨by simp, .inr ⟨p, cap, _, by simp, h1, heap_setCell_same w p Gs.length cur 41 _ h2, by simpa using h3, h4, by simpa using h5, ?_⟩⟩, ?_, ?_, by have := h.few; simpa using this⟩, cur, h2, h1⟩
    · have h7 : cur.toList.take (Gs.length + 1) = Gs.map fv ++ [fv f] := by simpa [hlen] using h6
      have h8 : Gs.length < cur.toList.length := by
        have := congrArg List.length h7
        simp at this
        simp
        omega
      rw [Array.toList_setIfInBounds, List.map_append, List.length_append, List.length_singleton, Nat.mul_one]
      apply List.ext_getElem?
      intro i
      have h9 := congrArg (fun (l : List Value) => l[i]?) h7
      simp only [List.getElem?_take] at h9 ⊢
      rw [List.getElem?_set]
      by_cases hi : i < Gs.length + 1
      · rw [if_pos hi] at h9 ⊢
        by_cases hi' : Gs.length = i
        · rw [if_pos hi', if_pos (by omega), List.getElem?_append_right (by simp; omega)]
          simp [hi']
        · rw [if_neg hi', h9, List.getElem?_append_left (by simp; omega), List.getElem?_append_left (by simp; omega)]
      · rw [if_neg hi, List.getElem?_eq_none (by simp; omega)]
    · intro f0 hf0
      rcases List.mem_append.1 hf0 with h0 | h0
      · exact key f0 (h.ok f0 (by simp [h0]))
      · rw [List.mem_singleton.1 h0]; exact key f' hf
    · rw [List.pairwise_append]
      exact ⟨(List.pairwise_append.1 h.apart).1, List.pairwise_singleton _ _, fun a ha' b hb => by rw [List.mem_singleton.1 hb]; exact ha a ha'⟩

/-- What Grow hands back and leaves. -/
def MGrowOut (e : Ending) (B : Nat) (w w' : World) (m : Nat) (Fs : List Fr) (words : Nat) : Prop :=
  (¬ (Fs ≠ [] ∧ words ≤ 22415) ∧ e = .returned (.bool false) ∧ MOutB B w w' m (Fs.map (·.2))) ∨
  ((Fs ≠ [] ∧ words ≤ 22415) ∧ 32 * words ≤ topL Fs ∧ e = .returned (.bool true) ∧ MOutB B w w' m (Fs.map (·.2))) ∨
  ((Fs ≠ [] ∧ words ≤ 22415) ∧ topL Fs < 32 * words ∧ e = .returned (.bool true) ∧ MOutB B w w' m (growL (Fs.map (·.2)) (32 * words)))

end Go.Proofs.Ygcsaa
