/-
  mmodel.Mem in memory.
-/
import Derived.Test.YgcsaaArD
import Derived.Laws.OwnMore
namespace Go.Proofs.Ygcsaa
open Go.RowKit
set_option linter.unusedSimpArgs false
set_option linter.unusedVariables false

/-- A frame: its block (nil: none) and its bytes. -/
abbrev Fr := Option Nat × List Nat
/-- The slice value of a frame. -/
def fv (f : Fr) : Value := bufv f.1 f.2.length
/-- The frame lies in a block of its own, from block B on. -/
structure FrOk (B : Nat) (w : World) (f : Fr) : Prop where
  dig : M.Dig f.2
  nl : f.1 = none → f.2 = []
  blk : ∀ b, f.1 = some b → B ≤ b ∧ Blk w b f.2
  len : f.2.length ≤ 5020960

/-- The value v of type [][]byte holds the frames Fs. -/
structure Frs (B : Nat) (w : World) (v : Value) (Fs : List Fr) : Prop where
  own : w.ownsRow B 41 1 v Fs.length (Fs.map fv)
  ok : ∀ f ∈ Fs, FrOk B w f
  apart : Fs.Pairwise (fun f f' => ∀ b, f.1 = some b → f'.1 ≠ some b)
  few : Fs.length ≤ 8

/-- Block m is a Mem whose Frames are v. -/
def MBox (w : World) (m : Nat) (v : Value) : Prop := w.heap[m]? = some (.cells #[v] 148 (0, 0))

theorem MBox.lt {w : World} {m : Nat} {v : Value} (h : MBox w m v) : m < w.heap.size := (Array.getElem?_eq_some_iff.1 h).1
theorem MBox.cell {w : World} {m : Nat} {v : Value} (h : MBox w m v) : w.cell? ⟨m, 0, none⟩ = some v := by rw [cell_of_row w m 0 _ _ _ h]; rfl
theorem MBox.frozen {w : World} {m : Nat} {v : Value} (h : MBox w m v) : w.frozen? ⟨m, 0, none⟩ = false := frozen_of_row w m 0 _ _ h
theorem MBox.set {w : World} {m : Nat} {v : Value} (h : MBox w m v) (u : Value) : MBox (w.setCell ⟨m, 0, none⟩ u) m u := by
  unfold MBox
  rw [heap_setCell_same w m 0 _ _ _ h]
  rfl
theorem MBox.below {w w' : World} {m B : Nat} {v : Value} (h : MBox w m v) (hb : Below B w w') (hm : m < B) : MBox w' m v := by unfold MBox; rw [hb.block m hm]; exact h
theorem MBox.later {w w' : World} {m : Nat} {v : Value} (h : MBox w m v) (hb : Below w.heap.size w w') : MBox w' m v := h.below hb h.lt
theorem MBox.upd {w w' : World} {m k : Nat} {v : Value} (h : MBox w m v) (u : Upd w w' k) (hk : m ≠ k) : MBox w' m v := by unfold MBox; rw [u.block m hk]; exact h
theorem MBox.drewN {w : World} {m : Nat} {v : Value} (h : MBox w m v) (q : Nat) : MBox (w.drewN q) m v := h

/-- The block keeps what it held. -/
theorem ownsRow_same {w w' : World} {B e size n : Nat} {v : Value} {xs : List Value} (h : w.ownsRow B e size v n xs) (hk : ∀ k, v.ownBlock = some k → w'.heap[k]? = w.heap[k]?) : w'.ownsRow B e size v n xs := by
  refine ⟨h.1, ?_⟩
  rcases h.2 with h | ⟨g, cap, cur, rfl, h1, h2, h3⟩
  · exact .inl h
  · exact .inr ⟨g, cap, cur, rfl, h1, by rw [hk g rfl]; exact h2, h3⟩

theorem FrOk.same {B : Nat} {w w' : World} {f : Fr} (h : FrOk B w f) (hk : ∀ k, f.1 = some k → w'.heap[k]? = w.heap[k]?) : FrOk B w' f :=
  ⟨h.dig, h.nl, fun b e => ⟨(h.blk b e).1, by unfold Blk; rw [hk b e]; exact (h.blk b e).2⟩, h.len⟩

/-- Every block of the frames holds what it held. -/
theorem Frs.same {B : Nat} {w w' : World} {v : Value} {Fs : List Fr} (h : Frs B w v Fs) (hk : ∀ k, (∃ cs, w.heap[k]? = some (.cells cs 5 (0, 0)) ∨ w.heap[k]? = some (.cells cs 41 (0, 0))) → B ≤ k → w'.heap[k]? = w.heap[k]?) : Frs B w' v Fs := by
  refine ⟨ownsRow_same h.own ?_, fun f hf => (h.ok f hf).same (fun b e => hk b ⟨_, .inl ((h.ok f hf).blk b e).2⟩ ((h.ok f hf).blk b e).1), h.apart, h.few⟩
  intro k e
  rcases h.own.2 with ⟨rfl, _⟩ | ⟨g, cap, cur, rfl, h1, h2, _⟩
  · cases e
  · cases e
    exact hk g ⟨_, .inr h2⟩ h1

theorem Frs.later {B : Nat} {w w' : World} {v : Value} {Fs : List Fr} (h : Frs B w v Fs) (hb : Below w.heap.size w w') : Frs B w' v Fs :=
  h.same (fun k ⟨cs, hc⟩ _ => hb.block k (by rcases hc with hc | hc <;> exact (Array.getElem?_eq_some_iff.1 hc).1))
theorem Frs.drewN {B : Nat} {w : World} {v : Value} {Fs : List Fr} (h : Frs B w v Fs) (q : Nat) : Frs B (w.drewN q) v Fs := h.later (below_drewN w q)
/-- A Mem's box is none of the frames' blocks. -/
theorem Frs.updBox {B m : Nat} {w w' : World} {v u : Value} {Fs : List Fr} (h : Frs B w v Fs) (hm : MBox w m u) (up : Upd w w' m) : Frs B w' v Fs :=
  h.same (fun k ⟨cs, hc⟩ _ => up.block k (fun e => by
    subst e
    unfold MBox at hm
    rcases hc with hc | hc
    · rw [hm] at hc; simp at hc
    · rw [hm] at hc; simp at hc))
theorem Frs.mono {B B' : Nat} {w : World} {v : Value} {Fs : List Fr} (h : Frs B w v Fs) (hb : B' ≤ B) : Frs B' w v Fs := by
  refine ⟨⟨h.own.1, ?_⟩, fun f hf => ⟨(h.ok f hf).dig, (h.ok f hf).nl, fun b e => ⟨Nat.le_trans hb ((h.ok f hf).blk b e).1, ((h.ok f hf).blk b e).2⟩, (h.ok f hf).len⟩, h.apart, h.few⟩
  rcases h.own.2 with h' | ⟨g, cap, cur, h1, h2, h3⟩
  · exact .inl h'
  · exact .inr ⟨g, cap, cur, h1, Nat.le_trans hb h2, h3⟩
theorem Frs.nil (B : Nat) (w : World) : Frs B w (.slice none 0 0) [] := ⟨World.ownsRow_nil w B 41 1, fun f h => (by cases h), List.Pairwise.nil, by simp⟩

/-- A fresh slice is a frame. -/
theorem Fresh.fr {B : Nat} {w : World} {v : Value} {xs : List Nat} (h : Fresh B w v xs) (hl : xs.length ≤ 5020960) : ∃ f : Fr, v = fv f ∧ f.2 = xs ∧ FrOk B w f := by
  obtain ⟨d, ⟨rfl, rfl⟩ | ⟨g, hg, rfl, hb⟩⟩ := h
  · exact ⟨(none, []), rfl, rfl, d, fun _ => rfl, fun b e => (by cases e), hl⟩
  · exact ⟨(some g, xs), rfl, rfl, d, fun e => (by cases e), fun b e => (by cases e; exact ⟨hg, hb⟩), hl⟩

/-- A frame reads as its bytes. -/
theorem FrOk.rd {B : Nat} {w : World} {f : Fr} (h : FrOk B w f) : Rd w (fv f) f.2 := by
  obtain ⟨ob, xs⟩ := f
  cases ob with
  | none =>
    have := h.nl rfl
    simp only at this
    subst this
    exact ⟨none, 0, 0, rfl, rfl, Nat.le_refl _, h.dig, Row.nil w none⟩
  | some b => exact ⟨_, _, _, rfl, rfl, Nat.le_refl _, h.dig, (h.blk b rfl).2.row⟩

theorem Saag.info41 : (Saag.prog.info? 41).map (fun i => (i.zero, i.size, i.bytes)) = some (some (.slice none 0 0), 1, 24) := by kernel_rfl
theorem fv_one (f : Fr) : (fv f).oneCell' = true := by
  obtain ⟨ob, xs⟩ := f
  cases ob <;> rfl

/-- One frame more, by 'append'. -/
theorem run_append_frame {B : Nat} {w : World} {v : Value} {Fs : List Fr} (h : Frs B w v Fs) (f : Fr) (hf : FrOk B w f) (ha : ∀ f' ∈ Fs, ∀ b, f'.1 = some b → f.1 ≠ some b) (hn : Fs.length ≤ 7) (hB : B ≤ w.heap.size) (a : Nat) (hc : w.cell? ⟨a, 0, none⟩ = some (fv f)) :
    ∃ v' w', (∀ ty, (Builtin.append_ #[146, 146] ty #[v, .slice (some ⟨a, 0, none⟩) 1 1]).run Saag.prog w = .ok v' w') ∧ Hid (Frs B w' v' (Fs ++ [f])) ∧ w.grownBy w' v.ownBlock := by
  obtain ⟨i, hi, hz, hs, hby⟩ := info_parts Saag.info41
  obtain ⟨v', w', hr, ho, hg, _⟩ := run_append_own (P := Saag.prog) w B 146 0 41 i (.slice none 0 0) 1 24 Saag.underlying146 hi hz hs hby rfl (by omega) v Fs.length (Fs.map fv) h.own ⟨a, 0, none⟩ 1 1 [fv f] rfl
    (fun j u hj => by
      cases j with
      | zero => simp at hj; rw [addr_plain, ← hj]; exact hc
      | succ j => simp at hj) (fun u hu => by simp at hu; rw [hu]; exact fv_one f) (by simp only [maxLen]; omega) (by omega) hB
  refine ⟨v', w', fun ty => hr, ?_, hg⟩
  refine hide ⟨?_, ?_, ?_, ?_⟩
  · rw [List.length_append, List.map_append]; exact ho
  · have key : ∀ f', FrOk B w f' → FrOk B w' f' := fun f' h' => h'.same (fun k e => hg.block k (by have := (h'.blk k e).2.lt; exact this) (fun e' => by
      have hb := (h'.blk k e).2
      rcases h.own.2 with ⟨hv, _⟩ | ⟨g, cap, cur, hv, _, h2, _⟩
      · rw [hv] at e'; cases e'
      · rw [hv] at e'
        cases e'
        unfold Blk at hb
        rw [h2] at hb
        simp at hb))
    intro f' hf'
    rcases List.mem_append.1 hf' with h1 | h1
    · exact key f' (h.ok f' h1)
    · rw [List.mem_singleton.1 h1]; exact key f hf
  · rw [List.pairwise_append]
    exact ⟨h.apart, List.pairwise_singleton _ _, fun a ha' b hb => by rw [List.mem_singleton.1 hb]; exact ha a ha'⟩
  · simp; omega

end Go.Proofs.Ygcsaa
