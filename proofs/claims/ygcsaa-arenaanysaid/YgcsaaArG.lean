/-
  (*mmodel.Mem).Len, has, Enter, Leave, Check.
-/
import Derived.Test.YgcsaaArF
namespace Go.Proofs.Ygcsaa
open Go.RowKit
set_option linter.unusedSimpArgs false
set_option linter.unusedVariables false

/-- Block m is a Mem with the frames Fs; all its blocks lie from B on. -/
structure MSt (B : Nat) (w : World) (m : Nat) (v : Value) (Fs : List Fr) : Prop where
  box : MBox w m v
  fr : Frs B w v Fs
  le : B ≤ m

/-- Below B nothing has turned, and none but bytes, lists of frames and Mems has turned at all. -/
structure Mch (B : Nat) (w w' : World) : Prop where
  below : Below B w w'
  tag : ∀ (k : Nat) (cs : Array Value) (ty : TypeId) (fr : Nat × Nat), w.heap[k]? = some (Obj.cells cs ty fr) → ty ≠ 5 → ty ≠ 41 → ty ≠ 148 → w'.heap[k]? = w.heap[k]?

theorem Mch.refl (B : Nat) (w : World) : Mch B w w := ⟨Below.refl _ _, fun _ _ _ _ _ _ _ _ => rfl⟩
theorem Mch.trans {B : Nat} {a b c : World} (h : Mch B a b) (k : Mch B b c) : Mch B a c :=
  ⟨h.below.trans k.below, fun i cs ty fr e h1 h2 h3 => by
    have e1 := h.tag i cs ty fr e h1 h2 h3
    rw [k.tag i cs ty fr (by rw [e1]; exact e) h1 h2 h3, e1]⟩
theorem Mch.ofBelow {B : Nat} {w w' : World} (hB : B ≤ w.heap.size) (h : Below w.heap.size w w') : Mch B w w' :=
  ⟨h.mono hB, fun k cs ty fr e _ _ _ => h.block k (Array.getElem?_eq_some_iff.1 e).1⟩
theorem Mch.ofUpd {B k : Nat} {w w' : World} {cs : Array Value} {ty : TypeId} (h : Upd w w' k) (hB : B ≤ k) (hk : w.heap[k]? = some (.cells cs ty (0, 0))) (ht : ty = 5 ∨ ty = 41 ∨ ty = 148) : Mch B w w' :=
  ⟨h.below (Below.refl _ _) hB, fun i cs' ty' fr e h1 h2 h3 => h.block i (fun e' => by
    subst e'
    rw [hk] at e
    cases e
    rcases ht with rfl | rfl | rfl
    · exact h1 rfl
    · exact h2 rfl
    · exact h3 rfl)⟩

theorem MSt.drewN {B m : Nat} {w : World} {v : Value} {Fs : List Fr} (h : MSt B w m v Fs) (q : Nat) : MSt B (w.drewN q) m v Fs := ⟨h.box.drewN q, h.fr.drewN q, h.le⟩
theorem MSt.later {B m : Nat} {w w' : World} {v : Value} {Fs : List Fr} (h : MSt B w m v Fs) (hb : Below w.heap.size w w') : MSt B w' m v Fs := ⟨h.box.later hb, h.fr.later hb, h.le⟩
theorem MSt.hB {B m : Nat} {w : World} {v : Value} {Fs : List Fr} (h : MSt B w m v Fs) : B ≤ w.heap.size := by have := h.box.lt; have := h.le; omega

/-- No frame: the list has length nought. -/
theorem Frs.empty {B : Nat} {w : World} {v : Value} (h : Frs B w v []) : ∃ ao cap, v = .slice ao 0 cap := by
  rcases h.own.2 with ⟨h, _⟩ | ⟨p, c, cur, h, _⟩
  · exact ⟨_, _, h⟩
  · exact ⟨_, _, h⟩

/-- The list of frames ends in f. -/
theorem Frs.last {B : Nat} {w : World} {v : Value} {Gs : List Fr} {f : Fr} (h : Frs B w v (Gs ++ [f])) :
    ∃ p cap cur, v = .slice (some ⟨p, 0, none⟩) (Gs.length + 1) cap ∧ B ≤ p ∧ w.heap[p]? = some (.cells cur 41 (0, 0)) ∧ Gs.length + 1 ≤ cap ∧ cur.size = cap ∧ w.cell? ⟨p, Gs.length, none⟩ = some (fv f) := by
  have ho := h.own
  rw [List.length_append, List.length_singleton] at ho
  rcases ho.2 with ⟨_, h0⟩ | ⟨p, c, cur, hv, h1, h2, h3, h4, h5, h6⟩
  · omega
  · refine ⟨p, c, cur, hv, h1, h2, h3, by omega, ?_⟩
    subst hv
    rw [World.ownsRow.cellAt ho Gs.length (by omega)]
    simp

theorem FrOk.slice {B : Nat} {w : World} {f : Fr} (h : FrOk B w f) : ∃ ao, fv f = .slice ao f.2.length f.2.length := by
  obtain ⟨ob, xs⟩ := f
  cases ob with
  | none =>
    have := h.nl rfl
    simp only at this
    subst this
    exact ⟨none, rfl⟩
  | some b => exact ⟨_, rfl⟩

/-- The top frame's length. -/
def topL (Fs : List Fr) : Nat := match Fs.getLast? with
  | none => 0
  | some f => f.2.length
theorem topL_app (Gs : List Fr) (f : Fr) : topL (Gs ++ [f]) = f.2.length := by simp [topL]

theorem fr_cases (Fs : List Fr) : Fs = [] ∨ ∃ Gs f, Fs = Gs ++ [f] := by
  by_cases h : Fs = []
  · exact .inl h
  · exact .inr ⟨Fs.dropLast, Fs.getLast h, (List.dropLast_concat_getLast h).symm⟩

theorem Frs.topLen {B : Nat} {w : World} {v : Value} {Fs : List Fr} (h : Frs B w v Fs) : topL Fs ≤ 5020960 := by
  rcases fr_cases Fs with rfl | ⟨Gs, f, rfl⟩
  · exact Nat.zero_le _
  · rw [topL_app]; exact (h.ok f (by simp)).len

set_option maxRecDepth 10000 in
set_option maxHeartbeats 1000000 in
theorem mlen_any {B m : Nat} {w : World} {v : Value} {Fs : List Fr} (h : MSt B w m v Fs) :
    Calls Saag.prog 114 #[.pointer (some ⟨m, 0, none⟩)] w fun e w' => e = .returned (.int .u32 (topL Fs : Nat)) ∧ ∃ q, w' = w.drewN q := by
  rcases fr_cases Fs with rfl | ⟨Gs, f, rfl⟩
  · obtain ⟨ao, cap, rfl⟩ := h.fr.empty
    have cm := h.box.cell
    clear h
    go_enter Saag.func114, Saag.ntmps114
    go_wp2
    go_ret
    exact ⟨rfl, 0, rfl⟩
  · obtain ⟨p, cap, cur, rfl, _, _, hc, _, cp⟩ := h.fr.last
    have cm := h.box.cell
    have hok := h.fr.ok f (by simp)
    have hfew := h.fr.few
    obtain ⟨ao, hfv⟩ := hok.slice
    have hlen := hok.len
    rw [hfv] at cp
    rw [topL_app]
    rw [List.length_append, List.length_singleton] at hfew
    clear h hok hfv
    generalize hn : Gs.length + 1 = n at *
    generalize hj : Gs.length = j at *
    generalize f.2.length = L at *
    have hz : ((n : Int) == 0) = false := by simp; omega
    have hwr : IntKind.i64.wrap ((n : Int) - 1) = (j : Int) := by rw [IntKind.wrap_i64]; omega
    have hb : (j : Int) < (n : Int) := by omega
    have hw2 : IntKind.u32.wrap (L : Int) = (L : Int) := by rw [IntKind.wrap_u32]; omega
    clear hn hj
    go_enter Saag.func114, Saag.ntmps114
    go_wp2
    go_quiet (fail)
    go_wp2
    go_ret
    exact ⟨rfl, _, rfl⟩

/-- l bytes from off lie in the top frame. -/
def Has (Fs : List Fr) (off l : Nat) : Prop := Fs ≠ [] ∧ off + l ≤ topL Fs

set_option maxRecDepth 10000 in
set_option maxHeartbeats 1000000 in
theorem has_any {B m : Nat} {w : World} {v : Value} {Fs : List Fr} (off l : Nat) (ho : off < 4294967296) (hl : l < 4294967296) (h : MSt B w m v Fs) :
    Calls Saag.prog 128 #[.pointer (some ⟨m, 0, none⟩), .int .u32 (off : Int), .int .u32 (l : Int)] w fun e w' => BoolOut e (Has Fs off l) ∧ ∃ q, w' = w.drewN q := by
  have T := hide (mlen_any h)
  have htl := h.fr.topLen
  have cm := h.box.cell
  rcases fr_cases Fs with rfl | ⟨Gs, f, rfl⟩
  · obtain ⟨ao, cap, rfl⟩ := h.fr.empty
    clear h
    go_enter Saag.func128, Saag.ntmps128
    go_wp2
    go_ret
    exact ⟨⟨_, rfl, by simp, fun h => absurd rfl h.1⟩, 0, rfl⟩
  · obtain ⟨p, cap, cur, rfl, _⟩ := h.fr.last
    have hne : Gs ++ [f] ≠ [] := by simp
    clear h
    generalize hn : Gs.length + 1 = n at *
    have hz : (0 : Int) < (n : Int) := by omega
    clear hn
    unfold Has
    generalize topL (Gs ++ [f]) = L at *
    generalize Gs ++ [f] = Fs at *
    have hw1 : IntKind.u64.wrap (off : Int) = (off : Int) := by rw [IntKind.wrap_u64]; omega
    have hw2 : IntKind.u64.wrap (l : Int) = (l : Int) := by rw [IntKind.wrap_u64]; omega
    have hw3 : IntKind.u64.wrap (L : Int) = (L : Int) := by rw [IntKind.wrap_u64]; omega
    have hw4 : IntKind.u64.wrap ((off : Int) + (l : Int)) = ((off + l : Nat) : Int) := by rw [IntKind.wrap_u64]; omega
    have hd : decide (((off + l : Nat) : Int) ≤ (L : Int)) = decide (off + l ≤ L) := by simp; omega
    have HD := hide hd
    generalize hs : off + l = s at *
    have Hs := hide hs
    clear hs hd
    go_enter Saag.func128, Saag.ntmps128
    go_wp2_with fail
    refine (unhide T).mono ?_
    rintro e w' ⟨rfl, q, rfl⟩
    by_cases hsl : s ≤ L
    · have hsl' : (s : Int) ≤ (L : Int) := by omega
      go_wp2
      go_ret
      exact ⟨⟨_, rfl, fun _ => ⟨hne, by first | exact hsl | (rw [unhide Hs]; exact hsl)⟩, fun _ => rfl⟩, q, rfl⟩
    · have hsl' : ¬ (s : Int) ≤ (L : Int) := by omega
      go_wp2
      go_ret
      exact ⟨⟨_, rfl, by simp, fun h => absurd h.2 (by first | exact hsl | (rw [unhide Hs]; exact hsl))⟩, q, rfl⟩

end Go.Proofs.Ygcsaa
