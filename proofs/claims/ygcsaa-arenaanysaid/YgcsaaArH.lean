/-
  (*mmodel.Mem).Enter, Leave, Check.
-/
import Derived.Test.YgcsaaArG
namespace Go.Proofs.Ygcsaa
open Go.RowKit
set_option linter.unusedSimpArgs false
set_option linter.unusedVariables false

/-- What a method of Mem leaves. -/
def MOut (B : Nat) (w w' : World) (m : Nat) (Fs : List Fr) : Prop := ∃ v, MSt B w' m v Fs ∧ Mch B w w'

theorem Mch.ofGrown {B n : Nat} {w w' : World} {v : Value} {xs : List Value} (ho : w.ownsRow B 41 1 v n xs) (hg : w.grownBy w' v.ownBlock) (hB : B ≤ w.heap.size) : Mch B w w' := by
  refine ⟨(Below.refl B w).grown hg hB (fun k e => (ho.lt k e).1), ?_⟩
  intro k cs ty fr e h1 h2 h3
  refine hg.block k (Array.getElem?_eq_some_iff.1 e).1 ?_
  intro e'
  rcases ho.2 with ⟨rfl, _⟩ | ⟨p, cap, cur, rfl, _, hp, _⟩
  · cases e'
  · cases e'
    rw [hp] at e
    cases e
    exact h2 rfl

theorem Frs.init {B p cap : Nat} {w : World} {Gs : List Fr} {f : Fr} (h : Frs B w (.slice (some ⟨p, 0, none⟩) (Gs.length + 1) cap) (Gs ++ [f])) : Frs B w (.slice (some ⟨p, 0, none⟩) Gs.length cap) Gs := by
  refine ⟨⟨by simp, ?_⟩, fun f' hf => h.ok f' (by simp [hf]), (List.pairwise_append.1 h.apart).1, by have := h.few; simp at this; omega⟩
  rcases h.own.2 with ⟨h, _⟩ | ⟨g, c, cur, hv, h1, h2, h3, h4, h5, h6⟩
  · cases h
  · injection hv with e1 e2 e3
    injection e1 with e1
    injection e1 with e1
    subst e1
    subst e3
    refine .inr ⟨_, _, cur, rfl, h1, h2, by omega, h4, h5, ?_⟩
    have := congrArg (List.take Gs.length) h6
    rw [List.take_take, List.length_append, List.length_singleton, Nat.mul_one, Nat.min_eq_left (by omega), List.map_append, List.take_append_of_le_length (by simp)] at this
    rw [Nat.mul_one, this]
    exact List.take_of_length_le (by simp)

set_option maxRecDepth 10000 in
set_option maxHeartbeats 1000000 in
theorem menter_full {B m : Nat} {w : World} {v : Value} {Fs : List Fr} (h : MSt B w m v Fs) (hf : 7 ≤ Fs.length) :
    Calls Saag.prog 111 #[.pointer (some ⟨m, 0, none⟩)] w fun e w' => e = .returned (.bool false) ∧ w = w' := by
  rcases fr_cases Fs with rfl | ⟨Gs, f, rfl⟩
  · simp at hf
  · obtain ⟨p, cap, cur, rfl, _⟩ := h.fr.last
    have cm := h.box.cell
    rw [List.length_append, List.length_singleton] at hf
    clear h
    generalize Gs.length + 1 = n at *
    have hz : (7 : Int) ≤ (n : Int) := by omega
    go_enter Saag.func111, Saag.ntmps111
    go_wp2
    go_ret
    exact ⟨rfl, rfl⟩

set_option maxRecDepth 10000 in
set_option maxHeartbeats 1000000 in
theorem menter_some {B m : Nat} {w : World} {v : Value} {Fs : List Fr} (h : MSt B w m v Fs) (hf : Fs.length < 7) :
    Calls Saag.prog 111 #[.pointer (some ⟨m, 0, none⟩)] w fun e w' => e = .returned (.bool true) ∧ MOut B w w' m (Fs ++ [(none, [])]) := by
  obtain ⟨ao, n, cap, rfl, hn⟩ : ∃ ao n cap, v = .slice ao n cap ∧ n = Fs.length := by
    rcases h.fr.own.2 with ⟨h, h0⟩ | ⟨p, c, cur, h, _⟩
    · exact ⟨_, _, _, h, h0.symm⟩
    · exact ⟨_, _, _, h, rfl⟩
  have hb3 := below_alloc w (.cells #[.slice none 0 0] 41)
  have h3 := h.later hb3
  have hB := h.hB
  obtain ⟨v', W4, happ, hFr, hgr⟩ := run_append_frame h3.fr (none, []) ⟨M.dig_replicate_zero 0, fun _ => rfl, fun b e => (by cases e), by simp⟩ (fun f' _ b _ e => by cases e) (by omega) h3.hB w.heap.size (by rw [cell_of_row _ _ _ _ _ _ (heap_alloc_new w _)]; rfl)
  obtain ⟨po, pn, pc, rfl⟩ : ∃ po pn pc, v' = .slice po pn pc := by
    rcases (unhide hFr).own.2 with ⟨h, _⟩ | ⟨p, c, cur, h, _⟩
    · exact ⟨_, _, _, h⟩
    · exact ⟨_, _, _, h⟩
  have hM4 := h3.box.grown h3.fr.own hgr
  have up := Upd.setCell W4 ⟨m, 0, none⟩ (.slice po pn pc)
  have HF := hide (show MSt B (W4.setCell ⟨m, 0, none⟩ (.slice po pn pc)) m (.slice po pn pc) (Fs ++ [(none, [])]) from ⟨hM4.set _, (unhide hFr).updBox hM4 up, h.le⟩)
  have HC := hide (((Mch.ofBelow hB hb3).trans (Mch.ofGrown h3.fr.own hgr h3.hB)).trans (Mch.ofUpd up h.le hM4 (.inr (.inr rfl))))
  have c4 := hM4.cell
  have f4 := hM4.frozen
  have c0 := h.box.cell
  have c3 := h3.box.cell
  have hz : ¬ (7 : Int) ≤ (n : Int) := by omega
  clear h h3 hb3 hFr hgr hM4 up hn hB
  go_enter Saag.func111, Saag.ntmps111
  go_wp2_with (at_builtin; refine Lib.wpList_append_run _ rfl _ _ _ _ rfl _ _ rfl rfl _ _ (happ _) ?_)
  go_ret
  exact ⟨rfl, _, unhide HF, unhide HC⟩

set_option maxRecDepth 10000 in
set_option maxHeartbeats 1000000 in
theorem mleave_none {B m : Nat} {w : World} {v : Value} (h : MSt B w m v []) :
    Calls Saag.prog 112 #[.pointer (some ⟨m, 0, none⟩)] w fun e w' => e = .returned (.bool false) ∧ w = w' := by
  obtain ⟨ao, cap, rfl⟩ := h.fr.empty
  have cm := h.box.cell
  clear h
  go_enter Saag.func112, Saag.ntmps112
  go_wp2
  go_ret
  exact ⟨rfl, rfl⟩

set_option maxRecDepth 10000 in
set_option maxHeartbeats 2000000 in
theorem mleave_some {B m : Nat} {w : World} {v : Value} {Gs : List Fr} {f : Fr} (h : MSt B w m v (Gs ++ [f])) :
    Calls Saag.prog 112 #[.pointer (some ⟨m, 0, none⟩)] w fun e w' => e = .returned (.bool true) ∧ MOut B w w' m Gs := by
  obtain ⟨p, cap, cur, rfl, _, _, hc, _⟩ := h.fr.last
  have cm := h.box.cell
  have fm := h.box.frozen
  have hfew := h.fr.few
  have up := Upd.setCell w ⟨m, 0, none⟩ (.slice (some ⟨p, 0, none⟩) Gs.length cap)
  have HF := hide ((show MSt B (w.setCell ⟨m, 0, none⟩ (.slice (some ⟨p, 0, none⟩) Gs.length cap)) m (.slice (some ⟨p, 0, none⟩) Gs.length cap) Gs from ⟨h.box.set _, h.fr.init.updBox h.box up, h.le⟩).drewN 1)
  have HC := hide ((Mch.ofUpd up h.le h.box (.inr (.inr rfl))).trans (Mch.ofBelow (by show B ≤ (w.setCell _ _).heap.size; simp [World.setCell]; exact h.hB) (below_drewN _ 1)))
  rw [List.length_append, List.length_singleton] at hfew
  clear h up
  generalize hn : Gs.length + 1 = n at *
  generalize hj : Gs.length = j at *
  have hz : ((n : Int) == 0) = false := by simp; omega
  have hwr : IntKind.i64.wrap ((n : Int) - 1) = (j : Int) := by rw [IntKind.wrap_i64]; omega
  have hb : (j : Int) ≤ (cap : Int) := by omega
  have nc : ¬ cap = 0 := by omega
  clear hn hj
  go_enter Saag.func112, Saag.ntmps112
  go_wp2
  go_region
  go_wp2
  go_ret
  exact ⟨rfl, _, unhide HF, unhide HC⟩

set_option maxRecDepth 10000 in
set_option maxHeartbeats 400000 in
theorem mcheck_any (m : Nat) (w : World) : Calls Saag.prog 121 #[.pointer (some ⟨m, 0, none⟩)] w fun e w' => e = .returned (.bool true) ∧ w = w' := by
  go_enter Saag.func121, Saag.ntmps121
  go_wp2
  go_ret
  exact ⟨rfl, rfl⟩

end Go.Proofs.Ygcsaa
