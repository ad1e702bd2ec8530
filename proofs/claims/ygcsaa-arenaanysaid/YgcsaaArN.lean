/-
  (*mmodel.Mem).Grow: the walk.
-/
import Derived.Test.YgcsaaArM
namespace Go.Proofs.Ygcsaa
open Go.RowKit
set_option linter.unusedSimpArgs false
set_option linter.unusedVariables false

/-- The copy of the top frame to the head of the longer row. -/
theorem run_copy_frame {B : Nat} {W : World} {f : Fr} (hok : FrOk B W f) (g n : Nat) (hg : Blk W g (List.replicate n 0)) (hn : f.2.length ≤ n) :
    ∃ w', (Builtin.copy_ #[41, 41] 3 #[.slice (some ⟨g, 0, none⟩) n n, fv f]).run Saag.prog W = .ok (.int .i64 (f.2.length : Int)) w' ∧ Hid (Blk w' g (f.2 ++ List.replicate (n - f.2.length) 0)) ∧ Upd W w' g := by
  obtain ⟨ob, ys⟩ := f
  have efin : splice (List.replicate n 0) 0 ys = ys ++ List.replicate (n - ys.length) 0 := by simp [splice]
  cases ob with
  | none =>
    have := hok.nl rfl
    simp only at this
    subst this
    refine ⟨W, ?_, hide (by simpa using hg), Upd.refl _ _⟩
    exact run_copy_none (P := Saag.prog) W 41 41 3 5 (some ⟨g, 0, none⟩) none n n 0 0 Saag.underlying41 Saag.size5 (by simp [Nat.min_def])
  | some b =>
    obtain ⟨w', h1, h2, h3⟩ := run_copy_bytes W 41 41 3 g 0 n n ⟨b, 0, none⟩ ys.length ys.length (List.replicate n 0) ys Saag.underlying41 hg (by simp only at hn; simp [Nat.min_def]; omega) (hok.blk b rfl).2.row (by simp only at hn; simp; exact hn)
    refine ⟨w', h1, ?_, h3⟩
    rw [efin] at h2
    exact h2

/-- The list of frames with the longer row in the top frame's place. -/
theorem mgrow_fin {B m p cap n j ww : Nat} {w W W2 : World} {Gs : List Fr} {f : Fr} (hS : MSt B W m (.slice (some ⟨p, 0, none⟩) n cap) (Gs ++ [f])) (hn : j + 1 = n) (hj : Gs.length = j) (hC : Mch B w W) (hb : Below W.heap.size W W2) (hk : Blk W2 W.heap.size (f.2 ++ List.replicate (ww - f.2.length) 0)) (hl : f.2.length ≤ ww) (hww : ww ≤ 717280) :
    MOutB B w (W2.setCell ⟨p, j, none⟩ (.slice (some ⟨W.heap.size, 0, none⟩) ww ww)).drew m (growL ((Gs ++ [f]).map (·.2)) ww) ∧ W2.frozen? ⟨p, j, none⟩ = false ∧ m ≠ p := by
  subst hn
  subst hj
  have S2 := hS.later hb
  have hlen : (f.2 ++ List.replicate (ww - f.2.length) 0).length = ww := by simp; omega
  have hf : FrOk B W2 (some W.heap.size, f.2 ++ List.replicate (ww - f.2.length) 0) :=
    ⟨M.dig_append (hS.fr.ok f (by simp)).dig (M.dig_replicate_zero _), fun e => (by cases e), fun b e => (by cases e; exact ⟨hS.hB, hk⟩), by simp only; rw [hlen]; omega⟩
  obtain ⟨hF, cur, hp, hBp⟩ := S2.fr.setLast hf (fun g hg b e e' => by
    have := hS.fr.lt g (by simp [hg]) b e
    cases e'
    omega)
  have efv : fv (some W.heap.size, f.2 ++ List.replicate (ww - f.2.length) 0) = .slice (some ⟨W.heap.size, 0, none⟩) ww ww := by unfold fv bufv; simp only; rw [hlen]
  rw [efv] at hF
  have up := Upd.setCell W2 ⟨p, Gs.length, none⟩ (.slice (some ⟨W.heap.size, 0, none⟩) ww ww)
  have hmp : m ≠ p := fun e => by
    have h1 := S2.box
    unfold MBox at h1
    rw [e, hp] at h1
    simp at h1
  have hM : MSt B (W2.setCell ⟨p, Gs.length, none⟩ (.slice (some ⟨W.heap.size, 0, none⟩) ww ww)) m (.slice (some ⟨p, 0, none⟩) (Gs.length + 1) cap) (Gs ++ [(some W.heap.size, f.2 ++ List.replicate (ww - f.2.length) 0)]) := ⟨S2.box.upd up hmp, hF, hS.le⟩
  refine ⟨⟨_, _, ?_, hM.drewN 1, (hC.trans (Mch.ofBelow hS.hB hb)).trans ((Mch.ofUpd up hBp hp (.inr (.inl rfl))).trans (Mch.ofBelow hM.hB (below_drewN _ 1)))⟩, frozen_of_row W2 p _ _ _ hp, hmp⟩
  rw [List.map_append, List.map_append]
  simp only [List.map_cons, List.map_nil]
  rw [growL_app]

set_option maxRecDepth 10000 in
set_option maxHeartbeats 2000000 in
theorem mgrow_any {B m : Nat} {w : World} {v : Value} {Fs : List Fr} (words : Nat) (hw32 : words < 4294967296) (h : MSt B w m v Fs) :
    Calls Saag.prog 113 #[.pointer (some ⟨m, 0, none⟩), .int .u32 (words : Int)] w fun e w' => MGrowOut e B w w' m Fs words := by
  rcases fr_cases Fs with rfl | ⟨Gs, f, rfl⟩
  · obtain ⟨ao, cap, rfl⟩ := h.fr.empty
    have cm := h.box.cell
    have HM := hide (show MOutB B w w m (([] : List Fr).map (·.2)) from ⟨[], _, rfl, h, Mch.refl _ _⟩)
    clear h
    go_enter Saag.func113, Saag.ntmps113
    go_wp2
    go_ret
    exact .inl ⟨fun h => h.1 rfl, rfl, unhide HM⟩
  · have T := hide (mlen_any h)
    obtain ⟨p, cap, cur, rfl, hpB, hpb, hc, _, cp⟩ := h.fr.last
    have cm := h.box.cell
    have hfew := h.fr.few
    rw [List.length_append, List.length_singleton] at hfew
    have hne : Hid (Gs ++ [f] ≠ []) := hide (by simp)
    have HS := hide h
    have HB := hide h.hB
    have hlen := (h.fr.ok f (by simp)).len
    rw [topL_app] at T
    have HT := hide (topL_app Gs f)
    have hmapd : Hid ((Gs ++ [f]).map (·.2) = Gs.map (·.2) ++ [f.2]) := hide (by simp)
    have Hcp := hide cp
    clear h hpb cp
    generalize hn : Gs.length + 1 = n at *
    have Hn := hide hn
    have hz : ((n : Int) == 0) = false := by simp; omega
    clear hn
    by_cases hw : words ≤ 22415
    · have hw' : decide ((22415 : Int) < (words : Int)) = false := by simp; omega
      have hmul : IntKind.u32.wrap (32 * (words : Int)) = ((32 * words : Nat) : Int) := by rw [IntKind.wrap_u32]; omega
      obtain ⟨ww, hww⟩ : ∃ ww, ww = 32 * words := ⟨_, rfl⟩
      rw [← hww] at hmul
      have hwwb : ww ≤ 717280 := by omega
      have Hww := hide hww
      clear hww
      go_enter Saag.func113, Saag.ntmps113
      go_wp2_with fail
      refine (unhide T).mono ?_
      rintro e w' ⟨rfl, q, rfl⟩
      have HSV := hide ((unhide HS).drewN q)
      have HCV := hide (Mch.ofBelow (unhide HB) (below_drewN w q))
      have cmV : (w.drewN q).cell? ⟨m, 0, none⟩ = some (.slice (some ⟨p, 0, none⟩) n cap) := cm
      have cpV : Hid ((w.drewN q).cell? ⟨p, Gs.length, none⟩ = some (fv f)) := Hcp
      clear T HS cm Hcp
      generalize w.drewN q = W at *
      by_cases hle : ww ≤ f.2.length
      · have hle' : (ww : Int) ≤ ((f.2.length : Nat) : Int) := by omega
        have HM := hide (show MOutB B w W m ((Gs ++ [f]).map (·.2)) from ⟨_, _, rfl, unhide HSV, unhide HCV⟩)
        clear HSV HCV
        go_wp2
        go_ret
        exact .inr (.inl ⟨⟨unhide hne, hw⟩, by rw [unhide HT, ← unhide Hww]; exact hle, rfl, unhide HM⟩)
      · have hle' : ¬ (ww : Int) ≤ ((f.2.length : Nat) : Int) := by omega
        have Hle := hide hle
        generalize hj : Gs.length = j at *
        have Hj := hide hj
        have hwr : IntKind.i64.wrap ((n : Int) - 1) = (j : Int) := by have := unhide Hn; rw [IntKind.wrap_i64]; omega
        have hjn : (j : Int) < (n : Int) := by have := unhide Hn; omega
        clear hj
        have Hm : ww ≤ 140737488355328 := by omega
        generalize hL : f.2.length = L at *
        have HL := hide hL
        clear hL hle
        go_wp2_with (at_make; refine wpList_make_big _ rfl _ _ 41 rfl Saag.underlying41 _ _ _ _ ww rfl rfl rfl rfl Hm ?_; intro w1 hblk hsz hbel)
        have S1d := ((unhide HSV).later hbel).drewN 1
        have hL := unhide HL
        obtain ⟨W2, hrun, hblk2, hupd⟩ := run_copy_frame (S1d.fr.ok f (by simp)) W.heap.size ww (unhide hblk) (by omega)
        rw [hL] at hrun
        have hrun1 : (Builtin.copy_ #[41, 41] 3 #[.slice (some ⟨W.heap.size, 0, none⟩) ww ww, fv f]).run Saag.prog w1.drew = .ok (.int .i64 (L : Int)) W2 := hrun
        clear hrun
        have hb2 : Below W.heap.size W W2 := hupd.below hbel.drew (Nat.le_refl _)
        obtain ⟨hO, hfz, hmp⟩ := mgrow_fin (unhide HSV) (unhide Hn) (unhide Hj) (unhide HCV) hb2 (unhide hblk2) (by omega) hwwb
        have hml := (unhide HSV).box.lt
        have hpl : p < W.heap.size := block_lt_of_cell (unhide cpV)
        have cm1 : w1.drew.cell? ⟨m, 0, none⟩ = some (.slice (some ⟨p, 0, none⟩) n cap) := (hbel.drew.cell (p := ⟨m, 0, none⟩) hml).trans cmV
        have cp1 : w1.drew.cell? ⟨p, j, none⟩ = some (fv f) := (hbel.drew.cell (p := ⟨p, j, none⟩) hpl).trans (unhide cpV)
        have cm2 := (hb2.cell (p := ⟨m, 0, none⟩) hml).trans cmV
        have cp2 := (hb2.cell (p := ⟨p, j, none⟩) hpl).trans (unhide cpV)
        have HO := hide hO
        clear hO hb2 hupd hblk2 S1d hL hbel hsz hblk HSV HCV cpV cmV
        go_region_held3 (fun w' => w'.cell? ⟨m, 0, none⟩ = some (.slice (some ⟨p, 0, none⟩) n cap) ∧ w'.cell? ⟨p, j, none⟩ = some (fv f)) (first | exact ⟨cm1, cp1⟩ | exact ⟨cm2, cp2⟩) (fail)
        clear cm1 cp1 hrun1
        go_wp2
        go_region_held3 (fun w' => w'.cell? ⟨m, 0, none⟩ = some (.slice (some ⟨p, 0, none⟩) n cap)) (first | exact cm2 | exact (cell_far_drew _ _ _ _ _ hmp).trans cm2) (fail)
        rename_i hHeld
        clear hHeld cm2 cp2 hfz
        generalize (W2.setCell ⟨p, j, none⟩ (.slice (some ⟨W.heap.size, 0, none⟩) ww ww)).drew = W5 at *
        go_wp2
        go_ret
        exact .inr (.inr ⟨⟨unhide hne, hw⟩, by rw [unhide HT, ← unhide Hww]; have := unhide Hle; omega, rfl, by rw [← unhide Hww]; exact unhide HO⟩)
    · have hw' : (22415 : Int) < (words : Int) := by omega
      have HM := hide (show MOutB B w w m ((Gs ++ [f]).map (·.2)) from ⟨_, _, rfl, unhide HS, Mch.refl _ _⟩)
      have Hw := hide hw
      clear T HS hw
      go_enter Saag.func113, Saag.ntmps113
      go_wp2
      go_ret
      exact .inl ⟨fun h => unhide Hw h.2, rfl, unhide HM⟩

end Go.Proofs.Ygcsaa
