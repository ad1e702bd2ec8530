/-
  law.SameMem.
-/
import Derived.Test.YgcsaaArN
namespace Go.Proofs.Ygcsaa
open Go.RowKit
set_option linter.unusedSimpArgs false
set_option linter.unusedVariables false

theorem Frs.shape {B : Nat} {w : World} {v : Value} {Fs : List Fr} (h : Frs B w v Fs) : ∃ ao cap, v = .slice ao Fs.length cap := by
  rcases h.own.2 with ⟨h, h0⟩ | ⟨p, c, cur, h, _⟩
  · exact ⟨_, _, by rw [h0]; exact h⟩
  · exact ⟨_, _, h⟩

/-- The k-th frame's cell. -/
theorem Frs.at {B : Nat} {w : World} {ao : Option Addr} {n cap : Nat} {Fs : List Fr} (h : Frs B w (.slice ao n cap) Fs) (k : Nat) (hk : k < Fs.length) : ∃ p, ao = some ⟨p, 0, none⟩ ∧ w.cell? ⟨p, k, none⟩ = some (fv Fs[k]) := by
  rcases h.own.2 with ⟨h, h0⟩ | ⟨p, c, cur, hv, h1, h2, h3, h4, h5, h6⟩
  · omega
  · injection hv with e1 e2 e3
    refine ⟨p, e1, ?_⟩
    subst e1
    subst e2
    rw [World.ownsRow.cellAt h.own k (by omega)]
    simp [hk]

set_option maxRecDepth 10000 in
set_option maxHeartbeats 1000000 in
theorem sameMem_core {w V0 : World} {xo yo : Option Addr} {n xc yc : Nat} (hn : n ≤ 8) (hV : V0 = (w.alloc (.cells #[.slice xo n xc] 148)).alloc (.cells #[.slice yo n yc] 148)) (hB : Below w.heap.size w V0)
    (cx : V0.cell? ⟨w.heap.size, 0, none⟩ = some (.slice xo n xc)) (cy : V0.cell? ⟨w.heap.size + 1, 0, none⟩ = some (.slice yo n yc))
    (hk : ∀ k, k < n → ∃ px py fx fy zs, xo = some ⟨px, 0, none⟩ ∧ yo = some ⟨py, 0, none⟩ ∧ V0.cell? ⟨px, k, none⟩ = some fx ∧ V0.cell? ⟨py, k, none⟩ = some fy ∧ Rd V0 fx zs ∧ Rd V0 fy zs) :
    Calls Saag.prog 88 #[.agg #[.slice xo n xc], .agg #[.slice yo n yc]] w fun e w' => e = .returned (.bool true) ∧ Below w.heap.size w w' := by
  have HK := hide hk
  have HV := hide hV
  have HB := hide hB
  clear hk hV hB
  have CX := hide cx
  have CY := hide cy
  rw [unhide HV] at cx cy
  go_enter Saag.func88, Saag.ntmps88
  go_wp2
  rw [← unhide HV]
  clear cx cy
  have cx := unhide CX
  have cy := unhide CY
  go_loopw [16] (fun i wr => ∃ k q : Nat, k ≤ n ∧ i = .int .i64 k ∧ wr = V0.drewN q) (fun i _ => n - (intOf i).toNat)
  case atStart => exact ⟨0, 0, Nat.zero_le _, rfl, rfl⟩
  case round =>
    obtain ⟨k, q, hkn, rfl, rfl⟩ := hrel
    by_cases hlt : k < n
    · have hlt' : (k : Int) < (n : Int) := by omega
      obtain ⟨px, py, fx, fy, zs, rfl, rfl, c1, c2, r1, r2⟩ := unhide HK k hlt
      have T : Hid (∀ n, Calls Saag.prog 51 #[fx, fy] ((V0.drewN q).drewN n) fun e w' => e = .returned (.bool true) ∧ ∃ m, w' = (V0.drewN q).drewN m) := hide (fun n => (equalBytes_any ((r1.later (below_drewN V0 q)).later (below_drewN _ n)) ((r2.later (below_drewN V0 q)).later (below_drewN _ n))).mono (by
        rintro e w' ⟨rfl, rfl⟩
        exact ⟨by simp, n, rfl⟩))
      have cxV : (V0.drewN q).cell? ⟨w.heap.size, 0, none⟩ = some (.slice (some ⟨px, 0, none⟩) n xc) := cx
      have cyV : (V0.drewN q).cell? ⟨w.heap.size + 1, 0, none⟩ = some (.slice (some ⟨py, 0, none⟩) n yc) := cy
      have c1V : (V0.drewN q).cell? ⟨px, k, none⟩ = some fx := c1
      have c2V : (V0.drewN q).cell? ⟨py, k, none⟩ = some fy := c2
      clear r1 r2 cx cy c1 c2
      have HD := hide (fun m => drewN_drewN V0 q m)
      generalize V0.drewN q = V at *
      go_wp2
      go_quiet ((go_at_call 51; exact unhide T _))
      go_wp2
      go_roundw
      case rel => exact ⟨k + 1, _, by omega, by go_num, unhide HD _⟩
      case measure => simp [intOf]; omega
    · have hlt' : ¬ (k : Int) < (n : Int) := by omega
      go_wp2
      go_ret
      exact ⟨rfl, bdrew (unhide HB) q⟩

theorem sameMem_any {B B' : Nat} {w : World} {vx vy : Value} {Fx Fy : List Fr} (hx : Frs B w vx Fx) (hy : Frs B' w vy Fy) (he : Fx.map (·.2) = Fy.map (·.2)) :
    Calls Saag.prog 88 #[.agg #[vx], .agg #[vy]] w fun e w' => e = .returned (.bool true) ∧ Below w.heap.size w w' := by
  obtain ⟨xo, xc, rfl⟩ := hx.shape
  obtain ⟨yo, yc, rfl⟩ := hy.shape
  have hlen : Fy.length = Fx.length := by
    have := congrArg List.length he
    simpa using this.symm
  rw [hlen] at hy ⊢
  have B0 : Below w.heap.size w ((w.alloc (.cells #[.slice xo Fx.length xc] 148)).alloc (.cells #[.slice yo Fx.length yc] 148)) := bstep (below_alloc _ _) (below_alloc _ _)
  have M1 : MBox ((w.alloc (.cells #[.slice xo Fx.length xc] 148)).alloc (.cells #[.slice yo Fx.length yc] 148)) w.heap.size (.slice xo Fx.length xc) := MBox.later (heap_alloc_new w _) (below_alloc _ _)
  have M2 : MBox ((w.alloc (.cells #[.slice xo Fx.length xc] 148)).alloc (.cells #[.slice yo Fx.length yc] 148)) (w.heap.size + 1) (.slice yo Fx.length yc) := by
    have := heap_alloc_new (w.alloc (.cells #[.slice xo Fx.length xc] 148)) (.cells #[.slice yo Fx.length yc] 148)
    simpa [MBox] using this
  have X0 := hx.later B0
  have Y0 := hy.later B0
  refine sameMem_core hx.few rfl B0 M1.cell M2.cell (fun k hk => ?_)
  have hk' : k < Fy.length := by omega
  obtain ⟨px, ex, cx⟩ := X0.at k hk
  obtain ⟨py, ey, cy⟩ := Y0.at k hk'
  have hget : (Fx[k]).2 = (Fy[k]).2 := by
    have h3 : (Fx.map (·.2))[k]? = (Fy.map (·.2))[k]? := by rw [he]
    simp [hk, hk'] at h3
    exact h3
  refine ⟨px, py, _, _, (Fx[k]).2, ex, ey, cx, cy, (X0.ok _ (List.getElem_mem hk)).rd, ?_⟩
  rw [hget]
  exact (Y0.ok _ (List.getElem_mem hk')).rd

end Go.Proofs.Ygcsaa
