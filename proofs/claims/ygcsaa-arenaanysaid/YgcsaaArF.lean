/-
  law.AbsArena.
-/
import Derived.Test.YgcsaaArE
namespace Go.Proofs.Ygcsaa
open Go.RowKit
set_option linter.unusedSimpArgs false
set_option linter.unusedVariables false

/-- The frames that the arena means. -/
def absF (xs bs : List Nat) (t : Nat) : List (List Nat) := (List.range t).map fun i => sg xs (bs.getD i 0) (bs.getD (i + 1) 0 - bs.getD i 0)
theorem absF_succ (xs bs : List Nat) (t : Nat) : absF xs bs (t + 1) = absF xs bs t ++ [sg xs (bs.getD t 0) (bs.getD (t + 1) 0 - bs.getD t 0)] := by simp [absF, List.range_succ]

theorem Saag.info148 : (Saag.prog.info? 148).map (·.size) = some 1 := by kernel_rfl
/-- The result of a function that hands back a Mem. -/
theorem ret148 {fn : Func} {p : Tmp} (h : fn.results = #[.cell p 148]) (tmps : Array Value) (w : World) (g : Nat) {v : Value} (hp : tmps.getD p undef = .pointer (some ⟨g, 0, none⟩)) (hb : MBox w g v) :
    (results fn tmps).run Saag.prog w = .ok (.agg #[v]) w :=
  results_cell_row h tmps w g 148 _ (0, 0) _ hp hb Saag.underlying148 rfl (by rw [Saag.info148]; rfl)

theorem rd_sliced {w : World} {ao : Option Addr} {n cap x y : Nat} {xs : List Nat} (h : Rd w (.slice ao n cap) xs) (hx : x ≤ y) (hy : y ≤ n) :
    Rd w (.slice (if cap = x then ao else ao.map (fun a => a.add x)) (y - x) (cap - x)) (sg xs x (y - x)) := by
  obtain ⟨ao', n', cap', e, hn, hc, hd, hr⟩ := h
  cases e
  have hl : (sg xs x (y - x)).length = y - x := sg_len (by omega)
  refine ⟨_, _, _, rfl, hl, by omega, sg_dig hd _ _, ?_⟩
  intro i hi
  rw [hl] at hi
  rw [if_neg (by omega)]
  obtain ⟨b, off, e, hc⟩ := hr (x + i) (by omega)
  subst e
  refine ⟨b, off + x, by simp [addr_plain], ?_⟩
  rw [sg_getD (by omega) hi, Nat.add_assoc]
  exact hc

/-- Where the loop of AbsArena stands. -/
structure AbsI (V0 wr : World) (g : Nat) (xs bs : List Nat) (k : Nat) (v : Value) (Fs : List Fr) : Prop where
  box : MBox wr (g + 2) v
  fr : Frs (g + 3) wr v Fs
  eq : Fs.map (·.2) = absF xs bs k
  bel : Below (g + 2) V0 wr

theorem ABox.grown {w w' : World} {g : Nat} {bv v : Value} {bs : List Nat} {t B n : Nat} {xs : List Value} (h : ABox w g bv bs t) (ho : w.ownsRow B 41 1 v n xs) (hg : w.grownBy w' v.ownBlock) : ABox w' g bv bs t :=
  ⟨by
    rw [hg.block g h.lt]
    · exact h.blk
    · intro e
      rcases ho.2 with ⟨rfl, _⟩ | ⟨p, cap, cur, rfl, _, h2, _⟩
      · cases e
      · cases e
        have := h.blk
        rw [h2] at this
        simp at this, h.len⟩
theorem MBox.grown {w w' : World} {m : Nat} {u v : Value} {B n : Nat} {xs : List Value} (h : MBox w m u) (ho : w.ownsRow B 41 1 v n xs) (hg : w.grownBy w' v.ownBlock) : MBox w' m u := by
  unfold MBox
  rw [hg.block m h.lt]
  · exact h
  · intro e
    rcases ho.2 with ⟨rfl, _⟩ | ⟨p, cap, cur, rfl, _, h2, _⟩
    · cases e
    · cases e
      have h' := h
      unfold MBox at h'
      rw [h2] at h'
      simp at h'

/-- One round of AbsArena: the frame is appended, the box written. -/
theorem abs_step {V0 wr W2 : World} {g : Nat} {xs bs ys : List Nat} {k u t : Nat} {v v2 bv : Value} {Fs : List Fr} (hI : AbsI V0 wr g xs bs k v Fs) (A : ABox wr g bv bs t) (hk : k ≤ 7) (hb : Below wr.heap.size wr W2) (hf : Fresh wr.heap.size W2 v2 ys) (hset : absF xs bs u = absF xs bs k ++ [ys]) (hys : ys.length ≤ 5020960) :
    ∃ po pn pc W4, (∀ ty, (Builtin.append_ #[146, 146] ty #[v, .slice (some ⟨W2.heap.size, 0, none⟩) 1 1]).run Saag.prog (W2.alloc (.cells #[v2] 41)) = .ok (.slice po pn pc) W4) ∧
      W4.cell? ⟨g + 2, 0, none⟩ = some v ∧ W4.frozen? ⟨g + 2, 0, none⟩ = false ∧ ABox W4 g bv bs t ∧ ABox (W4.setCell ⟨g + 2, 0, none⟩ (.slice po pn pc)) g bv bs t ∧ Hid (∃ Fs', AbsI V0 (W4.setCell ⟨g + 2, 0, none⟩ (.slice po pn pc)) g xs bs u (.slice po pn pc) Fs') := by
  obtain ⟨f, rfl, hf2, hfo⟩ := hf.fr hys
  have hlen : Fs.length = k := by
    have := congrArg List.length hI.eq
    simpa [absF] using this
  have hb3 : Below wr.heap.size wr (W2.alloc (.cells #[fv f] 41)) := bstep hb (below_alloc _ _)
  have hF3 := hI.fr.later hb3
  have hM3 := hI.box.later hb3
  have hA3 := A.later hb3
  have hmlt := hI.box.lt
  have hsz : W2.heap.size ≤ (W2.alloc (.cells #[fv f] 41)).heap.size := by simp
  have hwr := hb.size
  have hfo3 : FrOk (g + 3) (W2.alloc (.cells #[fv f] 41)) f := by
    have h1 : FrOk wr.heap.size (W2.alloc (.cells #[fv f] 41)) f := hfo.same (fun b e => Below.heap_alloc W2 _ b ((hfo.blk b e).2.lt))
    exact ⟨h1.dig, h1.nl, fun b e => ⟨by have := (h1.blk b e).1; omega, (h1.blk b e).2⟩, h1.len⟩
  obtain ⟨v', W4, hrun, hFr, hgr⟩ := run_append_frame hF3 f hfo3 (fun f' hf' b e1 e2 => by
      have h1 := ((hI.fr.ok f' hf').blk b e1).2.lt
      have h2 := (hfo.blk b e2).1
      omega) (by omega) (by simp; omega) W2.heap.size (by rw [cell_of_row _ _ _ _ _ _ (heap_alloc_new W2 _)]; rfl)
  obtain ⟨po, pn, pc, rfl⟩ : ∃ po pn pc, v' = .slice po pn pc := by
    rcases (unhide hFr).own.2 with ⟨h, _⟩ | ⟨p, c, cur, h, _⟩
    · exact ⟨_, _, _, h⟩
    · exact ⟨_, _, _, h⟩
  have hM4 := hM3.grown hF3.own hgr
  have hA4 := hA3.grown hF3.own hgr
  have up := Upd.setCell W4 ⟨g + 2, 0, none⟩ (.slice po pn pc)
  refine ⟨po, pn, pc, W4, hrun, hM4.cell, hM4.frozen, hA4, hA4.upd up (by show g ≠ g + 2; omega), hide ⟨Fs ++ [f], hM4.set _, (unhide hFr).updBox hM4 up, ?_, ?_⟩⟩
  · rw [List.map_append, hI.eq, hset, ← hf2]; rfl
  · have h1 : Below (g + 2) V0 (W2.alloc (.cells #[fv f] 41)) := hI.bel.trans (hb3.mono (by omega))
    refine Upd.below (h1.grown hgr (by simp; omega) (fun p e => ?_)) up (Nat.le_refl _)
    rcases hF3.own.2 with ⟨rfl, _⟩ | ⟨p', cap, cur, rfl, h2, _⟩
    · cases e
    · have e' : p' = p := by simpa [Value.ownBlock] using e
      omega

set_option maxRecDepth 10000 in
set_option maxHeartbeats 4000000 in
theorem absArena_any {w : World} {bv : Value} {xs bs : List Nat} {t : Nat} (hr : Rd w bv xs) (hl : bs.length = 8) (hu : U32s bs) (hg : Good xs.length bs t) :
    Calls Saag.prog 85 #[.agg (arCells bv bs t)] w fun e w' => ∃ v Fs, e = .returned (.agg #[v]) ∧ Frs w.heap.size w' v Fs ∧ Fs.map (·.2) = absF xs bs t ∧ Below w.heap.size w w' := by
  obtain ⟨ao, n, cap, rfl, hn, hcap, hd, hrow⟩ := id hr
  obtain ⟨V0, hV0⟩ : ∃ V0, V0 = ((w.alloc (.cells (arCells (.slice ao n cap) bs t) 78)).alloc (.cells #[.slice none 0 0] 148)).alloc (.cells #[.slice none 0 0] 148) := ⟨_, rfl⟩
  have A0 : ABox V0 w.heap.size (.slice ao n cap) bs t := by rw [hV0]; exact ((ABox.new w _ bs t hl).later (below_alloc _ _)).later (below_alloc _ _)
  have M1 : MBox V0 (w.heap.size + 1) (.slice none 0 0) := by
    rw [hV0]
    refine MBox.later ?_ (below_alloc _ _)
    have := heap_alloc_new (w.alloc (.cells (arCells (.slice ao n cap) bs t) 78)) (.cells #[.slice none 0 0] 148)
    simpa [MBox] using this
  have M2 : MBox V0 (w.heap.size + 2) (.slice none 0 0) := by
    rw [hV0]
    have := heap_alloc_new ((w.alloc (.cells (arCells (.slice ao n cap) bs t) 78)).alloc (.cells #[.slice none 0 0] 148)) (.cells #[.slice none 0 0] 148)
    simpa [MBox] using this
  have B0 : Below w.heap.size w V0 := by rw [hV0]; exact bstep (bstep (below_alloc _ _) (below_alloc _ _)) (below_alloc _ _)
  have sz0 : V0.heap.size = w.heap.size + 3 := by rw [hV0]; simp
  have h7 := hg.1.1
  have T := hide (check_any A0 hu (by omega) (by have := hg.2.2; omega))
  have HG := hide hg
  have HV0 := hide hV0
  have HA0 := hide A0
  have HM1 := hide M1
  have HM2 := hide M2
  have HB0 := hide B0
  have HSZ := hide sz0
  have HRw := hide hr
  have Hn := hide hn
  have HL := hide hl
  clear hr hrow hd hg hV0 A0 M1 M2 B0 sz0 hn hl
  go_enter Saag.func85, Saag.ntmps85
  go_wp2_with fail
  rw [← unhide HV0]
  refine (unhide T).mono ?_
  rintro e w' ⟨⟨b, rfl, hb⟩, q, rfl⟩
  obtain rfl : b = true := hb.2 (by rw [← unhide Hn]; exact unhide HG)
  clear T hb HV0
  go_wp2
  go_loopw [4] (fun i wr => ∃ (k : Nat) (v : Value) (Fs : List Fr), k ≤ t ∧ i = .int .u8 k ∧ AbsI V0 wr w.heap.size xs bs k v Fs) (fun i _ => t - (intOf i).toNat)
  case atStart =>
    have := unhide HSZ
    exact ⟨0, _, [], Nat.zero_le _, rfl, (unhide HM2), Frs.nil _ _, rfl, (below_drewN V0 q).mono (by omega)⟩
  case round =>
    obtain ⟨k, v, Fs, hk, rfl, hI⟩ := hrel
    have A1 : ABox wr w.heap.size (.slice ao n cap) bs t := (unhide HA0).below hI.bel (by omega)
    have HI := hide hI
    clear hI
    have c9 := A1.top
    by_cases hkt : k < t
    · have hlt : (k : Int) < (t : Int) := by omega
      obtain ⟨u, hu'⟩ : ∃ u, u = k + 1 := ⟨_, rfl⟩
      have k8 := hide (show k < 8 by omega)
      have u8 := hide (show u < 8 by omega)
      have hb1 : (k : Int) < 8 := by omega
      have hb2 : (u : Int) < 8 := by omega
      have hwr : IntKind.u8.wrap ((k : Int) + 1) = (u : Int) := by rw [IntKind.wrap_u8]; omega
      have hxy : bs.getD k 0 ≤ bs.getD u 0 := by rw [hu']; exact (unhide HG).step hkt
      have hyn : bs.getD u 0 ≤ n := by
        rw [← unhide Hn]
        exact Nat.le_trans (good_mono (unhide HG) t u (by omega) (Nat.le_refl _)) (unhide HG).2.1
      have hset : absF xs bs u = absF xs bs k ++ [sg xs (bs.getD k 0) (bs.getD u 0 - bs.getD k 0)] := by rw [hu']; exact absF_succ xs bs k
      have HSET := hide hset
      have HU := hide hu'
      clear hset hu'
      obtain ⟨x, hx⟩ : ∃ x, bs.getD k 0 = x := ⟨_, rfl⟩
      obtain ⟨y, hy⟩ : ∃ y, bs.getD u 0 = y := ⟨_, rfl⟩
      rw [hx, hy] at hxy
      rw [hy] at hyn
      have HX := hide hx
      have HY := hide hy
      have i1 : (x : Int) ≤ (y : Int) := by omega
      have i2 : (y : Int) ≤ (cap : Int) := by omega
      clear hx hy
      have HA1 := hide A1
      clear A1
      go_wp2
      refine wp_region_held_drew (S := fun w' => ABox w' w.heap.size (.slice ao n cap) bs t) (by kernel_rfl) ((unhide HA1).drewN 1) (fun hS => ?_)
      refine wpAnyH_take (i := 0) (v := .pointer (some ⟨w.heap.size + 2, 0, none⟩)) rfl (by kernel_rfl) (by kernel_rfl) (by kernel_rfl) (fun _ _ _ h => h) (Or.inl ⟨by rfl, ?_⟩) (by assumption) ?_
      · intro w1 hw1
        have d0 := hw1.buf
        have d1 := hw1.base k (unhide k8)
        have d2 := hw1.base u (unhide u8)
        rw [unhide HX] at d1
        rw [unhide HY] at d2
        clear hw1
        go_simp
        try rfl
      try simp only [Act.put, List.setIfInBounds_toArray, List.set_cons_zero, List.set_cons_succ]
      refine wpAnyH_take (i := 2) (v := .pointer (some ⟨w.heap.size, 0, none⟩)) rfl (by kernel_rfl) (by kernel_rfl) (by kernel_rfl) (fun _ _ _ h => h) (Or.inl ⟨by rfl, ?_⟩) (by assumption) ?_
      · intro w1 hw1
        have d0 := hw1.buf
        have d1 := hw1.base k (unhide k8)
        have d2 := hw1.base u (unhide u8)
        rw [unhide HX] at d1
        rw [unhide HY] at d2
        clear hw1
        go_simp
        try rfl
      try simp only [Act.put, List.setIfInBounds_toArray, List.set_cons_zero, List.set_cons_succ]
      refine wpAnyH_take (i := 3) (v := .slice ao n cap) rfl (by kernel_rfl) (by kernel_rfl) (by kernel_rfl) (fun _ _ _ h => h) (Or.inl ⟨by rfl, ?_⟩) (by assumption) ?_
      · intro w1 hw1
        have d0 := hw1.buf
        have d1 := hw1.base k (unhide k8)
        have d2 := hw1.base u (unhide u8)
        rw [unhide HX] at d1
        rw [unhide HY] at d2
        clear hw1
        go_simp
        try rfl
      try simp only [Act.put, List.setIfInBounds_toArray, List.set_cons_zero, List.set_cons_succ]
      refine wpAnyH_take (i := 4) (v := .int .u8 (k : Int)) rfl (by kernel_rfl) (by kernel_rfl) (by kernel_rfl) (fun _ _ _ h => h) (Or.inl ⟨by rfl, ?_⟩) (by assumption) ?_
      · intro w1 hw1
        have d0 := hw1.buf
        have d1 := hw1.base k (unhide k8)
        have d2 := hw1.base u (unhide u8)
        rw [unhide HX] at d1
        rw [unhide HY] at d2
        clear hw1
        go_simp
        try rfl
      try simp only [Act.put, List.setIfInBounds_toArray, List.set_cons_zero, List.set_cons_succ]
      refine wpAnyH_take (i := 5) (v := .pointer (some ⟨w.heap.size, 1, none⟩)) rfl (by kernel_rfl) (by kernel_rfl) (by kernel_rfl) (fun _ _ _ h => h) (Or.inl ⟨by rfl, ?_⟩) (by assumption) ?_
      · intro w1 hw1
        have d0 := hw1.buf
        have d1 := hw1.base k (unhide k8)
        have d2 := hw1.base u (unhide u8)
        rw [unhide HX] at d1
        rw [unhide HY] at d2
        clear hw1
        go_simp
        try rfl
      try simp only [Act.put, List.setIfInBounds_toArray, List.set_cons_zero, List.set_cons_succ]
      refine wpAnyH_take (i := 6) (v := .pointer (some ⟨w.heap.size, 1 + k, none⟩)) rfl (by kernel_rfl) (by kernel_rfl) (by kernel_rfl) (fun _ _ _ h => h) (Or.inl ⟨by rfl, ?_⟩) (by assumption) ?_
      · intro w1 hw1
        have d0 := hw1.buf
        have d1 := hw1.base k (unhide k8)
        have d2 := hw1.base u (unhide u8)
        rw [unhide HX] at d1
        rw [unhide HY] at d2
        clear hw1
        go_simp
        try rfl
      try simp only [Act.put, List.setIfInBounds_toArray, List.set_cons_zero, List.set_cons_succ]
      refine wpAnyH_take (i := 7) (v := .int .u32 (x : Int)) rfl (by kernel_rfl) (by kernel_rfl) (by kernel_rfl) (fun _ _ _ h => h) (Or.inl ⟨by rfl, ?_⟩) (by assumption) ?_
      · intro w1 hw1
        have d0 := hw1.buf
        have d1 := hw1.base k (unhide k8)
        have d2 := hw1.base u (unhide u8)
        rw [unhide HX] at d1
        rw [unhide HY] at d2
        clear hw1
        go_simp
        try rfl
      try simp only [Act.put, List.setIfInBounds_toArray, List.set_cons_zero, List.set_cons_succ]
      refine wpAnyH_take (i := 8) (v := .int .u8 (k : Int)) rfl (by kernel_rfl) (by kernel_rfl) (by kernel_rfl) (fun _ _ _ h => h) (Or.inl ⟨by rfl, ?_⟩) (by assumption) ?_
      · intro w1 hw1
        have d0 := hw1.buf
        have d1 := hw1.base k (unhide k8)
        have d2 := hw1.base u (unhide u8)
        rw [unhide HX] at d1
        rw [unhide HY] at d2
        clear hw1
        go_simp
        try rfl
      try simp only [Act.put, List.setIfInBounds_toArray, List.set_cons_zero, List.set_cons_succ]
      refine wpAnyH_take (i := 9) (v := .int .u8 (u : Int)) rfl (by kernel_rfl) (by kernel_rfl) (by kernel_rfl) (fun _ _ _ h => h) (Or.inl ⟨by rfl, ?_⟩) (by assumption) ?_
      · intro w1 hw1
        have d0 := hw1.buf
        have d1 := hw1.base k (unhide k8)
        have d2 := hw1.base u (unhide u8)
        rw [unhide HX] at d1
        rw [unhide HY] at d2
        clear hw1
        go_simp
        try rfl
      try simp only [Act.put, List.setIfInBounds_toArray, List.set_cons_zero, List.set_cons_succ]
      refine wpAnyH_take (i := 10) (v := .pointer (some ⟨w.heap.size, 1, none⟩)) rfl (by kernel_rfl) (by kernel_rfl) (by kernel_rfl) (fun _ _ _ h => h) (Or.inl ⟨by rfl, ?_⟩) (by assumption) ?_
      · intro w1 hw1
        have d0 := hw1.buf
        have d1 := hw1.base k (unhide k8)
        have d2 := hw1.base u (unhide u8)
        rw [unhide HX] at d1
        rw [unhide HY] at d2
        clear hw1
        go_simp
        try rfl
      try simp only [Act.put, List.setIfInBounds_toArray, List.set_cons_zero, List.set_cons_succ]
      refine wpAnyH_take (i := 11) (v := .pointer (some ⟨w.heap.size, 1 + u, none⟩)) rfl (by kernel_rfl) (by kernel_rfl) (by kernel_rfl) (fun _ _ _ h => h) (Or.inl ⟨by rfl, ?_⟩) (by assumption) ?_
      · intro w1 hw1
        have d0 := hw1.buf
        have d1 := hw1.base k (unhide k8)
        have d2 := hw1.base u (unhide u8)
        rw [unhide HX] at d1
        rw [unhide HY] at d2
        clear hw1
        go_simp
        try rfl
      try simp only [Act.put, List.setIfInBounds_toArray, List.set_cons_zero, List.set_cons_succ]
      refine wpAnyH_take (i := 12) (v := .int .u32 (y : Int)) rfl (by kernel_rfl) (by kernel_rfl) (by kernel_rfl) (fun _ _ _ h => h) (Or.inl ⟨by rfl, ?_⟩) (by assumption) ?_
      · intro w1 hw1
        have d0 := hw1.buf
        have d1 := hw1.base k (unhide k8)
        have d2 := hw1.base u (unhide u8)
        rw [unhide HX] at d1
        rw [unhide HY] at d2
        clear hw1
        go_simp
        try rfl
      try simp only [Act.put, List.setIfInBounds_toArray, List.set_cons_zero, List.set_cons_succ]
      refine wpAnyH_take (i := 13) (v := .slice (if cap = x then ao else ao.map (fun a => a.add x)) (y - x) (cap - x)) rfl (by kernel_rfl) (by kernel_rfl) (by kernel_rfl) (fun _ _ _ h => h) (Or.inl ⟨by rfl, ?_⟩) (by assumption) ?_
      · intro w1 hw1
        have d0 := hw1.buf
        have d1 := hw1.base k (unhide k8)
        have d2 := hw1.base u (unhide u8)
        rw [unhide HX] at d1
        rw [unhide HY] at d2
        clear hw1
        go_simp
        try rfl
      try simp only [Act.put, List.setIfInBounds_toArray, List.set_cons_zero, List.set_cons_succ]
      have hI1 : AbsI V0 wr.drew w.heap.size xs bs k v Fs := ⟨(unhide HI).box, (unhide HI).fr.drewN 1, (unhide HI).eq, (unhide HI).bel.drew⟩
      have HI1 := hide hI1
      have HM := hide hI1.box
      have cm := hI1.box.cell
      have HA2 : Hid (ABox wr.drew w.heap.size (.slice ao n cap) bs t) := hide ((unhide HA1).drewN 1)
      have HRd1 := hide ((unhide HRw).below (((unhide HB0).trans (hI1.bel.mono (by omega)))) (Nat.le_refl _))
      have HSET' : Hid (absF xs bs u = absF xs bs k ++ [sg xs x (y - x)]) := hide (by rw [unhide HSET, unhide HX, unhide HY])
      have hmx : (sg xs x (y - x)).length ≤ 140737488355328 := by have := sg_le xs x (y - x); have := (unhide HG).2.2; have := unhide Hn; omega
      have hmx' : (sg xs x (y - x)).length ≤ 5020960 := by have := sg_le xs x (y - x); have := (unhide HG).2.2; have := unhide Hn; omega
      clear hI1 hS
      refine wpAnyH_ready (rs := [1, 14]) (by kernel_rfl) (by simp) ?_
      refine AllReadyH.cons rfl (fun K hK => ?_) (AllReadyH.cons rfl (fun K hK => ?_) AllReadyH.nil)
      · go_simp
        refine hK.out _ _ (unhide HA2) (fun _ => ?_)
        clear hK K
        try simp only [Act.put, List.setIfInBounds_toArray, List.set_cons_zero, List.set_cons_succ]
        refine wpAnyH_ready (rs := [14]) (by kernel_rfl) (by simp) ?_
        refine AllReadyH.cons rfl (fun K hK => ?_) AllReadyH.nil
        go_simp
        refine (copyBytes_any (rd_sliced (unhide HRd1) hxy hyn) hmx).mono ?_
        rintro e W2 ⟨v2, rfl, hf, hb⟩
        obtain ⟨so, sn, sc, hv2, _⟩ := hf.rd
        subst hv2
        have AA2 := (unhide HA2).later hb
        have CM2 := ((unhide HM).later hb).cell
        have CM3 := (((unhide HM).later hb).later (below_alloc W2 (.cells #[.slice so sn sc] 41))).cell
        have AA3 := AA2.later (below_alloc W2 (.cells #[.slice so sn sc] 41))
        obtain ⟨po, pn, pc, W4, happ, cm4, fm4, AA4, AA5, HFIN⟩ := abs_step (unhide HI1) (unhide HA2) (by omega) hb hf (unhide HSET') hmx'
        have cm4' : W4.cell? ⟨w.heap.size + 1 + 1, 0, none⟩ = some v := cm4
        have fm4' : W4.frozen? ⟨w.heap.size + 1 + 1, 0, none⟩ = false := fm4
        have HAA3 := hide AA3
        have HAA4 := hide AA4
        have HAA5 := hide AA5
        clear hf hb AA3 AA4 AA5
        refine hK.out _ _ AA2 (fun _ => ?_)
        clear hK K AA2
        try simp only [Act.put, List.setIfInBounds_toArray, List.set_cons_zero, List.set_cons_succ]
        refine wpAnyH_ready (rs := [15]) (by kernel_rfl) (by simp) ?_
        refine AllReadyH.cons rfl (fun K hK => ?_) AllReadyH.nil
        go_simp
        refine hK.out _ _ (unhide HAA3) (fun _ => ?_)
        clear hK K
        try simp only [Act.put, List.setIfInBounds_toArray, List.set_cons_zero, List.set_cons_succ]
        refine wpAnyH_ready (rs := [16]) (by kernel_rfl) (by simp) ?_
        refine AllReadyH.cons rfl (fun K hK => ?_) AllReadyH.nil
        rw [if_pos (by rfl)]
        refine Lib.wp_append_run _ _ _ _ _ rfl _ _ rfl rfl _ _ (happ _) ?_
        refine hK.out _ _ (unhide HAA4) (fun _ => ?_)
        clear hK K
        try simp only [Act.put, List.setIfInBounds_toArray, List.set_cons_zero, List.set_cons_succ]
        refine wpAnyH_ready (rs := [17]) (by kernel_rfl) (by simp) ?_
        refine AllReadyH.cons rfl (fun K hK => ?_) AllReadyH.nil
        go_simp
        refine hK.out _ _ (unhide HAA4) (fun _ => ?_)
        clear hK K
        try simp only [Act.put, List.setIfInBounds_toArray, List.set_cons_zero, List.set_cons_succ]
        refine wpAnyH_ready (rs := [18]) (by kernel_rfl) (by simp) ?_
        refine AllReadyH.cons rfl (fun K hK => ?_) AllReadyH.nil
        go_simp
        refine hK.out _ _ (unhide HAA5) (fun _ => ?_)
        clear hK K
        refine wpAnyH_done (by kernel_rfl) ?_ _
        obtain ⟨Fs', hI'⟩ := unhide HFIN
        have HI' := hide hI'
        clear hI' HFIN HAA3 HAA4 HAA5 happ cm4 fm4 cm4' fm4' HM HA2 HI1 HI HA1 c9 CM2 CM3
        generalize W4.setCell ⟨w.heap.size + 2, 0, none⟩ (.slice po pn pc) = W5 at *
        go_wp2
        go_roundw
        case rel => exact ⟨u, _, Fs', by have := unhide HU; omega, by go_num, unhide HI'⟩
        case measure => simp [intOf]; have := unhide HU; omega
      · go_simp
        refine (copyBytes_any (rd_sliced (unhide HRd1) hxy hyn) hmx).mono ?_
        rintro e W2 ⟨v2, rfl, hf, hb⟩
        obtain ⟨so, sn, sc, hv2, _⟩ := hf.rd
        subst hv2
        have AA2 := (unhide HA2).later hb
        have CM2 := ((unhide HM).later hb).cell
        have CM3 := (((unhide HM).later hb).later (below_alloc W2 (.cells #[.slice so sn sc] 41))).cell
        have AA3 := AA2.later (below_alloc W2 (.cells #[.slice so sn sc] 41))
        obtain ⟨po, pn, pc, W4, happ, cm4, fm4, AA4, AA5, HFIN⟩ := abs_step (unhide HI1) (unhide HA2) (by omega) hb hf (unhide HSET') hmx'
        have cm4' : W4.cell? ⟨w.heap.size + 1 + 1, 0, none⟩ = some v := cm4
        have fm4' : W4.frozen? ⟨w.heap.size + 1 + 1, 0, none⟩ = false := fm4
        have HAA3 := hide AA3
        have HAA4 := hide AA4
        have HAA5 := hide AA5
        clear hf hb AA3 AA4 AA5
        have HAA2x := hide AA2
        refine hK.out _ _ AA2 (fun _ => ?_)
        clear hK K AA2
        try simp only [Act.put, List.setIfInBounds_toArray, List.set_cons_zero, List.set_cons_succ]
        refine wpAnyH_ready (rs := [1, 15]) (by kernel_rfl) (by simp) ?_
        refine AllReadyH.cons rfl (fun K hK => ?_) (AllReadyH.cons rfl (fun K hK => ?_) AllReadyH.nil)
        · go_simp
          refine hK.out _ _ (unhide HAA2x) (fun _ => ?_)
          clear hK K
          try simp only [Act.put, List.setIfInBounds_toArray, List.set_cons_zero, List.set_cons_succ]
          refine wpAnyH_ready (rs := [15]) (by kernel_rfl) (by simp) ?_
          refine AllReadyH.cons rfl (fun K hK => ?_) AllReadyH.nil
          go_simp
          refine hK.out _ _ (unhide HAA3) (fun _ => ?_)
          clear hK K
          try simp only [Act.put, List.setIfInBounds_toArray, List.set_cons_zero, List.set_cons_succ]
          refine wpAnyH_ready (rs := [16]) (by kernel_rfl) (by simp) ?_
          refine AllReadyH.cons rfl (fun K hK => ?_) AllReadyH.nil
          rw [if_pos (by rfl)]
          refine Lib.wp_append_run _ _ _ _ _ rfl _ _ rfl rfl _ _ (happ _) ?_
          refine hK.out _ _ (unhide HAA4) (fun _ => ?_)
          clear hK K
          try simp only [Act.put, List.setIfInBounds_toArray, List.set_cons_zero, List.set_cons_succ]
          refine wpAnyH_ready (rs := [17]) (by kernel_rfl) (by simp) ?_
          refine AllReadyH.cons rfl (fun K hK => ?_) AllReadyH.nil
          go_simp
          refine hK.out _ _ (unhide HAA4) (fun _ => ?_)
          clear hK K
          try simp only [Act.put, List.setIfInBounds_toArray, List.set_cons_zero, List.set_cons_succ]
          refine wpAnyH_ready (rs := [18]) (by kernel_rfl) (by simp) ?_
          refine AllReadyH.cons rfl (fun K hK => ?_) AllReadyH.nil
          go_simp
          refine hK.out _ _ (unhide HAA5) (fun _ => ?_)
          clear hK K
          refine wpAnyH_done (by kernel_rfl) ?_ _
          obtain ⟨Fs', hI'⟩ := unhide HFIN
          have HI' := hide hI'
          clear hI' HFIN HAA3 HAA4 HAA5 happ cm4 fm4 cm4' fm4' HM HA2 HI1 HI HA1 c9 CM2 CM3
          generalize W4.setCell ⟨w.heap.size + 2, 0, none⟩ (.slice po pn pc) = W5 at *
          go_wp2
          go_roundw
          case rel => exact ⟨u, _, Fs', by have := unhide HU; omega, by go_num, unhide HI'⟩
          case measure => simp [intOf]; have := unhide HU; omega
        · go_simp
          refine hK.out _ _ (unhide HAA3) (fun _ => ?_)
          clear hK K
          try simp only [Act.put, List.setIfInBounds_toArray, List.set_cons_zero, List.set_cons_succ]
          refine wpAnyH_ready (rs := [1]) (by kernel_rfl) (by simp) ?_
          refine AllReadyH.cons rfl (fun K hK => ?_) AllReadyH.nil
          go_simp
          refine hK.out _ _ (unhide HAA3) (fun _ => ?_)
          clear hK K
          try simp only [Act.put, List.setIfInBounds_toArray, List.set_cons_zero, List.set_cons_succ]
          refine wpAnyH_ready (rs := [16]) (by kernel_rfl) (by simp) ?_
          refine AllReadyH.cons rfl (fun K hK => ?_) AllReadyH.nil
          rw [if_pos (by rfl)]
          refine Lib.wp_append_run _ _ _ _ _ rfl _ _ rfl rfl _ _ (happ _) ?_
          refine hK.out _ _ (unhide HAA4) (fun _ => ?_)
          clear hK K
          try simp only [Act.put, List.setIfInBounds_toArray, List.set_cons_zero, List.set_cons_succ]
          refine wpAnyH_ready (rs := [17]) (by kernel_rfl) (by simp) ?_
          refine AllReadyH.cons rfl (fun K hK => ?_) AllReadyH.nil
          go_simp
          refine hK.out _ _ (unhide HAA4) (fun _ => ?_)
          clear hK K
          try simp only [Act.put, List.setIfInBounds_toArray, List.set_cons_zero, List.set_cons_succ]
          refine wpAnyH_ready (rs := [18]) (by kernel_rfl) (by simp) ?_
          refine AllReadyH.cons rfl (fun K hK => ?_) AllReadyH.nil
          go_simp
          refine hK.out _ _ (unhide HAA5) (fun _ => ?_)
          clear hK K
          refine wpAnyH_done (by kernel_rfl) ?_ _
          obtain ⟨Fs', hI'⟩ := unhide HFIN
          have HI' := hide hI'
          clear hI' HFIN HAA3 HAA4 HAA5 happ cm4 fm4 cm4' fm4' HM HA2 HI1 HI HA1 c9 CM2 CM3
          generalize W4.setCell ⟨w.heap.size + 2, 0, none⟩ (.slice po pn pc) = W5 at *
          go_wp2
          go_roundw
          case rel => exact ⟨u, _, Fs', by have := unhide HU; omega, by go_num, unhide HI'⟩
          case measure => simp [intOf]; have := unhide HU; omega
    · have hlt : ¬ (k : Int) < (t : Int) := by omega
      obtain rfl : k = t := by omega
      have hM1 : MBox wr (w.heap.size + 1) (.slice none 0 0) := (unhide HM1).below (unhide HI).bel (by omega)
      have cm := (unhide HI).box.cell
      have cm' : wr.cell? ⟨w.heap.size + 1 + 1, 0, none⟩ = some v := cm
      have c1 := hM1.cell
      have f1 := hM1.frozen
      obtain ⟨po, pn, pc, rfl⟩ : ∃ po pn pc, v = .slice po pn pc := by
        rcases (unhide HI).fr.own.2 with ⟨h, _⟩ | ⟨p, c, cur, h, _⟩
        · exact ⟨_, _, _, h⟩
        · exact ⟨_, _, _, h⟩
      have hM5 := hM1.set (.slice po pn pc)
      have up := Upd.setCell wr ⟨w.heap.size + 1, 0, none⟩ (.slice po pn pc)
      have hF5 := (unhide HI).fr.updBox hM1 up
      have hB5 : Below w.heap.size w (wr.setCell ⟨w.heap.size + 1, 0, none⟩ (.slice po pn pc)) := up.below ((unhide HB0).trans ((unhide HI).bel.mono (by omega))) (by show w.heap.size ≤ w.heap.size + 1; omega)
      have HF5 := hide hF5
      have HB5 := hide hB5
      have HM5 := hide hM5
      have HE := hide (unhide HI).eq
      clear hF5 hB5 hM5 up HI A1 hM1
      go_wp2
      refine bodyPost_ret (ret148 rfl _ _ _ rfl (unhide HM5)) rfl ?_
      exact ⟨_, rfl, Fs, (unhide HF5).mono (by omega), unhide HE, unhide HB5⟩

end Go.Proofs.Ygcsaa
