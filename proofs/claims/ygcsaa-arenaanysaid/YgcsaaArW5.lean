/-
  law.playArena: the arms.
-/
import Derived.Test.YgcsaaArV
namespace Go.Proofs.Ygcsaa
open Go.RowKit
set_option linter.unusedSimpArgs false
set_option linter.unusedVariables false

set_option maxRecDepth 10000 in
set_option maxHeartbeats 2000000 in
theorem w30_5 {B g : Nat} {w : World} {F : World → List (List Nat) → Prop} {vs : Value} {R : MR} (a b n f fr : Nat) (HF : F83 F) (hB : B ≤ w.heap.size) (hf : f < 256)
    (T0 : ∀ W, Below w.heap.size w W → Calls Saag.prog 79 #[.pointer (some ⟨g, 0, none⟩), .int .u32 (a : Int), .agg (cellsOf (fil f 32))] W fun e w1 => GB e B W w1 F R) :
    Calls Saag.prog 30 #[.pointer (some ⟨g, 0, none⟩), .agg (opCells 5 a b n f), vs, .int .u64 (fr : Int)] w fun e w' => PG e B w w' F R := by
  have P := playW w 5 a b n f
  have c0 := P.op.kC
  have T := hide T0
  have HP := hide P
  have HHF := hide HF
  clear T0 P HF
  go_enter Saag.func30, Saag.ntmps30
  go_wp2_with (refine wpList_alloc83 rfl rfl ?_)
  have hQ := unhide HP
  have HQ : Hid (PW w (((w.alloc (.cells (opCells 5 a b n f) 80)).alloc (.cells (anCells false 0 Z32 (.slice none 0 0)) 83)).alloc (.cells (anCells false 0 Z32 (.slice none 0 0)) 83)) 5 a b n f) := HP
  clear HP c0 hQ
  generalize (((w.alloc (.cells (opCells 5 a b n f) 80)).alloc (.cells (anCells false 0 Z32 (.slice none 0 0)) 83)).alloc (.cells (anCells false 0 Z32 (.slice none 0 0)) 83)) = V0 at *
  obtain ⟨V, hV⟩ : ∃ V, V = V0.drew := ⟨_, rfl⟩
  have hO0 : OBox V w.heap.size 5 a b n f := by rw [hV]; exact (unhide HQ).op
  have hbW : Hid (Below w.heap.size w V) := by rw [hV]; exact hide (bdrew (unhide HQ).bel 1)
  have hR0 : Hid (NBox V (w.heap.size + 1 + 1) false 0 Z32 (.slice none 0 0)) := by rw [hV]; exact hide ⟨(unhide HQ).r.blk, (unhide HQ).r.len⟩
  have hR8 : Hid (NBox V (w.heap.size + 1) false 0 Z32 (.slice none 0 0)) := by rw [hV]; exact hide ⟨(unhide HQ).r8.blk, (unhide HQ).r8.len⟩
  clear HQ
  refine wp_region_held_drew (S := fun w' => OBox w' w.heap.size 5 a b n f) (by kernel_rfl) (by rw [← hV]; exact hO0) (fun _ => ?_)
  rw [← hV]
  clear hV
  refine wpAnyH_take (i := 0) (v := .pointer (some ⟨g, 0, none⟩)) rfl (by kernel_rfl) (by kernel_rfl) (by kernel_rfl) (fun _ _ _ h => h) (Or.inl ⟨by rfl, ?_⟩) (by assumption) ?_
  · intro w1 hw1
    have d1 := hw1.aC
    have d2 := hw1.fC
    clear hw1
    go_simp
    try rfl
  try simp only [Act.put, List.setIfInBounds_toArray, List.set_cons_zero, List.set_cons_succ]
  refine wpAnyH_take (i := 1) (v := .pointer (some ⟨w.heap.size, 1, none⟩)) rfl (by kernel_rfl) (by kernel_rfl) (by kernel_rfl) (fun _ _ _ h => h) (Or.inl ⟨by rfl, ?_⟩) (by assumption) ?_
  · intro w1 hw1
    have d1 := hw1.aC
    have d2 := hw1.fC
    clear hw1
    go_simp
    try rfl
  try simp only [Act.put, List.setIfInBounds_toArray, List.set_cons_zero, List.set_cons_succ]
  refine wpAnyH_take (i := 2) (v := .int .u32 (a : Int)) rfl (by kernel_rfl) (by kernel_rfl) (by kernel_rfl) (fun _ _ _ h => h) (Or.inl ⟨by rfl, ?_⟩) (by assumption) ?_
  · intro w1 hw1
    have d1 := hw1.aC
    have d2 := hw1.fC
    clear hw1
    go_simp
    try rfl
  try simp only [Act.put, List.setIfInBounds_toArray, List.set_cons_zero, List.set_cons_succ]
  refine wpAnyH_take (i := 3) (v := .pointer (some ⟨w.heap.size, 4, none⟩)) rfl (by kernel_rfl) (by kernel_rfl) (by kernel_rfl) (fun _ _ _ h => h) (Or.inl ⟨by rfl, ?_⟩) (by assumption) ?_
  · intro w1 hw1
    have d1 := hw1.aC
    have d2 := hw1.fC
    clear hw1
    go_simp
    try rfl
  try simp only [Act.put, List.setIfInBounds_toArray, List.set_cons_zero, List.set_cons_succ]
  refine wpAnyH_take (i := 4) (v := .int .u8 (f : Int)) rfl (by kernel_rfl) (by kernel_rfl) (by kernel_rfl) (fun _ _ _ h => h) (Or.inl ⟨by rfl, ?_⟩) (by assumption) ?_
  · intro w1 hw1
    have d1 := hw1.aC
    have d2 := hw1.fC
    clear hw1
    go_simp
    try rfl
  try simp only [Act.put, List.setIfInBounds_toArray, List.set_cons_zero, List.set_cons_succ]
  refine wpAnyH_ready (rs := [5]) (by kernel_rfl) (by simp) ?_
  refine AllReadyH.cons rfl (fun K hK => ?_) AllReadyH.nil
  go_simp
  refine (filled_any f hf V).mono ?_
  rintro e W2 ⟨rfl, hblk, hb⟩
  have hat : ∀ w, (Instr.arrayAt 60 (.slice (some ⟨V.heap.size, 0, none⟩) 32 32)).run Saag.prog w = .ok (.pointer (some ⟨V.heap.size, 0, none⟩)) w := fun w => run_arrayAt w 60 5 32 _ 32 32 Saag.underlying60 (Nat.le_refl _)
  have hO2 := hO0.later hb
  have hbW2 := hide (bstep (unhide hbW) hb)
  have hR02 := hide ((unhide hR0).later hb)
  have hR82 := hide ((unhide hR8).later hb)
  have HK2 := hide hblk
  clear hb hblk hO0 hbW hR0 hR8
  refine hK.out _ _ hO2 (fun _ => ?_)
  clear hK K
  try simp only [Act.put, List.setIfInBounds_toArray, List.set_cons_zero, List.set_cons_succ]
  refine wpAnyH_ready (rs := [6]) (by kernel_rfl) (by simp) ?_
  refine AllReadyH.cons rfl (fun K hK => ?_) AllReadyH.nil
  go_simp
  refine hK.out _ _ hO2 (fun _ => ?_)
  clear hK K
  try simp only [Act.put, List.setIfInBounds_toArray, List.set_cons_zero, List.set_cons_succ]
  refine wpAnyH_ready (rs := [7]) (by kernel_rfl) (by simp) ?_
  refine AllReadyH.cons rfl (fun K hK => ?_) AllReadyH.nil
  rw [if_pos (by rfl)]
  refine wp_load_mid 60 _ rfl V.heap.size 0 rfl ((fil f 32).map fun x => Value.int .u8 ((x : Nat) : Int)) _ (row_range (unhide HK2).row) Saag.underlying60 rfl (by rw [Saag.info60, List.length_map, fil_len]) ?_
  refine hK.out _ _ hO2 (fun _ => ?_)
  clear hK K
  try simp only [Act.put, List.setIfInBounds_toArray, List.set_cons_zero, List.set_cons_succ]
  refine wpAnyH_ready (rs := [8]) (by kernel_rfl) (by simp) ?_
  refine AllReadyH.cons rfl (fun K hK => ?_) AllReadyH.nil
  go_simp
  refine ((unhide T) W2 (unhide hbW2)).mono ?_
  rintro e w1 ⟨ok, L, rfl, hk, hf, rfl⟩
  have hO3 := hk.op hO2
  have N8 := hk.box (unhide hR82)
  have NR := hk.box (unhide hR02)
  have hb1 := (Kq.start (unhide hbW2) hB).step hk
  have k1 := NR.okC
  have f1 := NR.frozen 0
  have NR' := hide (NR.setOk ok)
  have u1 := Upd.setCell w1 ⟨w.heap.size + 1 + 1, 0, none⟩ (.bool ok)
  have N8' := hide (N8.upd u1 (by show w.heap.size + 1 ≠ w.heap.size + 1 + 1; omega))
  have hf' := hide ((unhide HHF).upd hf NR u1)
  have hb2 := hide (hb1.upd u1 (by show w.heap.size ≤ w.heap.size + 1 + 1; omega) hB)
  have hO4 := hide (hO3.upd NR u1)
  clear T hk hf N8 NR u1 hb1 hR02 hR82 hbW2 HK2 hO2
  refine hK.out _ _ hO3 (fun _ => ?_)
  clear hK K
  try simp only [Act.put, List.setIfInBounds_toArray, List.set_cons_zero, List.set_cons_succ]
  refine wpAnyH_ready (rs := [9]) (by kernel_rfl) (by simp) ?_
  refine AllReadyH.cons rfl (fun K hK => ?_) AllReadyH.nil
  go_simp
  refine hK.out _ _ hO3 (fun _ => ?_)
  clear hK K
  try simp only [Act.put, List.setIfInBounds_toArray, List.set_cons_zero, List.set_cons_succ]
  refine wpAnyH_ready (rs := [10]) (by kernel_rfl) (by simp) ?_
  refine AllReadyH.cons rfl (fun K hK => ?_) AllReadyH.nil
  go_simp
  refine hK.out _ _ (unhide hO4) (fun _ => ?_)
  clear hK K
  refine wpAnyH_done (by kernel_rfl) ?_ _
  clear hO3 hO4
  go_wp2_with (first | refine wpList_load83 rfl _ rfl _ rfl (unhide NR') ?_ | (refine wpList_store83 rfl _ _ rfl _ rfl rfl Z32_len (unhide N8') ?_; intro w2 E1 u2))
  refine bodyPost_ret (ret83 rfl _ _ _ rfl E1) rfl ?_
  exact ⟨_, rfl, rfl, (unhide HHF).upd (unhide hf') (unhide N8') u2, (unhide hb2).upd u2 (by omega) hB⟩

end Go.Proofs.Ygcsaa
