/-
  law.arenaAnyHolds: the walk.
-/
import Derived.Test.YgcsaaHo1
namespace Go.Proofs.Ygcsaa
open Go.RowKit
set_option linter.unusedSimpArgs false
set_option linter.unusedVariables false

set_option maxRecDepth 10000 in
set_option maxHeartbeats 2000000 in
/-- The last statement of arenaAnyHolds. -/
theorem holds_any {w : World} {kv pv vs rv : Value} {kx kb px pb ss : List Nat} {kt pt : Nat} (k a b n f fr : Nat) (ha : a < 4294967296) (hb : b < 4294967296) (hn : n < 4294967296) (hf : f < 256) (hfr : fr < 18446744073709551616)
    (hK : Rd w kv kx) (lK : kb.length = 8) (uK : U32s kb) (gK : Good kx.length kb kt) (hP : Rd w pv px) (lP : pb.length = 8) (uP : U32s pb) (gP : Good px.length pb pt) (hs : Rd w vs ss) (hss : ss.length ≤ 140737488355328)
    {ok : Bool} {size : Nat} {word : List Nat} {ro : Option (List Nat)} {L : List (List Nat)} (hR : mSpec k a b n f ss fr (absF kx kb kt) = ⟨ok, size, word, ro, L⟩) (hro : RdO w rv ro) (hL : absF px pb pt = L) (hwl : word.length = 32) (hwd : M.Dig word) :
    Calls Saag.prog 32 #[.agg (arCells kv kb kt), .agg (arCells pv pb pt), .agg (opCells k a b n f), vs, .int .u64 (fr : Int), .agg (anCells ok size word rv)] w fun e w' => e = .returned (.bool true) ∧ Below w.heap.size w w' := by
  obtain ⟨po, pn, pc, rfl, hpn, _⟩ := id hP
  have Q := holdsW w kv kb kt (.slice po pn pc) pb pt k a b n f ok size word rv lK lP hwl
  obtain ⟨W, hW⟩ : ∃ W, W = ((((w.alloc (.cells (arCells kv kb kt) 78)).alloc (.cells (arCells (.slice po pn pc) pb pt) 78)).alloc (.cells (opCells k a b n f) 80)).alloc (.cells (anCells ok size word rv) 83)) := ⟨_, rfl⟩
  rw [← hW] at Q
  have T1 := hide (absArena_any (hK.later Q.bel) lK uK gK)
  have HQ := hide Q
  have HW' := hide hW
  have HP := hide hP
  have HS := hide hs
  have HRO := hide hro
  have HR := hide hR
  have HL := hide hL
  have HWL := hide hwl
  have hpmax : pn ≤ 140737488355328 := by have := gP.2.1; have := gP.2.2; omega
  have HGP := hide gP
  clear Q hW hP hs hro hR hL hwl gP gK hK
  go_enter Saag.func32, Saag.ntmps32
  go_wp2_with (first | refine wpList_load78 rfl _ rfl _ rfl (by rw [← unhide HW']; exact (unhide HQ).kept) ?_)
  rw [← unhide HW']
  refine (unhide T1).mono ?_
  rintro e w1 ⟨v, Fs, rfl, hfs, hfm, hb1⟩
  obtain ⟨fo, fc, rfl⟩ := hfs.shape
  have M1 : Hid (MBox (w1.alloc (.cells #[.slice none 0 0] 148)) w1.heap.size (.slice none 0 0)) := hide (heap_alloc_new w1 _)
  have hB1 := hide hb1
  have Hfs := hide hfs
  have Hfm := hide hfm
  clear T1 hb1 hfs hfm
  go_wp2_with (first | refine wpList_alloc148 rfl rfl ?_ | (refine wpList_store148 rfl _ _ rfl _ rfl rfl (unhide M1) ?_; intro w2 M2 u2; have hb2 : Below w1.heap.size w1 w2 := u2.below (below_alloc w1 (.cells #[.slice none 0 0] 148)) (Nat.le_refl _); have hB2 := hide (bstep (unhide hB1) hb2); have O2 := hide ((unhide HQ).op.later (unhide hB2)); have HM2 := hide M2; have Hb2 := hide hb2; clear M2 u2 hb2) | refine wpList_load80 rfl _ rfl _ rfl (unhide O2) ?_)
  have S2 : MSt W.heap.size w2 w1.heap.size (.slice fo Fs.length fc) Fs := ⟨unhide HM2, (unhide Hfs).later (unhide Hb2), (unhide hB1).size⟩
  have T2 := playM_any k a b n f fr ha hb hn hf hfr S2 ((unhide HS).later (bstep (unhide HQ).bel (unhide hB2))) hss
  rw [unhide Hfm, unhide HR] at T2
  refine T2.mono ?_
  rintro e w3 ⟨rv2, rfl, hro2, hFM, hb3⟩
  obtain ⟨ra, rn, rc, hv2, _⟩ := hro2.rdo.shape
  subst hv2
  have N3 := hide (NBox.new w3 false 0 Z32 (.slice none 0 0) Z32_len)
  have hB3 : Hid (Below W.heap.size W w3) := hide ((unhide hB2).trans hb3.bel)
  have HRO2 := hide hro2.rdo
  have HFM := hide hFM
  clear T2 S2 hro2 hFM hb3 O2 HM2 Hb2 M1 Hfs Hfm hss hb
  by_cases hk10 : k = 10
  · subst hk10
    go_wp2_with (first | refine wpList_alloc83 rfl rfl ?_ | (refine wpList_store83 rfl _ _ rfl _ rfl rfl (unhide HWL) (unhide N3) ?_; intro w4 N4 u4; have hb4 : Below w3.heap.size w3 w4 := u4.below (below_alloc w3 (.cells (anCells false 0 Z32 (.slice none 0 0)) 83)) (Nat.le_refl _); have hB4 := hide (bstep (unhide hB3) hb4); have HN4 := hide N4; have NA := hide ((unhide HQ).ans.later (unhide hB4)); have c4 := ((unhide HQ).op.later (unhide hB4)).kC; have Hb4 := hide hb4; clear N4 u4 hb4) | refine wpList_load83w (by first | rfl | exact unhide hz3) _ rfl _ rfl (unhide NA) ?_ | refine wpList_load83w (by first | rfl | exact unhide hz3) _ rfl _ rfl (unhide HN4) ?_)
    have hBV := hB4
    have FV : Hid (FM W.heap.size w1.heap.size w4 L) := hide ((FM.f83 _ _).later (unhide HFM) (unhide Hb4))
    generalize w4 = V at *
    clear NA HN4 c4 Hb4 hB3 N3
    obtain ⟨Fs', v', hFl, MV⟩ := unhide FV
    have hA1 := ((unhide HQ).played.later (unhide hBV))
    have hS0 : Below V.heap.size V V.drew := below_drewN V 1
    refine wp_region_held_drew (S := fun w' => Below V.heap.size V w') (by kernel_rfl) hS0 (fun _ => ?_)
    refine wpAnyH_take (i := 0) rfl (by kernel_rfl) (by kernel_rfl) (by kernel_rfl) (fun _ _ _ h => h) (yieldsIf_load78 (by rfl) _ rfl _ rfl _ _ _ (fun w' h => hA1.later h)) (by assumption) ?_
    try simp only [Act.put, List.setIfInBounds_toArray, List.set_cons_zero, List.set_cons_succ]
    refine wpAnyH_take (i := 2) rfl (by kernel_rfl) (by kernel_rfl) (by kernel_rfl) (fun _ _ _ h => h) (yieldsIf_load148 (by rfl) _ rfl _ rfl _ (fun w' h => MV.box.later h)) (by assumption) ?_
    try simp only [Act.put, List.setIfInBounds_toArray, List.set_cons_zero, List.set_cons_succ]
    refine wpAnyH_ready (rs := [1]) (by kernel_rfl) (by simp) ?_
    refine AllReadyH.cons rfl (fun K hK => ?_) AllReadyH.nil
    go_simp
    have hBwV := bstep (unhide HQ).bel (unhide hBV)
    refine (absArena_any ((unhide HP).later (bstep hBwV hS0)) lP uP (unhide HGP)).mono ?_
    rintro e V1 ⟨v1, F1, rfl, hf1, hm1, hb1⟩
    have hS1 := bstep hS0 hb1
    refine hK.out _ _ hS1 (fun _ => ?_)
    clear hK K
    try simp only [Act.put, List.setIfInBounds_toArray, List.set_cons_zero, List.set_cons_succ]
    refine wpAnyH_ready (rs := [3]) (by kernel_rfl) (by simp) ?_
    refine AllReadyH.cons rfl (fun K hK => ?_) AllReadyH.nil
    go_simp
    refine (sameMem_any hf1 (MV.fr.later hS1) (by rw [hm1, hFl]; exact unhide HL)).mono ?_
    rintro e V2 ⟨rfl, hb2⟩
    have hS2 := bstep hS1 hb2
    refine hK.out _ _ hS2 (fun _ => ?_)
    clear hK K
    try simp only [Act.put, List.setIfInBounds_toArray, List.set_cons_zero, List.set_cons_succ]
    refine wpAnyH_ready (rs := [4]) (by kernel_rfl) (by simp) ?_
    refine AllReadyH.cons rfl (fun K hK => ?_) AllReadyH.nil
    go_simp
    refine hK.out _ _ hS2 (fun _ => ?_)
    clear hK K
    try simp only [Act.put, List.setIfInBounds_toArray, List.set_cons_zero, List.set_cons_succ]
    refine wpAnyH_ready (rs := [5]) (by kernel_rfl) (by simp) ?_
    refine AllReadyH.cons rfl (fun K hK => ?_) AllReadyH.nil
    go_simp
    refine (check_any (hA1.later hS2) uP (by have := (unhide HGP).1.1; omega) hpmax).mono ?_
    rintro e V3 ⟨⟨okc, rfl, hokc⟩, q, rfl⟩
    obtain rfl : okc = true := hokc.2 (by rw [← hpn]; exact unhide HGP)
    have hS3 := bdrew hS2 q
    refine hK.out _ _ hS3 (fun _ => ?_)
    clear hK K
    try simp only [Act.put, List.setIfInBounds_toArray, List.set_cons_zero, List.set_cons_succ]
    refine wpAnyH_ready (rs := [6]) (by kernel_rfl) (by simp) ?_
    refine AllReadyH.cons rfl (fun K hK => ?_) AllReadyH.nil
    go_simp
    refine hK.out _ _ hS3 (fun _ => ?_)
    clear hK K
    try simp only [Act.put, List.setIfInBounds_toArray, List.set_cons_zero, List.set_cons_succ]
    refine wpAnyH_ready (rs := [7]) (by kernel_rfl) (by simp) ?_
    refine AllReadyH.cons rfl (fun K hK => ?_) AllReadyH.nil
    go_simp
    refine hK.out _ _ hS3 (fun _ => ?_)
    clear hK K
    refine wpAnyH_done (by kernel_rfl) ?_ _
    have hBF := bstep hBwV hS3
    clear hS0 hS1 hS2 hS3 hBwV hb1 hb2 hf1 hm1 hA1 MV hFl
    go_wp2
    go_ret
    exact ⟨rfl, hBF⟩
  · have hz : ((k : Int) == 10) = false := by simp; omega
    have hz2 : ((k : Int) != 10) = true := by simp; omega
    have hz3 : Hid ((some ((k : Int) != 10) == some true) = true) := hide (by rw [hz2]; rfl)
    go_wp2_with (first | refine wpList_alloc83 rfl rfl ?_ | (refine wpList_store83 rfl _ _ rfl _ rfl rfl (unhide HWL) (unhide N3) ?_; intro w4 N4 u4; have hb4 : Below w3.heap.size w3 w4 := u4.below (below_alloc w3 (.cells (anCells false 0 Z32 (.slice none 0 0)) 83)) (Nat.le_refl _); have hB4 := hide (bstep (unhide hB3) hb4); have HN4 := hide N4; have NA := hide ((unhide HQ).ans.later (unhide hB4)); have c4 := ((unhide HQ).op.later (unhide hB4)).kC; have Hb4 := hide hb4; clear N4 u4 hb4) | refine wpList_load83w (by first | rfl | exact unhide hz3) _ rfl _ rfl (unhide NA) ?_ | refine wpList_load83w (by first | rfl | exact unhide hz3) _ rfl _ rfl (unhide HN4) ?_)
    refine (sameAns_any (unhide HWL) hwd ((unhide HRO).later (bstep (unhide HQ).bel (unhide hB4))) ((unhide HRO2).later (unhide Hb4))).mono ?_
    rintro e V ⟨rfl, hb5⟩
    have hBV := hide (bstep (unhide hB4) hb5)
    have FV : Hid (FM W.heap.size w1.heap.size V L) := hide ((FM.f83 _ _).later ((FM.f83 _ _).later (unhide HFM) (unhide Hb4)) hb5)
    clear hb5
    go_wp2
    clear NA HN4 c4 Hb4 hB3 N3
    obtain ⟨Fs', v', hFl, MV⟩ := unhide FV
    have hA1 := ((unhide HQ).played.later (unhide hBV))
    have hS0 : Below V.heap.size V V.drew := below_drewN V 1
    refine wp_region_held_drew (S := fun w' => Below V.heap.size V w') (by kernel_rfl) hS0 (fun _ => ?_)
    refine wpAnyH_take (i := 0) rfl (by kernel_rfl) (by kernel_rfl) (by kernel_rfl) (fun _ _ _ h => h) (yieldsIf_load78 (by rfl) _ rfl _ rfl _ _ _ (fun w' h => hA1.later h)) (by assumption) ?_
    try simp only [Act.put, List.setIfInBounds_toArray, List.set_cons_zero, List.set_cons_succ]
    refine wpAnyH_take (i := 2) rfl (by kernel_rfl) (by kernel_rfl) (by kernel_rfl) (fun _ _ _ h => h) (yieldsIf_load148 (by rfl) _ rfl _ rfl _ (fun w' h => MV.box.later h)) (by assumption) ?_
    try simp only [Act.put, List.setIfInBounds_toArray, List.set_cons_zero, List.set_cons_succ]
    refine wpAnyH_ready (rs := [1]) (by kernel_rfl) (by simp) ?_
    refine AllReadyH.cons rfl (fun K hK => ?_) AllReadyH.nil
    go_simp
    have hBwV := bstep (unhide HQ).bel (unhide hBV)
    refine (absArena_any ((unhide HP).later (bstep hBwV hS0)) lP uP (unhide HGP)).mono ?_
    rintro e V1 ⟨v1, F1, rfl, hf1, hm1, hb1⟩
    have hS1 := bstep hS0 hb1
    refine hK.out _ _ hS1 (fun _ => ?_)
    clear hK K
    try simp only [Act.put, List.setIfInBounds_toArray, List.set_cons_zero, List.set_cons_succ]
    refine wpAnyH_ready (rs := [3]) (by kernel_rfl) (by simp) ?_
    refine AllReadyH.cons rfl (fun K hK => ?_) AllReadyH.nil
    go_simp
    refine (sameMem_any hf1 (MV.fr.later hS1) (by rw [hm1, hFl]; exact unhide HL)).mono ?_
    rintro e V2 ⟨rfl, hb2⟩
    have hS2 := bstep hS1 hb2
    refine hK.out _ _ hS2 (fun _ => ?_)
    clear hK K
    try simp only [Act.put, List.setIfInBounds_toArray, List.set_cons_zero, List.set_cons_succ]
    refine wpAnyH_ready (rs := [4]) (by kernel_rfl) (by simp) ?_
    refine AllReadyH.cons rfl (fun K hK => ?_) AllReadyH.nil
    go_simp
    refine hK.out _ _ hS2 (fun _ => ?_)
    clear hK K
    try simp only [Act.put, List.setIfInBounds_toArray, List.set_cons_zero, List.set_cons_succ]
    refine wpAnyH_ready (rs := [5]) (by kernel_rfl) (by simp) ?_
    refine AllReadyH.cons rfl (fun K hK => ?_) AllReadyH.nil
    go_simp
    refine (check_any (hA1.later hS2) uP (by have := (unhide HGP).1.1; omega) hpmax).mono ?_
    rintro e V3 ⟨⟨okc, rfl, hokc⟩, q, rfl⟩
    obtain rfl : okc = true := hokc.2 (by rw [← hpn]; exact unhide HGP)
    have hS3 := bdrew hS2 q
    refine hK.out _ _ hS3 (fun _ => ?_)
    clear hK K
    try simp only [Act.put, List.setIfInBounds_toArray, List.set_cons_zero, List.set_cons_succ]
    refine wpAnyH_ready (rs := [6]) (by kernel_rfl) (by simp) ?_
    refine AllReadyH.cons rfl (fun K hK => ?_) AllReadyH.nil
    go_simp
    refine hK.out _ _ hS3 (fun _ => ?_)
    clear hK K
    try simp only [Act.put, List.setIfInBounds_toArray, List.set_cons_zero, List.set_cons_succ]
    refine wpAnyH_ready (rs := [7]) (by kernel_rfl) (by simp) ?_
    refine AllReadyH.cons rfl (fun K hK => ?_) AllReadyH.nil
    go_simp
    refine hK.out _ _ hS3 (fun _ => ?_)
    clear hK K
    refine wpAnyH_done (by kernel_rfl) ?_ _
    have hBF := bstep hBwV hS3
    clear hS0 hS1 hS2 hS3 hBwV hb1 hb2 hf1 hm1 hA1 MV hFl
    go_wp2
    go_ret
    exact ⟨rfl, hBF⟩

end Go.Proofs.Ygcsaa
