/-
  law.ArenaAny: the walk.
-/
import Derived.Test.YgcsaaAn1
namespace Go.Proofs.Ygcsaa
open Go.RowKit
set_option linter.unusedSimpArgs false
set_option linter.unusedVariables false

set_option maxRecDepth 10000 in
set_option maxHeartbeats 4000000 in
theorem arenaAny_any {w : World} {bv vs : Value} {xs bs ss : List Nat} {t : Nat} (k a b n f fr : Nat) (ha : a < 4294967296) (hb : b < 4294967296) (hn : n < 4294967296) (hf : f < 256) (hfr : fr < 18446744073709551616)
    (hX : Rd w bv xs) (lb : bs.length = 8) (ub : U32s bs) (ht : t < 256) (hmax : xs.length ≤ 140737488355328) (hs : Rd w vs ss) (hss : ss.length ≤ 140737488355328) :
    Calls Saag.prog 9 #[.agg (arCells bv bs t), .agg (opCells k a b n f), vs, .int .u64 (fr : Int)] w fun e w' => e = .returned (.bool true) ∧ Below w.heap.size w w' := by
  have Q := anyW w bv bs t k a b n f lb
  obtain ⟨W, hW⟩ : ∃ W, W = ((w.alloc (.cells (arCells bv bs t) 78)).alloc (.cells (opCells k a b n f) 80)) := ⟨_, rfl⟩
  rw [← hW] at Q
  have T1 := hide (copyArena_any (t := t) (hX.later Q.bel) lb hmax)
  have HQ := hide Q
  have HW' := hide hW
  have HX := hide hX
  have HS := hide hs
  have dxs : M.Dig xs := by obtain ⟨_, _, _, _, _, _, d, _⟩ := id hX; exact d
  have Hdx := hide dxs
  clear Q hW hX hs dxs
  go_enter Saag.func9, Saag.ntmps9
  go_wp2_with (first | refine wpList_load78 rfl _ rfl _ rfl (by rw [← unhide HW']; exact (unhide HQ).ar) ?_)
  rw [← unhide HW']
  refine (unhide T1).mono ?_
  rintro e w1 ⟨bv1, rfl, hf1, hb1⟩
  obtain ⟨o1, n1, c1, hv1, hn1, _⟩ := hf1.rd
  subst hv1
  have M1 := hide (ABox.new w1 (.slice none 0 0) Z8 0 Z8_len)
  have Hf1 := hide hf1
  have HB1 := hide (bstep (unhide HQ).bel hb1)
  have HB1' := hide hb1
  have Hn1 := hide hn1
  clear T1 hf1 hb1 hn1
  go_wp2_with (first | refine wpList_alloc78 rfl rfl ?_ | (refine wpList_store78 rfl _ _ rfl _ rfl rfl lb (unhide M1) ?_; intro w2 A2 u2; have hb2 : Below w1.heap.size w1 w2 := u2.below (below_alloc w1 (.cells (arCells (.slice none 0 0) Z8 0) 78)) (Nat.le_refl _); have HA2 := hide A2; have Hb2 := hide hb2; clear A2 u2 hb2))
  refine (check_any (unhide HA2) ub ht (by have := unhide Hn1; omega)).mono ?_
  rintro e w2' ⟨⟨okc, rfl, hokc⟩, q, rfl⟩
  have HB3 : Hid (Below w.heap.size w (w2.drewN q)) := hide (bdrew (bstep (unhide HB1) (unhide Hb2)) q)
  have HB3' : Hid (Below W.heap.size W (w2.drewN q)) := hide (bdrew (bstep (unhide HB1') (unhide Hb2)) q)
  have HA3 : Hid (ABox (w2.drewN q) w1.heap.size (.slice o1 n1 c1) bs t) := hide ((unhide HA2).later (below_drewN w2 q))
  have Hf3 : Hid (Fresh W.heap.size (w2.drewN q) (.slice o1 n1 c1) xs) := hide ((unhide Hf1).later (bdrew (unhide Hb2) q))
  generalize w2.drewN q = w3 at *
  have Hok := hide hokc
  clear hokc HA2 Hb2 M1 HB1 HB1' Hf1
  cases okc
  · go_wp2
    go_ret
    exact ⟨rfl, unhide HB3⟩
  · have hG : Good xs.length bs t := by rw [unhide Hn1]; exact (unhide Hok).1 rfl
    have HG := hide hG
    clear hG Hok
    have AR3 := hide ((unhide HQ).ar.later (unhide HB3'))
    have OP3 := hide ((unhide HQ).op.later (unhide HB3'))
    go_wp2_with (first | refine wpList_load78 rfl _ rfl _ rfl (unhide AR3) ?_)
    refine (copyArena_any ((unhide HX).later (unhide HB3)) lb hmax).mono ?_
    rintro e w4 ⟨bv2, rfl, hf2, hb4⟩
    obtain ⟨o2, n2, c2, hv2, hn2, _⟩ := hf2.rd
    subst hv2
    have M4 := hide (ABox.new w4 (.slice none 0 0) Z8 0 Z8_len)
    have Hf2 := hide hf2
    have Hb4 := hide hb4
    clear hf2 hb4 hn2
    go_wp2_with (first | refine wpList_alloc78 rfl rfl ?_ | (refine wpList_store78 rfl _ _ rfl _ rfl rfl lb (unhide M4) ?_; intro w5 A5 u5; have hb5 : Below w4.heap.size w4 w5 := u5.below (below_alloc w4 (.cells (arCells (.slice none 0 0) Z8 0) 78)) (Nat.le_refl _); have HA5 := hide A5; have Hb5 := hide hb5; clear A5 u5 hb5))
    obtain ⟨V, hV⟩ : ∃ V, V = w5.drew := ⟨_, rfl⟩
    have hbV : Hid (Below w3.heap.size w3 V) := by rw [hV]; exact hide (bdrew (bstep (unhide Hb4) (unhide Hb5)) 1)
    have hAV : Hid (ABox V w4.heap.size (.slice o2 n2 c2) bs t) := by rw [hV]; exact hide ((unhide HA5).later (below_drewN w5 1))
    have hfV : Hid (Fresh w3.heap.size V (.slice o2 n2 c2) xs) := by rw [hV]; exact hide ((unhide Hf2).later (bdrew (unhide Hb5) 1))
    have hg3 : Hid (w3.heap.size ≤ w4.heap.size) := hide (unhide Hb4).size
    have hOV : OBox V (w.heap.size + 1) k a b n f := (unhide OP3).later (unhide hbV)
    refine wp_region_held_drew (S := fun w' => OBox w' (w.heap.size + 1) k a b n f) (by kernel_rfl) (by rw [← hV]; exact hOV) (fun _ => ?_)
    rw [← hV]
    clear hV HA5 Hb5 Hf2 M4 Hb4
    refine wpAnyH_take (i := 0) rfl (by kernel_rfl) (by kernel_rfl) (by kernel_rfl) (fun _ _ _ h => h) (yieldsIf_load80 (by rfl) _ rfl _ rfl k a b n f (fun _ h => h)) (by assumption) ?_
    try simp only [Act.put, List.setIfInBounds_toArray, List.set_cons_zero, List.set_cons_succ]
    refine wpAnyH_take (i := 1) (v := vs) rfl (by kernel_rfl) (by kernel_rfl) (by kernel_rfl) (fun _ _ _ h => h) (Or.inl ⟨by rfl, ?_⟩) (by assumption) ?_
    · intro w1 hw1
      go_simp
      try rfl
    try simp only [Act.put, List.setIfInBounds_toArray, List.set_cons_zero, List.set_cons_succ]
    refine wpAnyH_take (i := 3) (v := .int .u64 (fr : Int)) rfl (by kernel_rfl) (by kernel_rfl) (by kernel_rfl) (fun _ _ _ h => h) (Or.inl ⟨by rfl, ?_⟩) (by assumption) ?_
    · intro w1 hw1
      go_simp
      try rfl
    try simp only [Act.put, List.setIfInBounds_toArray, List.set_cons_zero, List.set_cons_succ]
    refine wpAnyH_ready (rs := [2, 5]) (by kernel_rfl) (by simp) ?_
    refine AllReadyH.cons rfl (fun K hK => ?_) (AllReadyH.cons rfl (fun K hK => ?_) AllReadyH.nil)
    · go_simp
      refine (copyBytes_any ((unhide HS).later (bstep (unhide HB3) (unhide hbV))) hss).mono ?_
      rintro e V2 ⟨cv, rfl, hfc, hbc⟩
      have hbV2 : Hid (Below w3.heap.size w3 V2) := hide (bstep (unhide hbV) hbc)
      have hAV2 := hide ((unhide hAV).later hbc)
      have hfV2 := hide ((unhide hfV).later hbc)
      have hOV2 := hOV.later hbc
      have Hfc := hide hfc.rd
      clear hfc hbc
      refine hK.out _ _ hOV2 (fun _ => ?_)
      clear hK K
      try simp only [Act.put, List.setIfInBounds_toArray, List.set_cons_zero, List.set_cons_succ]
      refine wpAnyH_ready (rs := [4, 5]) (by kernel_rfl) (by simp) ?_
      refine AllReadyH.cons rfl (fun K hK => ?_) (AllReadyH.cons rfl (fun K hK => ?_) AllReadyH.nil)
      · go_simp
        obtain ⟨ob, SA, hob⟩ := (unhide hfV2).ast (unhide hAV2) ub (unhide HG)
        have TA := playA_any (B := w3.heap.size) k a b n f fr ha hb hn hf hfr SA (unhide Hfc) hss (unhide hbV2).size (unhide hg3) hob
        have hwd := mSpec_word k a b n f ss fr (absF xs bs t) (absF_dig (unhide Hdx))
        obtain ⟨R, hR⟩ : ∃ R, mSpec k a b n f ss fr (absF xs bs t) = R := ⟨_, rfl⟩
        rw [hR] at TA hwd
        obtain ⟨rok, rsize, rword, ro, L⟩ := R
        have HR := hide hR
        have HWD := hide hwd
        clear hR hwd
        refine TA.mono ?_
        rintro e V3 ⟨rv, rfl, hro0, hFA0, hkq⟩
        have hro : RdF V2.heap.size V3 rv ro := hro0
        have hFA : FA w4.heap.size V3 L := hFA0
        have hbV3 : Hid (Below w3.heap.size w3 V3) := hide ((unhide hbV2).trans hkq.bel)
        have hOV3 : OBox V3 (w.heap.size + 1) k a b n f := (unhide OP3).later (unhide hbV3)
        obtain ⟨ra, rn, rc, hrv, _⟩ := hro.rdo.shape
        subst hrv
        have hroUpd0 : Hid (∀ Z, Below V3.heap.size V3 Z → RdO Z (.slice ra rn rc) ro) := hide (fun Z u => hro.rdo.later u)
        have HRO := hide hro.rdo
        have HFA := hide hFA
        clear TA SA hob hro hFA hkq hro0 hFA0
        refine hK.out _ _ hOV3 (fun _ => ?_)
        clear hK K
        try simp only [Act.put, List.setIfInBounds_toArray, List.set_cons_zero, List.set_cons_succ]
        refine wpAnyH_ready (rs := [5]) (by kernel_rfl) (by simp) ?_
        refine AllReadyH.cons rfl (fun K hK => ?_) AllReadyH.nil
        rw [if_pos (by rfl)]
        refine wp_alloc83 rfl ?_
        obtain ⟨V4, hE⟩ : ∃ Y, Y = V3.alloc (.cells (anCells false 0 Z32 (.slice none 0 0)) 83) := ⟨_, rfl⟩
        have hbn : Below V3.heap.size V3 V4 := by rw [hE]; exact below_alloc _ _
        have hNV4 : Hid (NBox V4 V3.heap.size false 0 Z32 (.slice none 0 0)) := by rw [hE]; exact hide (NBox.new V3 false 0 Z32 (.slice none 0 0) Z32_len)
        rw [← hE]
        have hbV4 : Hid (Below w3.heap.size w3 V4) := hide (bstep (unhide hbV3) hbn)
        have hOV4 := hOV3.later hbn
        have HFA2 := hide ((FA.f83 _).later (unhide HFA) hbn)
        clear HFA
        have HFA := HFA2
        clear HFA2
        have hroUpd : Hid (∀ Z, Upd V4 Z V3.heap.size → RdO Z (.slice ra rn rc) ro) := hide (fun Z u => unhide hroUpd0 Z (u.below hbn (Nat.le_refl _)))
        have hr : Hid (w3.heap.size ≤ V3.heap.size) := hide (unhide hbV3).size
        clear hbn hE
        refine hK.out _ _ hOV4 (fun _ => ?_)
        clear hK K
        try simp only [Act.put, List.setIfInBounds_toArray, List.set_cons_zero, List.set_cons_succ]
        refine wpAnyH_ready (rs := [6]) (by kernel_rfl) (by simp) ?_
        refine AllReadyH.cons rfl (fun K hK => ?_) AllReadyH.nil
        rw [if_pos (by rfl)]
        refine wp_store83 _ _ rfl V3.heap.size rfl rfl (unhide HWD).1 (unhide hNV4) ?_
        intro Z hNZ uZ
        have hbZ : Hid (Below w3.heap.size w3 Z) := hide (uZ.below (unhide hbV4) (unhide hr))
        have hOZ : OBox Z (w.heap.size + 1) k a b n f := (unhide OP3).later (unhide hbZ)
        have HFZ := hide ((FA.f83 _).upd (unhide HFA) (unhide hNV4) uZ)
        have HNZ := hide hNZ
        have HROZ : Hid (RdO Z (.slice ra rn rc) ro) := hide (unhide hroUpd Z uZ)
        refine hK.out _ _ hOZ (fun _ => ?_)
        clear hK K hNZ uZ
        refine wpAnyH_done (by kernel_rfl) ?_ _
        obtain ⟨px, pb, pt, hAP, hL⟩ := unhide HFZ
        obtain ⟨pv, hpb, hprd, _⟩ := hAP.box
        have K9 := hide ((unhide HA3).later (unhide hbZ))
        have P9 := hide hpb
        have O9 := hide hOZ
        have lP := hpb.len
        have uP := hAP.u32
        have gP := hide hAP.good
        have hPr := hide hprd
        have HL := hide hL
        clear hAP hpb hprd hL hOZ
        go_wp2_with (first | refine wpList_load78 rfl _ rfl _ rfl (unhide K9) ?_ | refine wpList_load78 rfl _ rfl _ rfl (unhide P9) ?_ | refine wpList_load80 rfl _ rfl _ rfl (unhide O9) ?_ | refine wpList_load83 rfl _ rfl _ rfl (unhide HNZ) ?_)
        refine (holds_any k a b n f fr ha hb hn hf hfr ((unhide Hf3).rd.later (unhide hbZ)) lb ub (unhide HG) (unhide hPr) lP uP (unhide gP) ((unhide HS).later (bstep (unhide HB3) (unhide hbZ))) hss (unhide HR) (unhide HROZ) (unhide HL) (unhide HWD).1 (unhide HWD).2).mono ?_
        rintro e w9 ⟨rfl, hb9⟩
        have hBF := bstep (bstep (unhide HB3) (unhide hbZ)) hb9
        clear hb9
        go_wp2
        go_ret
        exact ⟨rfl, hBF⟩
      · rw [if_pos (by rfl)]
        refine wp_alloc83 rfl ?_
        obtain ⟨V3, hE⟩ : ∃ Y, Y = V2.alloc (.cells (anCells false 0 Z32 (.slice none 0 0)) 83) := ⟨_, rfl⟩
        have hbn : Below V2.heap.size V2 V3 := by rw [hE]; exact below_alloc _ _
        have hNV3 : Hid (NBox V3 V2.heap.size false 0 Z32 (.slice none 0 0)) := by rw [hE]; exact hide (NBox.new V2 false 0 Z32 (.slice none 0 0) Z32_len)
        rw [← hE]
        have hbV3 : Hid (Below w3.heap.size w3 V3) := hide (bstep (unhide hbV2) hbn)
        have hOV3 := hOV2.later hbn
        have hAV3 := hide ((unhide hAV2).later hbn)
        have hfV3 := hide ((unhide hfV2).later hbn)
        have Hfc2 := hide ((unhide Hfc).later hbn)
        clear Hfc
        have Hfc := Hfc2
        clear Hfc2
        clear hbn hE
        have hb0 := hbV2
        refine hK.out _ _ hOV3 (fun _ => ?_)
        clear hK K
        try simp only [Act.put, List.setIfInBounds_toArray, List.set_cons_zero, List.set_cons_succ]
        refine wpAnyH_ready (rs := [4]) (by kernel_rfl) (by simp) ?_
        refine AllReadyH.cons rfl (fun K hK => ?_) AllReadyH.nil
        go_simp
        obtain ⟨ob, SA, hob⟩ := (unhide hfV3).ast (unhide hAV3) ub (unhide HG)
        have TA := playA_any (B := w3.heap.size) k a b n f fr ha hb hn hf hfr SA (unhide Hfc) hss (unhide hbV3).size (unhide hg3) hob
        have hwd := mSpec_word k a b n f ss fr (absF xs bs t) (absF_dig (unhide Hdx))
        obtain ⟨R, hR⟩ : ∃ R, mSpec k a b n f ss fr (absF xs bs t) = R := ⟨_, rfl⟩
        rw [hR] at TA hwd
        obtain ⟨rok, rsize, rword, ro, L⟩ := R
        have HR := hide hR
        have HWD := hide hwd
        clear hR hwd
        refine TA.mono ?_
        rintro e V4 ⟨rv, rfl, hro0, hFA0, hkq⟩
        have hro : RdF V3.heap.size V4 rv ro := hro0
        have hFA : FA w4.heap.size V4 L := hFA0
        have hbV4 : Hid (Below w3.heap.size w3 V4) := hide ((unhide hbV3).trans hkq.bel)
        have hOV4 : OBox V4 (w.heap.size + 1) k a b n f := (unhide OP3).later (unhide hbV4)
        obtain ⟨ra, rn, rc, hrv, _⟩ := hro.rdo.shape
        subst hrv
        have hNV4 := hide (hkq.box (unhide hNV3))
        have hroUpd : Hid (∀ Z, Upd V4 Z V2.heap.size → RdO Z (.slice ra rn rc) ro) := by
          have hlt := (unhide hNV3).lt
          exact hide (fun Z u => (hro.upd u hlt).rdo)
        have hr : Hid (w3.heap.size ≤ V2.heap.size) := hide (unhide hb0).size
        have HRO := hide hro.rdo
        have HFA := hide hFA
        clear TA SA hob hro hFA hkq hro0 hFA0
        refine hK.out _ _ hOV4 (fun _ => ?_)
        clear hK K
        try simp only [Act.put, List.setIfInBounds_toArray, List.set_cons_zero, List.set_cons_succ]
        refine wpAnyH_ready (rs := [6]) (by kernel_rfl) (by simp) ?_
        refine AllReadyH.cons rfl (fun K hK => ?_) AllReadyH.nil
        rw [if_pos (by rfl)]
        refine wp_store83 _ _ rfl V2.heap.size rfl rfl (unhide HWD).1 (unhide hNV4) ?_
        intro Z hNZ uZ
        have hbZ : Hid (Below w3.heap.size w3 Z) := hide (uZ.below (unhide hbV4) (unhide hr))
        have hOZ : OBox Z (w.heap.size + 1) k a b n f := (unhide OP3).later (unhide hbZ)
        have HFZ := hide ((FA.f83 _).upd (unhide HFA) (unhide hNV4) uZ)
        have HNZ := hide hNZ
        have HROZ : Hid (RdO Z (.slice ra rn rc) ro) := hide (unhide hroUpd Z uZ)
        refine hK.out _ _ hOZ (fun _ => ?_)
        clear hK K hNZ uZ
        refine wpAnyH_done (by kernel_rfl) ?_ _
        obtain ⟨px, pb, pt, hAP, hL⟩ := unhide HFZ
        obtain ⟨pv, hpb, hprd, _⟩ := hAP.box
        have K9 := hide ((unhide HA3).later (unhide hbZ))
        have P9 := hide hpb
        have O9 := hide hOZ
        have lP := hpb.len
        have uP := hAP.u32
        have gP := hide hAP.good
        have hPr := hide hprd
        have HL := hide hL
        clear hAP hpb hprd hL hOZ
        go_wp2_with (first | refine wpList_load78 rfl _ rfl _ rfl (unhide K9) ?_ | refine wpList_load78 rfl _ rfl _ rfl (unhide P9) ?_ | refine wpList_load80 rfl _ rfl _ rfl (unhide O9) ?_ | refine wpList_load83 rfl _ rfl _ rfl (unhide HNZ) ?_)
        refine (holds_any k a b n f fr ha hb hn hf hfr ((unhide Hf3).rd.later (unhide hbZ)) lb ub (unhide HG) (unhide hPr) lP uP (unhide gP) ((unhide HS).later (bstep (unhide HB3) (unhide hbZ))) hss (unhide HR) (unhide HROZ) (unhide HL) (unhide HWD).1 (unhide HWD).2).mono ?_
        rintro e w9 ⟨rfl, hb9⟩
        have hBF := bstep (bstep (unhide HB3) (unhide hbZ)) hb9
        clear hb9
        go_wp2
        go_ret
        exact ⟨rfl, hBF⟩
    · rw [if_pos (by rfl)]
      refine wp_alloc83 rfl ?_
      obtain ⟨V1, hE⟩ : ∃ Y, Y = V.alloc (.cells (anCells false 0 Z32 (.slice none 0 0)) 83) := ⟨_, rfl⟩
      have hbn : Below V.heap.size V V1 := by rw [hE]; exact below_alloc _ _
      have hNV1 : Hid (NBox V1 V.heap.size false 0 Z32 (.slice none 0 0)) := by rw [hE]; exact hide (NBox.new V false 0 Z32 (.slice none 0 0) Z32_len)
      rw [← hE]
      have hbV1 : Hid (Below w3.heap.size w3 V1) := hide (bstep (unhide hbV) hbn)
      have hOV1 := hOV.later hbn
      have hAV1 := hide ((unhide hAV).later hbn)
      have hfV1 := hide ((unhide hfV).later hbn)
      clear hbn hE
      have hb0 := hbV
      refine hK.out _ _ hOV1 (fun _ => ?_)
      clear hK K
      try simp only [Act.put, List.setIfInBounds_toArray, List.set_cons_zero, List.set_cons_succ]
      refine wpAnyH_ready (rs := [2]) (by kernel_rfl) (by simp) ?_
      refine AllReadyH.cons rfl (fun K hK => ?_) AllReadyH.nil
      go_simp
      refine (copyBytes_any ((unhide HS).later (bstep (unhide HB3) (unhide hbV1))) hss).mono ?_
      rintro e V2 ⟨cv, rfl, hfc, hbc⟩
      have hbV2 : Hid (Below w3.heap.size w3 V2) := hide (bstep (unhide hbV1) hbc)
      have hAV2 := hide ((unhide hAV1).later hbc)
      have hfV2 := hide ((unhide hfV1).later hbc)
      have hOV2 := hOV1.later hbc
      have Hfc := hide hfc.rd
      have hNV2 := hide ((unhide hNV1).later hbc)
      clear hfc hbc hNV1
      refine hK.out _ _ hOV2 (fun _ => ?_)
      clear hK K
      try simp only [Act.put, List.setIfInBounds_toArray, List.set_cons_zero, List.set_cons_succ]
      refine wpAnyH_ready (rs := [4]) (by kernel_rfl) (by simp) ?_
      refine AllReadyH.cons rfl (fun K hK => ?_) AllReadyH.nil
      go_simp
      obtain ⟨ob, SA, hob⟩ := (unhide hfV2).ast (unhide hAV2) ub (unhide HG)
      have TA := playA_any (B := w3.heap.size) k a b n f fr ha hb hn hf hfr SA (unhide Hfc) hss (unhide hbV2).size (unhide hg3) hob
      have hwd := mSpec_word k a b n f ss fr (absF xs bs t) (absF_dig (unhide Hdx))
      obtain ⟨R, hR⟩ : ∃ R, mSpec k a b n f ss fr (absF xs bs t) = R := ⟨_, rfl⟩
      rw [hR] at TA hwd
      obtain ⟨rok, rsize, rword, ro, L⟩ := R
      have HR := hide hR
      have HWD := hide hwd
      clear hR hwd
      refine TA.mono ?_
      rintro e V3 ⟨rv, rfl, hro0, hFA0, hkq⟩
      have hro : RdF V2.heap.size V3 rv ro := hro0
      have hFA : FA w4.heap.size V3 L := hFA0
      have hbV3 : Hid (Below w3.heap.size w3 V3) := hide ((unhide hbV2).trans hkq.bel)
      have hOV3 : OBox V3 (w.heap.size + 1) k a b n f := (unhide OP3).later (unhide hbV3)
      obtain ⟨ra, rn, rc, hrv, _⟩ := hro.rdo.shape
      subst hrv
      have hNV3 := hide (hkq.box (unhide hNV2))
      have hroUpd : Hid (∀ Z, Upd V3 Z V.heap.size → RdO Z (.slice ra rn rc) ro) := by
        have hlt := (unhide hNV2).lt
        exact hide (fun Z u => (hro.upd u hlt).rdo)
      have hr : Hid (w3.heap.size ≤ V.heap.size) := hide (unhide hb0).size
      have HRO := hide hro.rdo
      have HFA := hide hFA
      clear TA SA hob hro hFA hkq hro0 hFA0
      refine hK.out _ _ hOV3 (fun _ => ?_)
      clear hK K
      try simp only [Act.put, List.setIfInBounds_toArray, List.set_cons_zero, List.set_cons_succ]
      refine wpAnyH_ready (rs := [6]) (by kernel_rfl) (by simp) ?_
      refine AllReadyH.cons rfl (fun K hK => ?_) AllReadyH.nil
      rw [if_pos (by rfl)]
      refine wp_store83 _ _ rfl V.heap.size rfl rfl (unhide HWD).1 (unhide hNV3) ?_
      intro Z hNZ uZ
      have hbZ : Hid (Below w3.heap.size w3 Z) := hide (uZ.below (unhide hbV3) (unhide hr))
      have hOZ : OBox Z (w.heap.size + 1) k a b n f := (unhide OP3).later (unhide hbZ)
      have HFZ := hide ((FA.f83 _).upd (unhide HFA) (unhide hNV3) uZ)
      have HNZ := hide hNZ
      have HROZ : Hid (RdO Z (.slice ra rn rc) ro) := hide (unhide hroUpd Z uZ)
      refine hK.out _ _ hOZ (fun _ => ?_)
      clear hK K hNZ uZ
      refine wpAnyH_done (by kernel_rfl) ?_ _
      obtain ⟨px, pb, pt, hAP, hL⟩ := unhide HFZ
      obtain ⟨pv, hpb, hprd, _⟩ := hAP.box
      have K9 := hide ((unhide HA3).later (unhide hbZ))
      have P9 := hide hpb
      have O9 := hide hOZ
      have lP := hpb.len
      have uP := hAP.u32
      have gP := hide hAP.good
      have hPr := hide hprd
      have HL := hide hL
      clear hAP hpb hprd hL hOZ
      go_wp2_with (first | refine wpList_load78 rfl _ rfl _ rfl (unhide K9) ?_ | refine wpList_load78 rfl _ rfl _ rfl (unhide P9) ?_ | refine wpList_load80 rfl _ rfl _ rfl (unhide O9) ?_ | refine wpList_load83 rfl _ rfl _ rfl (unhide HNZ) ?_)
      refine (holds_any k a b n f fr ha hb hn hf hfr ((unhide Hf3).rd.later (unhide hbZ)) lb ub (unhide HG) (unhide hPr) lP uP (unhide gP) ((unhide HS).later (bstep (unhide HB3) (unhide hbZ))) hss (unhide HR) (unhide HROZ) (unhide HL) (unhide HWD).1 (unhide HWD).2).mono ?_
      rintro e w9 ⟨rfl, hb9⟩
      have hBF := bstep (bstep (unhide HB3) (unhide hbZ)) hb9
      clear hb9
      go_wp2
      go_ret
      exact ⟨rfl, hBF⟩

end Go.Proofs.Ygcsaa
