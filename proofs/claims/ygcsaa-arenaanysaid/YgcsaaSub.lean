import Derived.Test.YgcsaaTake
import Derived.Test.YgcsaaCmp
namespace Go.Proofs.Ygcsaa
open Go.RowKit
set_option linter.unusedSimpArgs false
set_option linter.unusedVariables false

set_option maxRecDepth 10000 in
set_option maxHeartbeats 400000 in
theorem sub_any (ao bo : Option Addr) (n m cap cap' : Nat) (xs ys : List Nat) (w : World) (hn : xs.length = n) (hm : ys.length = m) (hcap : n ≤ cap) (hcap' : m ≤ cap') (hmax : n ≤ 1000) (hmax' : m ≤ 1000)
    (hd : M.Dig xs) (hd' : M.Dig ys) (hr : Row w ao xs) (hr' : Row w bo ys) (hle : M.val ys ≤ M.val xs) :
    Calls Saag.prog 105 #[.slice ao n cap, .slice bo m cap'] w fun e w' => ∃ v, e = .returned (.tuple #[v, .bool true]) ∧ Nrm w' v (M.val xs - M.val ys) ∧ Below w.heap.size w w' := by
  have T1 := hide (cmp_any ao bo n m cap cap' xs ys w hn hm hcap hcap' (by omega) (by omega) hd hd' hr hr')
  have T2 := hide (fun q => norm_any ao n cap xs (w.drewN q) hn hcap (by omega) hd hr)
  have T3 := hide (fun (w' : World) (h : Row w' bo ys) => trim_any bo m cap' ys w' hm hcap' (by omega) hd' h)
  have hge : 0 ≤ cmpI (M.val xs) (M.val ys) := by
    by_cases he : M.val ys < M.val xs
    · rw [cmpI_gt he]; omega
    · rw [cmpI_eq (by omega)]; omega
  have va := M.val_tr xs
  have vb := M.val_tr ys
  have na := M.nrml_tr xs
  have nb := M.nrml_tr ys
  have da := M.dig_tr hd
  have db := M.dig_tr hd'
  have la := M.tr_len xs
  have rb : Row w bo (M.tr ys) := by rw [M.tr_take]; exact hr'.take _
  have hll : (M.tr ys).length ≤ (M.tr xs).length := by
    by_cases h : (M.tr xs).length < (M.tr ys).length
    · have := len_lt_val da nb h
      omega
    · omega
  rw [← va, ← vb] at hle ⊢
  generalize cmpI (M.val xs) (M.val ys) = cv at *
  have hla : (M.tr xs).length ≤ 1000 := by omega
  generalize M.tr xs = as1 at *
  generalize M.tr ys = bs1 at *
  have Hle := hide hle
  clear va vb la hle hn hm
  go_enter Saag.func105, Saag.ntmps105
  go_wp2_with fail
  refine (unhide T1).mono ?_
  rintro e w' ⟨rfl, q, rfl⟩
  clear T1
  go_wp2_with fail
  refine (unhide T2 q).mono ?_
  rintro e w1 ⟨v, rfl, hv⟩
  clear T2
  by_cases h0 : as1 = []
  · rcases hv with ⟨_, rfl, rfl⟩ | ⟨h, _⟩
    · go_wp2_with fail
      refine (unhide T3 _ (hr'.drewN q)).mono ?_
      rintro e w' ⟨rfl, rfl⟩
      go_wp2_with fail
      refine (take_nil _ _ _ _).mono ?_
      rintro e w' ⟨v, rfl, rfl⟩
      go_wp2_with fail
      refine (clip_any none 0 0 [] _ rfl (Nat.le_refl _) (by omega) (by intro x hx; simp at hx) (Row.nil _ _)).mono ?_
      rintro e w' ⟨v2, rfl, hN, rfl⟩
      go_wp2
      go_ret2
      refine ⟨_, rfl, ?_, (Upd.drewN w q w.heap.size).below (Below.refl _ _) (Nat.le_refl _)⟩
      have e : M.val as1 - M.val bs1 = 0 := by rw [h0]; simp [M.val]
      rw [e]
      exact hN
    · exact absurd h0 h
  · rcases hv with ⟨h, _, _⟩ | ⟨_, rfl, hbk, hbel⟩
    · exact absurd h h0
    · have hbel' : Below w.heap.size w w1 := ((Upd.drewN w q w.heap.size).below (Below.refl _ _) (Nat.le_refl _)).trans hbel
      have hbk' : Blk w1 w.heap.size as1 := hbk
      have Hbk := hide hbk'
      clear hbk hbk' hbel
      have hap : bs1.length ≠ 0 → Apart bo w.heap.size := by
        intro hne a ha
        obtain ⟨b, off, e1, h2⟩ := rb 0 (by omega)
        have h3 := World.block_lt_of_cell? w _ h2
        rw [e1] at ha
        cases ha
        simp at h3 ⊢
        omega
      go_wp2_with fail
      refine (unhide T3 _ (hr'.below hbel' (Nat.le_refl _))).mono ?_
      rintro e w' ⟨rfl, rfl⟩
      go_wp2_with fail
      refine (take_any w.heap.size as1.length as1.length bs1.length bs1.length bo as1 bs1 w1 rfl rfl hll (Nat.le_refl _) (Nat.le_refl _) (by omega) da db (unhide Hbk) (rb.below hbel' (Nat.le_refl _)) hap).mono ?_
      rintro e w3 ⟨bw, rfl, hbw, hu, zs3, t1, t2, t3, t4⟩
      have hval : M.val zs3 = M.val as1 - M.val bs1 := by
        have e2 := unhide Hle
        have e3 := M.val_lt t2
        rw [t1] at e3
        by_cases hb0 : bw = 0
        · subst hb0; omega
        · have : bw = 1 := by omega
          subst this; omega
      have Hval := hide hval
      have T4 := hide t4
      have T1 := hide t1
      clear hval t3 t4 t1
      go_wp2_with fail
      refine (clip_any (some ⟨w.heap.size, 0, none⟩) as1.length as1.length zs3 w3 (unhide T1) (Nat.le_refl _) (by omega) t2 (unhide T4).row).mono ?_
      rintro e w' ⟨v2, rfl, hN, rfl⟩
      go_wp2
      go_ret2
      refine ⟨_, rfl, ?_, hu.below hbel' (Nat.le_refl _)⟩
      rw [unhide Hval] at hN
      exact hN

end Go.Proofs.Ygcsaa
