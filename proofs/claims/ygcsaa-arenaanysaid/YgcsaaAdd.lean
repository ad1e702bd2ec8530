import Derived.Test.YgcsaaClip
namespace Go.Proofs.Ygcsaa
open Go.RowKit
set_option linter.unusedSimpArgs false
set_option linter.unusedVariables false

/-- One round of Add. -/
theorem add_step (a b zs : List Nat) (wr : World) (g j cc k : Nat) (u v : Int)
    (h : zs.length = j ∧ M.Dig zs ∧ M.val zs + 256 ^ j * cc = M.val (a.take j) + M.val (b.take j) ∧ Blk wr g (zs ++ List.replicate (k + 1 - j) 0))
    (hj : j < k) (hx : a.getD j 0 < 256) (hy : b.getD j 0 < 256) (hcc : cc ≤ 1) (hu : u = ((cc : Int) + (a.getD j 0 : Nat) + (b.getD j 0 : Nat)) % 256) (hv : v = ((cc : Int) + (a.getD j 0 : Nat) + (b.getD j 0 : Nat)) / 256) :
    ∃ (cc' : Nat) (zs' : List Nat), v = (cc' : Int) ∧ cc' ≤ 1 ∧
      (zs'.length = j + 1 ∧ M.Dig zs' ∧ M.val zs' + 256 ^ (j + 1) * cc' = M.val (a.take (j + 1)) + M.val (b.take (j + 1)) ∧ Blk (wr.setCell ⟨g, j, none⟩ (.int .u8 u)) g (zs' ++ List.replicate (k + 1 - (j + 1)) 0)) := by
  obtain ⟨h1, h2, h3, h4⟩ := h
  rw [M.val_take_succ a j, M.val_take_succ b j]
  generalize a.getD j 0 = x at *
  generalize b.getD j 0 = y at *
  refine ⟨(cc + x + y) / 256, zs ++ [(cc + x + y) % 256], by omega, by omega, by simp [h1], M.dig_append h2 (M.dig_one (by omega)), ?_, ?_⟩
  · rw [M.val_append, h1]
    have e : 256 ^ j * ((cc + x + y) % 256 + 256 * ((cc + x + y) / 256)) = 256 ^ j * (cc + x + y) := by rw [Nat.mod_add_div]
    simp only [Nat.mul_add] at e
    simp only [M.val, Nat.mul_zero, Nat.add_zero, Nat.pow_succ, Nat.mul_assoc]
    omega
  · have := h4.set j ((cc + x + y) % 256) (x := u) (by omega)
    have e := M.set_app zs (k + 1) ((cc + x + y) % 256) (by omega)
    rw [h1] at e
    rw [e] at this
    exact this

/-- The last digit of Add. -/
theorem add_last (a b zs : List Nat) (wr : World) (g j cc : Nat)
    (h : zs.length = j ∧ M.Dig zs ∧ M.val zs + 256 ^ j * cc = M.val (a.take j) + M.val (b.take j) ∧ Blk wr g (zs ++ List.replicate (j + 1 - j) 0))
    (ha : a.length = j) (hb : b.length ≤ j) (hcc : cc ≤ 1) :
    (zs ++ [cc]).length = j + 1 ∧ M.Dig (zs ++ [cc]) ∧ M.val (zs ++ [cc]) = M.val a + M.val b ∧ Blk (wr.setCell ⟨g, j, none⟩ (.int .u8 (cc : Int))) g (zs ++ [cc]) := by
  obtain ⟨h1, h2, h3, h4⟩ := h
  refine ⟨by simp [h1], M.dig_append h2 (M.dig_one (by omega)), ?_, ?_⟩
  · rw [M.val_append, h1]
    rw [List.take_of_length_le (by omega), List.take_of_length_le (by omega)] at h3
    simp only [M.val, Nat.mul_zero, Nat.add_zero]
    omega
  · have := h4.set j cc (x := (cc : Int)) rfl
    have e := M.set_app zs (j + 1) cc (by omega)
    rw [h1] at e
    rw [e] at this
    simpa using this

set_option maxRecDepth 10000 in
set_option maxHeartbeats 400000 in
theorem add_any (ao bo : Option Addr) (n m cap cap' : Nat) (xs ys : List Nat) (w : World) (hn : xs.length = n) (hm : ys.length = m) (hcap : n ≤ cap) (hcap' : m ≤ cap') (hmax : n ≤ 1000) (hmax' : m ≤ 1000)
    (hd : M.Dig xs) (hd' : M.Dig ys) (hr : Row w ao xs) (hr' : Row w bo ys) :
    Calls Saag.prog 23 #[.slice ao n cap, .slice bo m cap'] w fun e w' => ∃ v, e = .returned v ∧ Nrm w' v (M.val xs + M.val ys) ∧ Below w.heap.size w w' := by
  have va := M.val_tr xs
  have vb := M.val_tr ys
  have da := M.dig_tr hd
  have db := M.dig_tr hd'
  have la := M.tr_len xs
  have lb := M.tr_len ys
  have ra : Row w ao (M.tr xs) := by rw [M.tr_take]; exact hr.take _
  have rb : Row w bo (M.tr ys) := by rw [M.tr_take]; exact hr'.take _
  have T1 := hide (trim_any ao n cap xs w hn hcap (by omega) hd hr)
  have T2 := hide (trim_any bo m cap' ys w hm hcap' (by omega) hd' hr')
  rw [← va, ← vb]
  generalize M.tr xs = as1 at *
  generalize M.tr ys = bs1 at *
  clear va vb hr hr' hd hd'
  subst hn
  subst hm
  have hla : as1.length ≤ 1000 := by omega
  have hlb : bs1.length ≤ 1000 := by omega
  clear la lb hmax hmax' hcap hcap'
  generalize xs.length = n at *
  generalize ys.length = m at *
  go_enter Saag.func23, Saag.ntmps23
  go_wp2_with fail
  refine (unhide T1).mono ?_
  rintro e w' ⟨rfl, rfl⟩
  go_wp2_with fail
  refine (unhide T2).mono ?_
  rintro e w' ⟨rfl, rfl⟩
  clear T1 T2
  generalize hk1 : as1.length = k1 at *
  generalize hk2 : bs1.length = k2 at *
  have Hk1 := hide hk1
  have Hk2 := hide hk2
  clear hk1 hk2
  by_cases hc1 : k1 < k2
  · skip
    go_wp2_with (at_make; refine wpList_make_bytes _ rfl _ _ 42 rfl Saag.underlying42 _ _ _ _ (k2 + 1) rfl rfl (by omega) (by omega) (by omega) ?_; intro w1 hblk hsz hbel)
    go_loopw [6, 26] (fun c i wr => ∃ (j cc : Nat) (zs : List Nat), j ≤ k2 ∧ i = .int .i64 j ∧ c = .int .u16 cc ∧ cc ≤ 1 ∧ Hid (zs.length = j ∧ M.Dig zs ∧ M.val zs + 256 ^ j * cc = M.val (bs1.take j) + M.val (as1.take j) ∧ Blk wr w.heap.size (zs ++ List.replicate (k2 + 1 - j) 0)) ∧ Below w.heap.size w wr) (fun _ i _ => k2 - (intOf i).toNat)
    case atStart => exact ⟨0, 0, [], by omega, rfl, rfl, by omega, ⟨rfl, by intro x hx; simp at hx, rfl, by simpa using unhide hblk⟩, hbel⟩
    case round =>
      obtain ⟨j, cc, zs, hj, rfl, rfl, hcc, hz, hbe⟩ := hrel
      by_cases hjn : j < k2
      · obtain ⟨z, hcj⟩ : ∃ z, wr.cell? ⟨w.heap.size, j, none⟩ = some z := ⟨_, (unhide hz).2.2.2.cell j (by rw [List.length_append, (unhide hz).1]; simp; omega)⟩
        have hfj := (unhide hz).2.2.2.frozen j
        have hx := M.dig_getD db j
        have hy := M.dig_getD da j
        obtain ⟨b, off, e1, hca⟩ := (rb.below hbe (Nat.le_refl _)) j (by rw [unhide Hk2]; omega)
        obtain rfl := e1
        by_cases hjm : j < k1
        · obtain ⟨b', off', e2, hcb⟩ := (ra.below hbe (Nat.le_refl _)) j (by rw [unhide Hk1]; omega)
          obtain rfl := e2
          obtain ⟨cc', zs', hv, hcc', hz'⟩ := add_step bs1 as1 zs wr w.heap.size j cc k2 _ _ (unhide hz) hjn hx hy hcc rfl rfl
          have hv' := hide hv
          have hz'' := hide hz'
          clear hv hz'
          generalize bs1.getD j 0 = x at *
          generalize as1.getD j 0 = y at *
          clear hz
          go_wp2
          go_roundw
          case rel => exact ⟨j + 1, cc', zs', by omega, by go_num, congrArg (Value.int .u16) (unhide hv'), hcc', hz'', hbe.setCell (Nat.le_refl _) _⟩
          case measure => simp [intOf]; omega
        · have hy0 : as1.getD j 0 = 0 := M.getD_ge _ _ (by rw [unhide Hk1]; omega)
          obtain ⟨cc', zs', hv, hcc', hz'⟩ := add_step bs1 as1 zs wr w.heap.size j cc k2 (((cc : Int) + (bs1.getD j 0 : Nat)) % 256) (((cc : Int) + (bs1.getD j 0 : Nat)) / 256) (unhide hz) hjn hx hy hcc (by rw [hy0]; simp) (by rw [hy0]; simp)
          have hv' := hide hv
          have hz'' := hide hz'
          clear hv hz' hy0 hy
          generalize bs1.getD j 0 = x at *
          clear hz
          go_wp2
          go_roundw
          case rel => exact ⟨j + 1, cc', zs', by omega, by go_num, congrArg (Value.int .u16) (unhide hv'), hcc', hz'', hbe.setCell (Nat.le_refl _) _⟩
          case measure => simp [intOf]; omega
      · have hje : j = k2 := by omega
        subst hje
        obtain ⟨z, hcj⟩ : ∃ z, wr.cell? ⟨w.heap.size, j, none⟩ = some z := ⟨_, (unhide hz).2.2.2.cell j (by rw [List.length_append, (unhide hz).1]; simp)⟩
        have hfj := (unhide hz).2.2.2.frozen j
        obtain ⟨hl, hdz, hval, hbk⟩ := add_last bs1 as1 zs wr w.heap.size j cc (unhide hz) (unhide Hk2) (by rw [unhide Hk1]; omega) hcc
        have hl' := hide hl
        have hval' := hide hval
        have hbk' := hide hbk
        clear hl hval hbk hz
        go_wp2_with fail
        refine (clip_any (some ⟨w.heap.size, 0, none⟩) (j + 1) (j + 1) (zs ++ [cc]) _ (unhide hl') (Nat.le_refl _) (by omega) hdz (unhide hbk').row).mono ?_
        rintro e w' ⟨v, rfl, hN, rfl⟩
        go_wp2
        go_ret
        refine ⟨_, rfl, ?_, hbe.setCell (Nat.le_refl _) _⟩
        rw [unhide hval'] at hN
        rw [Nat.add_comm (M.val bs1) (M.val as1)] at hN
        exact hN
  · have hc2 : k2 ≤ k1 := by omega
    go_wp2_with (at_make; refine wpList_make_bytes _ rfl _ _ 42 rfl Saag.underlying42 _ _ _ _ (k1 + 1) rfl rfl (by omega) (by omega) (by omega) ?_; intro w1 hblk hsz hbel)
    go_loopw [6, 26] (fun c i wr => ∃ (j cc : Nat) (zs : List Nat), j ≤ k1 ∧ i = .int .i64 j ∧ c = .int .u16 cc ∧ cc ≤ 1 ∧ Hid (zs.length = j ∧ M.Dig zs ∧ M.val zs + 256 ^ j * cc = M.val (as1.take j) + M.val (bs1.take j) ∧ Blk wr w.heap.size (zs ++ List.replicate (k1 + 1 - j) 0)) ∧ Below w.heap.size w wr) (fun _ i _ => k1 - (intOf i).toNat)
    case atStart => exact ⟨0, 0, [], by omega, rfl, rfl, by omega, ⟨rfl, by intro x hx; simp at hx, rfl, by simpa using unhide hblk⟩, hbel⟩
    case round =>
      obtain ⟨j, cc, zs, hj, rfl, rfl, hcc, hz, hbe⟩ := hrel
      by_cases hjn : j < k1
      · obtain ⟨z, hcj⟩ : ∃ z, wr.cell? ⟨w.heap.size, j, none⟩ = some z := ⟨_, (unhide hz).2.2.2.cell j (by rw [List.length_append, (unhide hz).1]; simp; omega)⟩
        have hfj := (unhide hz).2.2.2.frozen j
        have hx := M.dig_getD da j
        have hy := M.dig_getD db j
        obtain ⟨b, off, e1, hca⟩ := (ra.below hbe (Nat.le_refl _)) j (by rw [unhide Hk1]; omega)
        obtain rfl := e1
        by_cases hjm : j < k2
        · obtain ⟨b', off', e2, hcb⟩ := (rb.below hbe (Nat.le_refl _)) j (by rw [unhide Hk2]; omega)
          obtain rfl := e2
          obtain ⟨cc', zs', hv, hcc', hz'⟩ := add_step as1 bs1 zs wr w.heap.size j cc k1 _ _ (unhide hz) hjn hx hy hcc rfl rfl
          have hv' := hide hv
          have hz'' := hide hz'
          clear hv hz'
          generalize as1.getD j 0 = x at *
          generalize bs1.getD j 0 = y at *
          clear hz
          go_wp2
          go_roundw
          case rel => exact ⟨j + 1, cc', zs', by omega, by go_num, congrArg (Value.int .u16) (unhide hv'), hcc', hz'', hbe.setCell (Nat.le_refl _) _⟩
          case measure => simp [intOf]; omega
        · have hy0 : bs1.getD j 0 = 0 := M.getD_ge _ _ (by rw [unhide Hk2]; omega)
          obtain ⟨cc', zs', hv, hcc', hz'⟩ := add_step as1 bs1 zs wr w.heap.size j cc k1 (((cc : Int) + (as1.getD j 0 : Nat)) % 256) (((cc : Int) + (as1.getD j 0 : Nat)) / 256) (unhide hz) hjn hx hy hcc (by rw [hy0]; simp) (by rw [hy0]; simp)
          have hv' := hide hv
          have hz'' := hide hz'
          clear hv hz' hy0 hy
          generalize as1.getD j 0 = x at *
          clear hz
          go_wp2
          go_roundw
          case rel => exact ⟨j + 1, cc', zs', by omega, by go_num, congrArg (Value.int .u16) (unhide hv'), hcc', hz'', hbe.setCell (Nat.le_refl _) _⟩
          case measure => simp [intOf]; omega
      · have hje : j = k1 := by omega
        subst hje
        obtain ⟨z, hcj⟩ : ∃ z, wr.cell? ⟨w.heap.size, j, none⟩ = some z := ⟨_, (unhide hz).2.2.2.cell j (by rw [List.length_append, (unhide hz).1]; simp)⟩
        have hfj := (unhide hz).2.2.2.frozen j
        obtain ⟨hl, hdz, hval, hbk⟩ := add_last as1 bs1 zs wr w.heap.size j cc (unhide hz) (unhide Hk1) (by rw [unhide Hk2]; omega) hcc
        have hl' := hide hl
        have hval' := hide hval
        have hbk' := hide hbk
        clear hl hval hbk hz
        go_wp2_with fail
        refine (clip_any (some ⟨w.heap.size, 0, none⟩) (j + 1) (j + 1) (zs ++ [cc]) _ (unhide hl') (Nat.le_refl _) (by omega) hdz (unhide hbk').row).mono ?_
        rintro e w' ⟨v, rfl, hN, rfl⟩
        go_wp2
        go_ret
        refine ⟨_, rfl, ?_, hbe.setCell (Nat.le_refl _) _⟩
        rw [unhide hval'] at hN
        skip
        exact hN

end Go.Proofs.Ygcsaa
