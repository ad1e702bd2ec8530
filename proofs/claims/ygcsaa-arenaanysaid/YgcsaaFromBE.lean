import Derived.Test.YgcsaaClip
namespace Go.Proofs.Ygcsaa
open Go.RowKit
set_option linter.unusedSimpArgs false
set_option linter.unusedVariables false

theorem be_val (xs : List Nat) (k : Nat) (hk : k ≤ xs.length) (hz : ∀ j, j < k → xs.getD j 0 = 0) : M.val (xs.reverse.take (xs.length - k)) = M.val xs.reverse := by
  rw [M.val_split xs.reverse (xs.length - k) (by simp)]
  have h0 : M.val (xs.reverse.drop (xs.length - k)) = 0 := by
    refine M.val_zeros _ (fun j hj => ?_)
    simp at hj
    have e : (xs.reverse.drop (xs.length - k)).getD j 0 = xs.reverse.getD (xs.length - k + j) 0 := by
      simp [List.getD_eq_getElem?_getD, List.getElem?_drop]
    rw [e, M.getD_reverse _ _ (by omega)]
    exact hz _ (by omega)
  rw [h0]
  simp

theorem be_nrml (xs : List Nat) (k : Nat) (hk : k < xs.length) (hnz : xs.getD k 0 ≠ 0) : M.Nrml (xs.reverse.take (xs.length - k)) := by
  have hl : (xs.reverse.take (xs.length - k)).length = xs.length - k := by simp
  refine M.nrml_last _ (by rw [hl]; omega) ?_
  rw [hl]
  have e : (xs.reverse.take (xs.length - k)).getD (xs.length - k - 1) 0 = xs.reverse.getD (xs.length - k - 1) 0 := by
    simp only [List.getD_eq_getElem?_getD, List.getElem?_take]
    rw [if_pos (by omega)]
  rw [e, M.getD_reverse _ _ (by omega)]
  have e2 : xs.length - 1 - (xs.length - k - 1) = k := by omega
  rw [e2]
  exact hnz

theorem dig_reverse {xs : List Nat} (h : M.Dig xs) : M.Dig xs.reverse := fun x hx => h x (List.mem_reverse.1 hx)

set_option maxRecDepth 10000 in
set_option maxHeartbeats 400000 in
theorem fromBE_any (ao : Option Addr) (n cap : Nat) (xs : List Nat) (w : World) (hn : xs.length = n) (hcap : n ≤ cap) (hmax : n ≤ 100000) (hd : M.Dig xs) (hr : Row w ao xs) :
    Calls Saag.prog 19 #[.slice ao n cap] w fun e w' => ∃ v, e = .returned v ∧ Nrm w' v (M.val xs.reverse) ∧ Below w.heap.size w w' := by
  have Hn := hide hn
  clear hn
  go_enter Saag.func19, Saag.ntmps19
  go_wp2
  go_loop [3] (fun i => ∃ k : Nat, k ≤ n ∧ i = .int .i64 k ∧ Hid (∀ j, j < k → xs.getD j 0 = 0)) (fun i => n - (intOf i).toNat)
  case atStart => exact ⟨0, by omega, rfl, hide (fun j hj => absurd hj (by omega))⟩
  case round =>
    obtain ⟨k, hk, rfl, hz⟩ := hrel
    by_cases hkn : k = n
    · subst hkn
      have hv : M.val xs.reverse = 0 := by
        rw [← be_val xs k (by rw [unhide Hn]; exact Nat.le_refl _) (unhide hz), unhide Hn]
        simp [M.val]
      have HV := hide hv
      clear hv
      go_wp2
      go_ret
      exact ⟨_, rfl, by rw [unhide HV]; exact Nrm.nil _, Below.refl _ _⟩
    · have hk1 : k < n := by omega
      obtain ⟨b, off, rfl, hc⟩ := hr k (by rw [unhide Hn]; omega)
      by_cases h0 : xs.getD k 0 = 0
      · rw [h0] at hc
        have hz' : Hid (∀ j, j < k + 1 → xs.getD j 0 = 0) := by
          intro j hj
          by_cases e : j = k
          · rw [e]; exact h0
          · exact unhide hz j (by omega)
        clear h0
        go_wp2
        go_round
        case rel => exact ⟨k + 1, by omega, by go_num, hz'⟩
        case measure => simp [intOf]; omega
      · have hx := M.dig_getD hd k
        have HF := hide (be_val xs k (by rw [unhide Hn]; omega) (unhide hz))
        have HG := hide (be_nrml xs k (by rw [unhide Hn]; omega) h0)
        generalize hxx : xs.getD k 0 = x at *
        have hx1 : (((x : Nat) : Int) == 0) = false := by simp; omega
        clear hxx h0 hz
        have hkn' : ((k : Int) == (n : Int)) = false := by simp; omega
        go_wp2_with (at_make; refine wpList_make_bytes _ rfl _ _ 42 rfl Saag.underlying42 _ _ _ _ (n - k) rfl rfl (by omega) (by omega) (by omega) ?_; intro w1 hblk hsz hbel)
        go_loopw [30] (fun i wr => ∃ j : Nat, j ≤ n - k ∧ i = .int .i64 j ∧ Hid (Blk wr w.heap.size (xs.reverse.take j ++ List.replicate (n - k - j) 0)) ∧ Below w.heap.size w wr) (fun i _ => n - k - (intOf i).toNat)
        case atStart => exact ⟨0, by omega, rfl, by simpa using hblk, hbel⟩
        case round =>
          obtain ⟨j, hj, rfl, hb, hbe⟩ := hrel
          by_cases hjn : j < n - k
          · have hlj : (xs.reverse.take j).length = j := by simp; have := unhide Hn; omega
            obtain ⟨z, hcj⟩ : ∃ z, wr.cell? ⟨w.heap.size, j, none⟩ = some z := ⟨_, (unhide hb).cell j (by rw [List.length_append, hlj]; simp; omega)⟩
            have hfj := (unhide hb).frozen j
            obtain ⟨b', off', e', hcs⟩ := (hr.below hbe (Nat.le_refl _)) (n - 1 - j) (by rw [unhide Hn]; omega)
            cases e'
            have hset := (unhide hb).set j (xs.reverse.getD j 0) (x := ((xs.getD (n - 1 - j) 0 : Nat) : Int)) (by rw [M.getD_reverse _ _ (by rw [unhide Hn]; omega), unhide Hn])
            have e1 := M.set_app (xs.reverse.take j) (n - k) (xs.reverse.getD j 0) (by omega)
            rw [hlj] at e1
            rw [e1] at hset
            have e2 : xs.reverse.take j ++ [xs.reverse.getD j 0] = xs.reverse.take (j + 1) := by
              rw [List.take_succ_eq_append_getElem (by simp; have := unhide Hn; omega), M.getD_lt _ _ (by simp; have := unhide Hn; omega)]
            rw [e2] at hset
            have HS := hide hset
            clear hset e1 e2 hlj hc
            generalize xs.getD (n - 1 - j) 0 = y at *
            go_wp2
            go_roundw
            case rel => exact ⟨j + 1, by omega, by go_num, HS, hbe.setCell (Nat.le_refl _) _⟩
            case measure => simp [intOf]; omega
          · have hje : j = n - k := by omega
            subst hje
            have hN : Nrm wr (.slice (some ⟨w.heap.size, 0, none⟩) (n - k) (n - k)) (M.val xs.reverse) := by
              have hb' := unhide hb
              rw [Nat.sub_self, List.replicate_zero, List.append_nil] at hb'
              have h1 := unhide HF
              have h2 := unhide HG
              rw [unhide Hn] at h1 h2
              have hl : (xs.reverse.take (n - k)).length = n - k := by simp; have := unhide Hn; omega
              exact ⟨_, ⟨_, _, _, rfl, hl, Nat.le_refl _, M.dig_take (dig_reverse hd) _, hb'.row⟩, h1, h2, fun h => by rw [h] at hl; simp at hl; omega⟩
            have HN := hide hN
            clear hN hc
            go_wp2
            go_ret
            exact ⟨_, rfl, HN, hbe⟩

end Go.Proofs.Ygcsaa
