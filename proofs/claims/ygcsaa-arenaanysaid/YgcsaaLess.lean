import Derived.Test.YgcsaaBitOf
namespace Go.Proofs.Ygcsaa
open Go.RowKit
set_option linter.unusedSimpArgs false
set_option linter.unusedVariables false

theorem lex_lt {xs ys : List Nat} (dx : M.Dig xs) (hl : xs.length = ys.length) (j : Nat) (hj : j < xs.length) (he : ∀ i, i < j → xs.getD i 0 = ys.getD i 0) (h : xs.getD j 0 < ys.getD j 0) : M.val xs.reverse < M.val ys.reverse := by
  refine digit_lt_val (dig_reverse dx) (xs.length - 1 - j) (by simp; omega) (by simp [hl]) ?_ ?_
  · intro k hk
    by_cases hkl : k < xs.length
    · rw [M.getD_reverse _ _ hkl, M.getD_reverse _ _ (by omega), ← hl]
      exact he _ (by omega)
    · rw [M.getD_ge _ _ (by simp; omega), M.getD_ge _ _ (by simp; omega)]
  · rw [M.getD_reverse _ _ (by omega), M.getD_reverse _ _ (by omega), ← hl]
    have e : xs.length - 1 - (xs.length - 1 - j) = j := by omega
    rw [e]
    exact h

theorem lex_eq {xs ys : List Nat} (hl : xs.length = ys.length) (he : ∀ i, i < xs.length → xs.getD i 0 = ys.getD i 0) : xs = ys := by
  apply List.ext_getElem hl
  intro i h1 h2
  have := he i h1
  rwa [M.getD_lt _ _ h1, M.getD_lt _ _ h2] at this

set_option maxRecDepth 10000 in
set_option maxHeartbeats 400000 in
theorem below_any (ao bo : Option Addr) (n cap cap' : Nat) (xs ys : List Nat) (w : World) (hn : xs.length = n) (hm : ys.length = n) (hmax : n ≤ 1000) (dx : M.Dig xs) (dy : M.Dig ys) (rx : Row w ao xs) (ry : Row w bo ys) :
    Calls Saag.prog 93 #[.slice ao n cap, .slice bo n cap'] w fun e w' => e = .returned (.bool (decide (M.val xs.reverse < M.val ys.reverse))) ∧ w = w' := by
  have Hn := hide hn
  have Hm := hide hm
  have Hlt := hide (fun j hj he h => lex_lt dx (hn.trans hm.symm) j hj he h)
  have Hgt := hide (fun j hj he h => lex_lt dy (hm.trans hn.symm) j hj he h)
  have Heq := hide (fun he => lex_eq (hn.trans hm.symm) he)
  clear hn hm
  go_enter Saag.func93, Saag.ntmps93
  go_wp2
  go_loop [9] (fun i => ∃ k : Nat, k ≤ n ∧ i = .int .i64 k ∧ Hid (∀ j, j < k → xs.getD j 0 = ys.getD j 0)) (fun i => n - (intOf i).toNat)
  case atStart => exact ⟨0, by omega, rfl, hide (fun j hj => absurd hj (by omega))⟩
  case round =>
    obtain ⟨k, hk, rfl, hz⟩ := hrel
    by_cases hkn : k < n
    · obtain ⟨b, off, rfl, hca⟩ := rx k (by rw [unhide Hn]; omega)
      obtain ⟨b', off', rfl, hcb⟩ := ry k (by rw [unhide Hm]; omega)
      have hxd := M.dig_getD dx k
      have hyd := M.dig_getD dy k
      by_cases he : xs.getD k 0 = ys.getD k 0
      · have hz' : Hid (∀ j, j < k + 1 → xs.getD j 0 = ys.getD j 0) := by
          intro j hj
          by_cases e : j = k
          · rw [e]; exact he
          · exact unhide hz j (by omega)
        rw [← he] at hcb
        clear he hyd hz
        generalize xs.getD k 0 = x at *
        go_wp2
        go_round
        case rel => exact ⟨k + 1, by omega, by go_num, hz'⟩
        case measure => simp [intOf]; omega
      · have hfin : Hid (decide (M.val xs.reverse < M.val ys.reverse) = decide (xs.getD k 0 < ys.getD k 0)) := by
          show _ = _
          by_cases hlt : xs.getD k 0 < ys.getD k 0
          · rw [decide_eq_true (unhide Hlt k (by rw [unhide Hn]; omega) (unhide hz) hlt), decide_eq_true (by omega)]
          · have := unhide Hgt k (by rw [unhide Hm]; omega) (fun i hi => (unhide hz i hi).symm) (by omega)
            rw [decide_eq_false (by omega), decide_eq_false (by omega)]
        generalize xs.getD k 0 = x at *
        generalize ys.getD k 0 = y at *
        have hne : (((x : Nat) : Int) != ((y : Nat) : Int)) = true := by simp; omega
        clear he hz
        go_wp2
        go_ret
        exact ⟨by rw [unhide hfin]; rfl, rfl⟩
    · have hke : k = n := by omega
      subst hke
      have hfin : Hid (decide (M.val xs.reverse < M.val ys.reverse) = false) := by
        have := unhide Heq (fun i hi => unhide hz i (by rw [unhide Hn] at hi; exact hi))
        rw [this]
        simp [Hid]
      clear hz
      go_wp2
      go_ret
      exact ⟨by rw [unhide hfin]; rfl, rfl⟩

end Go.Proofs.Ygcsaa
