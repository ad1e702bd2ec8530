import Derived.Test.YgcsaaBase
namespace Go.Proofs.Ygcsaa
open Go.RowKit
set_option linter.unusedSimpArgs false
set_option linter.unusedVariables false

theorem tr_step_zero (xs : List Nat) (k : Nat) (h0 : k ≠ 0) (hk : k ≤ xs.length) (hz : xs.getD (k - 1) 0 = 0) : M.tr (xs.take k) = M.tr (xs.take (k - 1)) := by
  obtain ⟨j, rfl⟩ : ∃ j, k = j + 1 := ⟨k - 1, by omega⟩
  simp only [Nat.add_sub_cancel] at hz ⊢
  rw [List.take_succ_eq_append_getElem (by omega)]
  rw [M.getD_lt _ _ (by omega)] at hz
  rw [hz, M.tr_snoc_zero]

theorem tr_step_some (xs : List Nat) (k : Nat) (h0 : k ≠ 0) (hk : k ≤ xs.length) (hz : xs.getD (k - 1) 0 ≠ 0) : (M.tr (xs.take k)).length = k := by
  obtain ⟨j, rfl⟩ : ∃ j, k = j + 1 := ⟨k - 1, by omega⟩
  simp only [Nat.add_sub_cancel] at hz
  rw [List.take_succ_eq_append_getElem (by omega)]
  rw [M.getD_lt _ _ (by omega)] at hz
  rw [M.tr_snoc _ _ hz]
  simp; omega

theorem ret_slice {ao : Option Addr} {a b c d : Nat} (h : a = b) (k : c = d) : Ending.returned (.slice ao a c) = .returned (.slice ao b d) := by rw [h, k]

set_option maxHeartbeats 400000 in
theorem trim_any (ao : Option Addr) (n cap : Nat) (xs : List Nat) (w : World) (hn : xs.length = n) (hcap : n ≤ cap) (hmax : n ≤ 100000) (hd : M.Dig xs) (hr : Row w ao xs) :
    Calls Saag.prog 66 #[.slice ao n cap] w fun e w' => e = .returned (.slice ao (M.tr xs).length (M.tr xs).length) ∧ w = w' := by
  have Hn : Hid (xs.length = n) := hn
  clear hn
  go_enter Saag.func66, Saag.ntmps66
  go_wp2
  go_loop [3] (fun i => ∃ k : Nat, k ≤ n ∧ i = .int .i64 k ∧ Hid (M.tr xs = M.tr (xs.take k))) (fun i => (intOf i).toNat)
  case atStart => exact ⟨n, Nat.le_refl _, rfl, by rw [List.take_of_length_le (by have := Hn.out; omega)]; exact rfl⟩
  case round =>
    obtain ⟨k, hk, rfl, ht⟩ := hrel
    by_cases hk0 : k = 0
    · subst hk0
      go_wp2
      go_ret
      have h0 : (M.tr xs).length = 0 := by rw [ht.out]; rfl
      exact ⟨ret_slice h0.symm h0.symm, rfl⟩
    · have hk1 : 0 < k := by omega
      obtain ⟨b, off, rfl, hc⟩ := hr (k - 1) (by have := Hn.out; omega)
      by_cases hz : xs.getD (k - 1) 0 = 0
      · have HS : Hid (M.tr (xs.take k) = M.tr (xs.take (k - 1))) := tr_step_zero xs k hk0 (by have := Hn.out; omega) hz
        rw [hz] at hc
        clear hz
        go_wp2
        go_round
        case rel => exact ⟨k - 1, by omega, by go_num, ht.out.trans HS.out⟩
        case measure => simp [intOf]; omega
      · have HS : Hid ((M.tr xs).length = k) := by rw [ht.out]; exact tr_step_some xs k hk0 (by have := Hn.out; omega) hz
        generalize hx : xs.getD (k - 1) 0 = x at *
        have hx1 : (((x : Nat) : Int) == 0) = false := by simp; omega
        go_wp2
        go_ret
        exact ⟨ret_slice HS.out.symm HS.out.symm, rfl⟩

end Go.Proofs.Ygcsaa
