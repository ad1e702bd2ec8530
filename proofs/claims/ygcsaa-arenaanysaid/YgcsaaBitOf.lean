import Derived.Test.YgcsaaOpen
import Derived.Test.YgcsaaSigned
namespace Go.Proofs.Ygcsaa
open Go.RowKit
set_option linter.unusedSimpArgs false
set_option linter.unusedVariables false

/-- Bit i of N; false below nought. -/
def bitZ (N : Nat) (i : Int) : Bool := if 0 ≤ i then N.testBit i.toNat else false

theorem be_bit {xs : List Nat} (hx : xs.length = 32) (dx : M.Dig xs) (i : Nat) (hi : i < 256) : (M.val xs.reverse).testBit i = decide (xs.getD (31 - i / 8) 0 / 2 ^ (i % 8) % 2 = 1) := by
  rw [M.val_bit (dig_reverse dx), M.getD_reverse _ _ (by omega), hx]

theorem cells_get (xs : List Nat) (k : Nat) (h : k < xs.length) : (cellsOf xs)[k]? = some (.int .u8 ((xs.getD k 0 : Nat) : Int)) := by
  simp [cellsOf, h, List.getD_eq_getElem?_getD]

theorem tmod_form (x r : Nat) : (((x : Int) / 2 ^ r).tmod 2 == 1) = decide (x / 2 ^ r % 2 = 1) := by
  have e : ((x : Int) / 2 ^ r) = ((x / 2 ^ r : Nat) : Int) := by simp
  rw [e]
  generalize x / 2 ^ r = y
  rw [Int.tmod_eq_emod_of_nonneg (by omega), Bool.eq_iff_iff]
  simp
  omega

set_option maxRecDepth 10000 in
set_option maxHeartbeats 400000 in
theorem bitOf_num (xs : List Nat) (hx : xs.length = 32) (dx : M.Dig xs) (i : Int) (h0 : -1000 ≤ i) (h1 : i ≤ 1000) (w : World) :
    Calls Saag.prog 68 #[.agg (cellsOf xs), .int .i64 i] w fun e w' => e = .returned (.bool (bitZ (M.val xs.reverse) i)) ∧ w' = w.alloc (.cells (cellsOf xs) 60) := by
  by_cases hn : 0 ≤ i
  · obtain ⟨i, rfl⟩ := Int.eq_ofNat_of_zero_le hn
    have e0 : bitZ (M.val xs.reverse) (i : Int) = (M.val xs.reverse).testBit i := by simp [bitZ]
    by_cases hl : i < 256
    · have hb := be_bit hx dx i hl
      have hc := cells_get xs (31 - i / 8) (by omega)
      have hd := M.dig_getD dx (31 - i / 8)
      generalize xs.getD (31 - i / 8) 0 = x at *
      rw [e0, hb]
      clear e0 hb
      go_enter Saag.func68, Saag.ntmps68
      go_wp2
      go_ret
      exact ⟨by rw [← tmod_form x (i % 8)]; rfl, rfl⟩
    · have hz : (M.val xs.reverse).testBit i = false := by
        apply Nat.testBit_lt_two_pow
        have h2 := be_lt hx dx
        have h3 : 2 ^ 256 ≤ 2 ^ i := Nat.pow_le_pow_right (by omega) (by omega)
        rw [M.W_eq] at h3
        omega
      rw [e0, hz]
      clear e0 hz
      go_enter Saag.func68, Saag.ntmps68
      go_wp2
      go_ret
      exact ⟨rfl, rfl⟩
  · have e0 : bitZ (M.val xs.reverse) i = false := if_neg hn
    rw [e0]
    clear e0
    go_enter Saag.func68, Saag.ntmps68
    go_wp2
    go_ret
    exact ⟨rfl, rfl⟩

/-- A number, 256 standing for all above: what smallOf answers. -/
def small (N : Nat) : Nat := if N < 256 then N else 256

theorem val_ge_digit (l : List Nat) (m : Nat) : 256 ^ m * l.getD m 0 ≤ M.val l := by
  by_cases h : m < l.length
  · have h1 := M.val_split l (m + 1) (by omega)
    have h2 := M.val_take_succ l m
    omega
  · rw [M.getD_ge l m (by omega)]
    omega

theorem be_big {xs : List Nat} (hx : xs.length = 32) (j : Nat) (hj : j < 31) (h : xs.getD j 0 ≠ 0) : ¬ M.val xs.reverse < 256 := by
  have h1 := val_ge_digit xs.reverse (31 - j)
  rw [M.getD_reverse _ _ (by omega), hx] at h1
  have e : 32 - 1 - (31 - j) = j := by omega
  rw [e] at h1
  have h2 : 256 ^ 1 ≤ 256 ^ (31 - j) := Nat.pow_le_pow_right (by omega) (by omega)
  have h3 : 256 ^ (31 - j) * 1 ≤ 256 ^ (31 - j) * xs.getD j 0 := Nat.mul_le_mul_left _ (by omega)
  omega

theorem be_small {xs : List Nat} (hx : xs.length = 32) (h : ∀ j, j < 31 → xs.getD j 0 = 0) : M.val xs.reverse = xs.getD 31 0 := by
  rw [← be_val xs 31 (by omega) h, hx]
  have e := M.val_take_succ xs.reverse 0
  simp only [Nat.zero_add, List.take_zero, M.val, Nat.pow_zero, Nat.one_mul] at e
  show M.val (xs.reverse.take 1) = _
  rw [e, M.getD_reverse _ _ (by omega), hx]

set_option maxRecDepth 10000 in
set_option maxHeartbeats 400000 in
theorem smallOf_num (xs : List Nat) (hx : xs.length = 32) (dx : M.Dig xs) (w : World) :
    Calls Saag.prog 70 #[.agg (cellsOf xs)] w fun e w' => e = .returned (.int .i64 (small (M.val xs.reverse) : Nat)) ∧ w' = w.alloc (.cells (cellsOf xs) 60) := by
  have Hx := hide hx
  have Hbig := hide (fun j hj h => be_big hx j hj h)
  have Hsm := hide (fun h => be_small hx h)
  clear hx
  go_enter Saag.func70, Saag.ntmps70
  go_wp2
  go_loop [7] (fun i => ∃ k : Nat, k ≤ 31 ∧ i = .int .i64 k ∧ Hid (∀ j, j < k → xs.getD j 0 = 0)) (fun i => 31 - (intOf i).toNat)
  case atStart => exact ⟨0, by omega, rfl, hide (fun j hj => absurd hj (by omega))⟩
  case round =>
    obtain ⟨k, hk, rfl, hz⟩ := hrel
    have hc := cells_get xs k (by rw [unhide Hx]; omega)
    have hd := M.dig_getD dx k
    by_cases hk31 : k < 31
    · by_cases h0 : xs.getD k 0 = 0
      · rw [h0] at hc
        have hz' : Hid (∀ j, j < k + 1 → xs.getD j 0 = 0) := by
          intro j hj
          by_cases e : j = k
          · rw [e]; exact h0
          · exact unhide hz j (by omega)
        clear h0 hd
        go_wp2
        go_round
        case rel => exact ⟨k + 1, by omega, by go_num, hz'⟩
        case measure => simp [intOf]; omega
      · have hs : Hid (small (M.val xs.reverse) = 256) := if_neg (unhide Hbig k hk31 h0)
        generalize xs.getD k 0 = x at *
        have hx1 : (((x : Nat) : Int) != 0) = true := by simp; omega
        clear h0
        go_wp2
        go_ret
        exact ⟨by rw [unhide hs]; rfl, rfl⟩
    · have hke : k = 31 := by omega
      subst hke
      have hs : Hid (small (M.val xs.reverse) = xs.getD 31 0) := by
        have h1 := unhide Hsm (unhide hz)
        show small _ = _
        rw [h1, small, if_pos hd]
      generalize xs.getD 31 0 = x at *
      go_wp2
      go_ret
      exact ⟨by rw [unhide hs]; rfl, rfl⟩

end Go.Proofs.Ygcsaa
