import Derived.Test.YgcsaaBitsT
namespace Go.Proofs.Ygcsaa
open Go.RowKit
set_option linter.unusedSimpArgs false
set_option linter.unusedVariables false

theorem bits_num {vg : Value} {w : World} (xs ys : List Nat) (hx : xs.length = 32) (hy : ys.length = 32) (dx : M.Dig xs) (dy : M.Dig ys) (o i : Nat) (hi : i ≤ 255) (hg : Nrm w vg (aluN o (M.val xs.reverse) (M.val ys.reverse) 0)) :
    Calls Saag.prog 27 #[.int .u8 (o : Int), .agg (cellsOf xs), .agg (cellsOf ys), .int .u8 (i : Int), vg] w fun e w' => e = .returned (.bool true) ∧ Below w.heap.size w w' := by
  have hA := be_lt hx dx
  have hB := be_lt hy dy
  have hs := small_le (M.val xs.reverse)
  by_cases h22 : o = 22
  · subst h22
    exact bits_22 xs ys hx hy dx dy i hi hg (Nat.and_lt_two_pow _ (n := 256) hB) (Nat.testBit_and _ _ _)
  by_cases h23 : o = 23
  · subst h23
    exact bits_23 xs ys hx hy dx dy i hi hg (Nat.or_lt_two_pow (n := 256) hA hB) (Nat.testBit_or _ _ _)
  by_cases h24 : o = 24
  · subst h24
    exact bits_24 xs ys hx hy dx dy i hi hg (Nat.xor_lt_two_pow (n := 256) hA hB) (Nat.testBit_xor _ _ _)
  by_cases h25 : o = 25
  · subst h25
    exact bits_25 xs ys hx hy dx dy i hi hg (not_lt_W _) ((bit_not hA i).trans (by rw [decide_eq_true (by omega : i < 256), Bool.true_and]))
  by_cases h27 : o = 27
  · subst h27
    exact bits_27 xs ys hx hy dx dy i hi hg (Nat.mod_lt _ M.W_pos) _ (fun w => moved_27 ys hy dy _ i hs hi w) (bit_shl i hi)
  by_cases h28 : o = 28
  · subst h28
    exact bits_28 xs ys hx hy dx dy i hi hg (div_le_W hB) _ (fun w => moved_28 ys hy dy _ i hs hi w) (bit_shr i)
  by_cases h29 : o = 29
  · subst h29
    have hb := bit_sar (A := M.val xs.reverse) hB i hi
    by_cases hl : i + small (M.val xs.reverse) ≤ 255
    · rw [if_pos hl] at hb
      exact bits_29 xs ys hx hy dx dy i hi hg (sar_lt hB) _ (fun w => moved_29a ys hy dy _ i hs hi hl w) hb
    · rw [if_neg hl] at hb
      exact bits_29 xs ys hx hy dx dy i hi hg (sar_lt hB) _ (fun w => moved_29b ys hy dy _ i hs hi (by omega) w) hb
  by_cases h11 : o = 11
  · subst h11
    by_cases h31 : M.val xs.reverse < 31
    · have hb := bit_sext (B := M.val ys.reverse) h31 i hi
      have hs31 : small (M.val xs.reverse) < 31 := (small_lt (by omega)).2 h31
      have e := small_eq (A := M.val xs.reverse) (by omega)
      by_cases hl : i ≤ 8 * M.val xs.reverse + 7
      · rw [if_pos hl, ← bitZ_nat] at hb
        exact bits_11 xs ys hx hy dx dy i hi hg (sext_lt hB) _ (fun w => moved_11a ys hy dy _ i hs hi hs31 (by omega) w) hb
      · rw [if_neg hl] at hb
        refine bits_11 xs ys hx hy dx dy i hi hg (sext_lt hB) _ (fun w => moved_11b ys hy dy _ i hs hi hs31 (by omega) w) (hb.trans ?_)
        rw [e, ← bitZ_nat]
        rfl
    · have hs31 : ¬ small (M.val xs.reverse) < 31 := fun h => h31 ((small_lt (by omega)).1 h)
      have hb : (sextN (M.val xs.reverse) (M.val ys.reverse)).testBit i = bitZ (M.val ys.reverse) (i : Int) := by
        rw [bitZ_nat, sextN, if_neg h31]
      exact bits_11 xs ys hx hy dx dy i hi hg (sext_lt hB) _ (fun w => moved_11c ys hy dy _ i hs hi (by omega) w) hb
  by_cases h26 : o = 26
  · subst h26
    by_cases h32 : M.val xs.reverse < 32
    · have hb := bit_byte (B := M.val ys.reverse) h32 i
      have hs32 : small (M.val xs.reverse) < 32 := (small_lt (by omega)).2 h32
      have e := small_eq (A := M.val xs.reverse) (by omega)
      by_cases hl : i < 8
      · rw [decide_eq_true hl, Bool.true_and] at hb
        refine bits_26 xs ys hx hy dx dy i hi hg byte_lt _ (fun w => moved_26a ys hy dy _ i hs hi hs32 hl w) (hb.trans ?_)
        have e2 : ((8 * (31 - M.val xs.reverse) + i : Nat) : Int) = 8 * (31 - ((small (M.val xs.reverse) : Nat) : Int)) + (i : Int) := by omega
        rw [← e2, bitZ_nat]
      · rw [decide_eq_false hl, Bool.false_and] at hb
        exact bits_26 xs ys hx hy dx dy i hi hg byte_lt _ (fun w => moved_26b ys _ i hs hi hs32 (by omega) w) hb
    · have hs32 : ¬ small (M.val xs.reverse) < 32 := fun h => h32 ((small_lt (by omega)).1 h)
      have hb : (byteN (M.val xs.reverse) (M.val ys.reverse)).testBit i = false := by
        rw [byteN, if_neg h32, Nat.zero_testBit]
      exact bits_26 xs ys hx hy dx dy i hi hg byte_lt _ (fun w => moved_26c ys _ i hs hi (by omega) w) hb
  by_cases h16 : o = 16
  · subst h16
    exact bits_16 xs ys hx hy dx dy i hi hg (tv_lt _) _ (fun w => compared_16 xs ys hx hy dx dy w) (bit_tv _ i)
  by_cases h17 : o = 17
  · subst h17
    exact bits_17 xs ys hx hy dx dy i hi hg (tv_lt _) _ (fun w => compared_17 xs ys hx hy dx dy w) (bit_tv _ i)
  by_cases h18 : o = 18
  · subst h18
    exact bits_18 xs ys hx hy dx dy i hi hg (tv_lt _) _ (fun w => compared_18 xs ys hx hy dx dy w) (bit_tv _ i)
  by_cases h19 : o = 19
  · subst h19
    exact bits_19 xs ys hx hy dx dy i hi hg (tv_lt _) _ (fun w => compared_19 xs ys hx hy dx dy w) (bit_tv _ i)
  by_cases h20 : o = 20
  · subst h20
    exact bits_20 xs ys hx hy dx dy i hi hg (tv_lt _) _ (fun w => compared_20 xs ys hx hy dx dy w) (bit_tv _ i)
  by_cases h21 : o = 21
  · subst h21
    exact bits_21 xs ys hx hy dx dy i hi hg (tv_lt _) _ (fun w => compared_21 xs ys hx hy dx dy w) (bit_tv _ i)
  exact bits_other xs ys o i h22 h23 h24 h25 h27 h28 h29 h11 h26 h16 h17 h18 h19 h20 h21

end Go.Proofs.Ygcsaa
