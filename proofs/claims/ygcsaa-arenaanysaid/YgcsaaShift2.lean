import Derived.Test.YgcsaaShift
namespace Go.Proofs.Ygcsaa
open Go.RowKit
set_option linter.unusedSimpArgs false
set_option linter.unusedVariables false

/-- Byte A of B, counted from the most significant of 32. -/
def byteN (A B : Nat) : Nat := if A < 32 then B / 256 ^ (31 - A) % 256 else 0

theorem nrm_digit {w w' : World} {v : Value} {x : Nat} (hx : x < 256) (h : NormOut w w' v (M.tr [x])) : Nrm w' v x ∧ Below w.heap.size w w' := by
  have := h.nrm (M.dig_one hx)
  simpa [M.val] using this

theorem blk_one (w : World) (x : Nat) : Blk (w.alloc (.cells #[.int .u8 (x : Int)] 5)) w.heap.size [x] := by
  unfold Blk
  rw [heap_alloc_new]
  rfl

set_option maxRecDepth 10000 in
set_option maxHeartbeats 400000 in
theorem pickedByte_num {va vb : Value} {A B : Nat} {w : World} (ha : Num w va A) (hb : Nrm w vb B) (hB : B < M.W) :
    Calls Saag.prog 62 #[va, vb] w fun e w' => ∃ v, e = .returned v ∧ Nrm w' v (byteN A B) ∧ Below w.heap.size w w' := by
  have T1 := hide (u64_num ha)
  obtain ⟨bo, m, cap', ys, rfl, hm, hm32, hcap', dy, ry, rfl⟩ := hb.list32 hB
  have Hm := hide hm
  clear hm hB hb
  by_cases h8 : A < 256 ^ 8
  · rw [if_pos h8, decide_eq_true h8] at T1
    have h8' : A < 18446744073709551616 := h8
    clear h8
    by_cases h32 : A < 32
    · have Hd : Hid (byteN A (M.val ys) = ys.getD (31 - A) 0) := by
        rw [byteN, if_pos h32, M.val_digit dy]; exact rfl
      by_cases hl : 31 - A < m
      · obtain ⟨b, off, rfl, hc⟩ := ry (31 - A) (by rw [unhide Hm]; exact hl)
        have hx := M.dig_getD dy (31 - A)
        generalize ys.getD (31 - A) 0 = x at *
        go_enter Saag.func62, Saag.ntmps62
        go_wp2_with fail
        refine (unhide T1).mono ?_
        rintro e w' ⟨rfl, rfl⟩
        go_wp2_with fail
        refine (norm_any (some ⟨w.heap.size, 0, none⟩) 1 1 [x] _ rfl (by omega) (by omega) (M.dig_one hx) (blk_one w x).row).mono ?_
        rintro e w1 ⟨v, rfl, hv⟩
        go_wp2
        go_ret
        obtain ⟨g1, g2⟩ := nrm_digit hx hv
        exact ⟨_, rfl, by rw [unhide Hd]; exact g1, bstep (below_alloc _ _) g2⟩
      · have hz : ys.getD (31 - A) 0 = 0 := M.getD_ge _ _ (by rw [unhide Hm]; omega)
        rw [hz] at Hd
        clear hz
        go_enter Saag.func62, Saag.ntmps62
        go_wp2_with fail
        refine (unhide T1).mono ?_
        rintro e w' ⟨rfl, rfl⟩
        go_wp2
        go_ret
        exact ⟨_, rfl, by rw [unhide Hd]; exact Nrm.nil _, Below.refl _ _⟩
    · have Hd : Hid (byteN A (M.val ys) = 0) := by rw [byteN, if_neg h32]; exact rfl
      go_enter Saag.func62, Saag.ntmps62
      go_wp2_with fail
      refine (unhide T1).mono ?_
      rintro e w' ⟨rfl, rfl⟩
      go_wp2
      go_ret
      exact ⟨_, rfl, by rw [unhide Hd]; exact Nrm.nil _, Below.refl _ _⟩
  · have Hd : Hid (byteN A (M.val ys) = 0) := by
      rw [byteN, if_neg (by have : (256 : Nat) ^ 8 = 18446744073709551616 := by decide
                            omega)]; exact rfl
    rw [if_neg h8, decide_eq_false h8] at T1
    clear h8
    go_enter Saag.func62, Saag.ntmps62
    go_wp2_with fail
    refine (unhide T1).mono ?_
    rintro e w' ⟨rfl, rfl⟩
    go_wp2
    go_ret
    exact ⟨_, rfl, by rw [unhide Hd]; exact Nrm.nil _, Below.refl _ _⟩

end Go.Proofs.Ygcsaa
