import Derived.Test.YgcsaaNum
namespace Go.Proofs.Ygcsaa
open Go.RowKit
set_option linter.unusedSimpArgs false
set_option linter.unusedVariables false

theorem nrm_one (w : World) : Nrm (w.alloc (.cells #[.int .u8 1] 5)) (.slice (some ⟨w.heap.size, 0, none⟩) 1 1) 1 := by
  have hb : Blk (w.alloc (.cells #[.int .u8 1] 5)) w.heap.size [1] := by
    unfold Blk
    rw [heap_alloc_new]
    rfl
  exact ⟨[1], ⟨_, _, _, rfl, rfl, Nat.le_refl _, M.dig_one (by omega), hb.row⟩, rfl, rfl, fun h => absurd h (by simp)⟩

theorem below_alloc (w : World) (o : Obj) : Below w.heap.size w (w.alloc o) := (Below.refl _ _).alloc (Nat.le_refl _) _

theorem pow_step (A E i : Nat) : A ^ (E / 2 ^ i) % M.W = (A ^ (E / 2 ^ (i + 1)) % M.W) * (A ^ (E / 2 ^ (i + 1)) % M.W) % M.W * A ^ (E / 2 ^ i % 2) % M.W := by
  conv => lhs; rw [M.div_bit E i]
  rw [Nat.pow_add, Nat.two_mul, Nat.pow_add]
  simp [Nat.mul_mod]

theorem pow_odd (A E i : Nat) (h : E / 2 ^ i % 2 = 1) : A ^ (E / 2 ^ i) % M.W = (A ^ (E / 2 ^ (i + 1)) % M.W) * (A ^ (E / 2 ^ (i + 1)) % M.W) % M.W * A % M.W := by
  rw [pow_step, h, Nat.pow_one]

theorem pow_even (A E i : Nat) (h : E / 2 ^ i % 2 = 0) : A ^ (E / 2 ^ i) % M.W = (A ^ (E / 2 ^ (i + 1)) % M.W) * (A ^ (E / 2 ^ (i + 1)) % M.W) % M.W := by
  rw [pow_step, h, Nat.pow_zero, Nat.mul_one, Nat.mod_mod]

theorem one_mod_W : 1 % M.W = 1 := Nat.mod_eq_of_lt (by
  have h1 := M.W_half
  have h3 : 0 < 2 ^ 255 := Nat.pow_pos (by omega)
  omega)

theorem Nrm.len32 {w : World} {v : Value} {N : Nat} (h : Nrm w v N) (hN : N < M.W) : ∃ ao n cap, v = .slice ao n cap ∧ n ≤ 32 ∧ n ≤ cap ∧ N < 2 ^ (8 * n) := by
  obtain ⟨xs, ⟨ao, n, cap, h1, h2, h3, h4, h5⟩, h6, h7, h8⟩ := h
  refine ⟨ao, n, cap, h1, ?_, h3, ?_⟩
  · rw [← h2]
    exact nrml_len h7 (by rw [h6, M.W_256]; exact hN)
  · rw [← h2, ← M.pow_256, ← h6]
    exact M.val_lt h4

set_option maxRecDepth 10000 in
set_option maxHeartbeats 400000 in
theorem power_num {va vb : Value} {A E : Nat} {w : World} (ha : Num w va A) (hb : Nrm w vb E) (hA : A < M.W) (hE : E < M.W) :
    Calls Saag.prog 57 #[va, vb] w fun e w' => ∃ v, e = .returned v ∧ Nrm w' v (A ^ E % M.W) ∧ Below w.heap.size w w' := by
  obtain ⟨bo, L, cap, rfl, hL, hcap, hlt⟩ := hb.len32 hE
  have hbn := hb.num (M.lt100_lt hE)
  have Hst : Hid (Nrm (w.alloc (.cells #[.int .u8 1] 5)) (.slice (some ⟨w.heap.size, 0, none⟩) 1 1) (A ^ (E / 2 ^ (8 * L)) % M.W)) := by
    rw [Nat.div_eq_of_lt hlt, Nat.pow_zero, one_mod_W]
    exact nrm_one w
  have Hbe := below_alloc w (.cells #[.int .u8 1] 5)
  clear hlt hb
  go_enter Saag.func57, Saag.ntmps57
  go_wp2
  go_loopw [5, 6] (fun p i wr => ∃ k : Nat, k ≤ 8 * L ∧ i = .int .i64 k ∧ Hid (Nrm wr p (A ^ (E / 2 ^ k) % M.W)) ∧ Below w.heap.size w wr) (fun _ i _ => (intOf i).toNat)
  case atStart => exact ⟨8 * L, Nat.le_refl _, by go_num, Hst, Hbe⟩
  case round =>
    rename_i u5 _
    obtain ⟨k, hk, rfl, hp, hbe⟩ := hrel
    clear Hst Hbe
    by_cases hk0 : k = 0
    · subst hk0
      have hp' : Hid (Nrm wr u5 (A ^ E % M.W)) := by
        have := unhide hp
        rw [Nat.pow_zero, Nat.div_one] at this
        exact this
      clear hp
      go_wp2
      go_ret
      exact ⟨_, rfl, hp', hbe⟩
    · obtain ⟨k, rfl⟩ : ∃ j, k = j + 1 := ⟨k - 1, by omega⟩
      have hP : A ^ (E / 2 ^ (k + 1)) % M.W < M.W := Nat.mod_lt _ M.W_pos
      have Hodd := hide (pow_odd A E k)
      have Heven := hide (pow_even A E k)
      generalize A ^ (E / 2 ^ (k + 1)) % M.W = P at *
      have hpn := (unhide hp).num (M.lt100_lt hP)
      clear hp
      go_wp2_with fail
      refine (mul_num hpn hpn).mono ?_
      rintro e w1 ⟨v1, rfl, hv1, hb1⟩
      go_wp2_with fail
      refine (wrapped_num (hv1.num (M.lt100_mul (Nat.le_of_lt hP) (Nat.le_of_lt hP)))).mono ?_
      rintro e w2 ⟨v2, rfl, hv2, hb2⟩
      have hbe2 : Below w.heap.size w w2 := (hbe.trans (hb1.mono hbe.size)).trans (hb2.mono (Nat.le_trans hbe.size hb1.size))
      have hk16 : k ≤ 2000 := by omega
      go_wp2_with fail
      refine (bit_num k (hbn.later hbe2) hk16).mono ?_
      rintro e w' ⟨rfl, rfl⟩
      have hQ : P * P % M.W < M.W := Nat.mod_lt _ M.W_pos
      cases hbit : E.testBit k
      · have he : E / 2 ^ k % 2 = 0 := by
          rw [Nat.testBit_eq_decide_div_mod_eq] at hbit
          simp at hbit
          omega
        have Hnew := hide (unhide Heven he)
        clear Hodd Heven he hbit
        go_wp2
        go_roundw
        case rel => exact ⟨k, by omega, by go_num, by rw [unhide Hnew]; exact hv2, hbe2⟩
        case measure => simp [intOf]
      · have he : E / 2 ^ k % 2 = 1 := by
          rw [Nat.testBit_eq_decide_div_mod_eq] at hbit
          simpa using hbit
        have Hnew := hide (unhide Hodd he)
        clear Hodd Heven he hbit
        generalize P * P % M.W = Q at *
        go_wp2_with fail
        refine (mul_num (hv2.num (M.lt100_lt hQ)) (ha.later hbe2)).mono ?_
        rintro e w3 ⟨v3, rfl, hv3, hb3⟩
        go_wp2_with fail
        refine (wrapped_num (hv3.num (M.lt100_mul (Nat.le_of_lt hQ) (Nat.le_of_lt hA)))).mono ?_
        rintro e w4 ⟨v4, rfl, hv4, hb4⟩
        have hbe4 : Below w.heap.size w w4 := (hbe2.trans (hb3.mono hbe2.size)).trans (hb4.mono (Nat.le_trans hbe2.size hb3.size))
        go_wp2
        go_roundw
        case rel => exact ⟨k, by omega, by go_num, by rw [unhide Hnew]; exact hv4, hbe4⟩
        case measure => simp [intOf]

end Go.Proofs.Ygcsaa
