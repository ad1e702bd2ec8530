import Derived.Test.YgcsaaSgnMath
import Derived.Lib.SliceRun
namespace Go.Proofs.Ygcsaa
open Go.RowKit
set_option linter.unusedSimpArgs false
set_option linter.unusedVariables false

theorem nrml_top {xs : List Nat} (n : M.Nrml xs) (h : xs.length ≠ 0) : xs.getD (xs.length - 1) 0 ≠ 0 := by
  intro hz
  have h1 := tr_step_zero xs xs.length h (Nat.le_refl _) hz
  rw [List.take_of_length_le (Nat.le_refl _)] at h1
  unfold M.Nrml at n
  have h2 := M.tr_len (xs.take (xs.length - 1))
  rw [← h1, n, List.length_take] at h2
  omega

theorem Nrm.zero {w : World} {v : Value} (h : Nrm w v 0) : v = .slice none 0 0 := by
  obtain ⟨xs, _, h2, h3, h4⟩ := h
  apply h4
  have := M.val_zero_tr xs h2
  unfold M.Nrml at h3
  rw [← h3]
  exact this

theorem Nrm.pos {w : World} {v : Value} {N : Nat} (h : Nrm w v N) (h0 : N ≠ 0) : ∃ b off n cap xs, v = .slice (some ⟨b, off, none⟩) n cap ∧ xs.length = n ∧ 0 < n ∧ n ≤ cap ∧ M.Dig xs ∧ Row w (some ⟨b, off, none⟩) xs ∧ M.val xs = N ∧ M.Nrml xs := by
  obtain ⟨xs, ⟨ao, n, cap, h1, h2, h3, h4, h5⟩, h6, h7, h8⟩ := h
  have hn : 0 < n := by
    cases xs with
    | nil => exfalso; apply h0; rw [← h6]; rfl
    | cons a b => rw [← h2]; simp
  obtain ⟨b, off, e, _⟩ := h5 0 (by omega)
  subst e
  exact ⟨b, off, n, cap, xs, h1, h2, hn, h3, h4, h5, h6, h7⟩

set_option maxRecDepth 10000 in
set_option maxHeartbeats 400000 in
theorem normal_nrm {v : Value} {N : Nat} {w : World} (h : Nrm w v N) (hN : N < 256 ^ 100) :
    Calls Saag.prog 64 #[v] w fun e w' => e = .returned (.bool true) ∧ w = w' := by
  have q41 : ∀ (w : World) (a : Option Addr) (n c n' c' : Nat), (binOp .eql 41 (.slice a n c) (.slice none n' c')).run Saag.prog w = .ok (.bool a.isNone) w := fun w a n c n' c' => Lib.run_eql_slice_nil w _ _ a n c n' c' Saag.underlying41
  by_cases h0 : N = 0
  · subst h0
    obtain rfl := h.zero
    go_enter Saag.func64, Saag.ntmps64
    go_wp2
    go_ret
    exact ⟨rfl, rfl⟩
  · obtain ⟨b, off, n, cap, xs, rfl, hn, hpos, hcap, dx, rx, rfl, nx⟩ := h.pos h0
    have hl := nrml_len nx hN
    rw [hn] at hl
    have ht := nrml_top nx (by omega)
    rw [hn] at ht
    obtain ⟨k, rfl⟩ : ∃ k, n = k + 1 := ⟨n - 1, by omega⟩
    rw [Nat.add_sub_cancel] at ht
    obtain ⟨b', off', e, hc⟩ := rx k (by omega)
    cases e
    have hx := M.dig_getD dx k
    generalize xs.getD k 0 = x at *
    have hx1 : (((x : Nat) : Int) != 0) = true := by simp; omega
    have h1 : (((k : Int) + 1) == 0) = false := by simp; omega
    clear hn
    go_enter Saag.func64, Saag.ntmps64
    go_wp2
    go_ret
    exact ⟨rfl, rfl⟩

set_option maxRecDepth 10000 in
set_option maxHeartbeats 400000 in
theorem signOf_num {v : Value} {N : Nat} {w : World} (h : Nrm w v N) (hN : N < M.W) :
    Calls Saag.prog 65 #[v] w fun e w' => ∃ u, e = .returned (.tuple #[u, .bool (sgL N)]) ∧ Nrm w' u (mgL N) ∧ Below w.heap.size w w' := by
  have hW := W_Hf
  have hH : Hf < 256 ^ 100 := M.lt100_le (by omega)
  have hn := h.num (M.lt100_lt hN)
  have T1 := hide (pow255_num w)
  rw [Hf_eq] at T1
  by_cases hlt : N < Hf
  · have e1 : sgL N = false := decide_eq_false (by omega)
    have e2 : mgL N = N := if_pos hlt
    have e3 := cmpI_lt hlt
    rw [e1, e2]
    clear e1 e2 hlt hN hW
    go_enter Saag.func65, Saag.ntmps65
    go_wp2_with fail
    refine (unhide T1).mono ?_
    rintro e w1 ⟨v1, rfl, hv1, hb1⟩
    go_wp2_with fail
    refine (cmp_num (hn.later hb1) (hv1.num hH)).mono ?_
    rintro e w2 ⟨rfl, hb2⟩
    rw [e3]
    go_wp2
    go_ret2
    exact ⟨_, rfl, (h.later hb1).later hb2, bstep hb1 hb2⟩
  · have e1 : sgL N = true := decide_eq_true (by omega)
    have e2 : mgL N = M.W - N := if_neg hlt
    have e3 : ¬ cmpI N Hf < 0 := by
      by_cases he : Hf < N
      · rw [cmpI_gt he]; omega
      · rw [cmpI_eq (by omega)]; omega
    have hle : N ≤ M.W := Nat.le_of_lt hN
    rw [e1, e2]
    clear e1 e2 hlt hN hW
    go_enter Saag.func65, Saag.ntmps65
    go_wp2_with fail
    refine (unhide T1).mono ?_
    rintro e w1 ⟨v1, rfl, hv1, hb1⟩
    go_wp2_with fail
    refine (cmp_num (hn.later hb1) (hv1.num hH)).mono ?_
    rintro e w2 ⟨rfl, hb2⟩
    generalize cmpI N Hf = cv at *
    have hB2 := bstep hb1 hb2
    go_wp2_with fail
    refine (lessThanAll_num (hn.later hB2) hle).mono ?_
    rintro e w3 ⟨v3, rfl, hv3, hb3⟩
    go_wp2
    go_ret2
    exact ⟨_, rfl, hv3, bstep hB2 hb3⟩

end Go.Proofs.Ygcsaa
