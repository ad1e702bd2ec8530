import Derived.Test.YgcsaaBitw
namespace Go.Proofs.Ygcsaa
open Go.RowKit
set_option linter.unusedSimpArgs false
set_option linter.unusedVariables false

set_option maxRecDepth 10000 in
set_option maxHeartbeats 1000000 in
theorem bitwise_not {va vb : Value} {A B : Nat} {w : World} (ha : Nrm w va A) (hb : Nrm w vb B) (hA : A < M.W) (hB : B < M.W) :
    Calls Saag.prog 61 #[.int .u8 25, va, vb] w fun e w' => ∃ v, e = .returned v ∧ Nrm w' v (M.W - 1 - A) ∧ Below w.heap.size w w' := by
  obtain ⟨ao, n, cap, xs, rfl, hn, hn32, hcap, dx, rx, rfl⟩ := ha.list32 hA
  obtain ⟨bo, m, cap', ys, rfl, hm, hm32, hcap', dy, ry, rfl⟩ := hb.list32 hB
  have Hn := hide hn
  have Hm := hide hm
  clear hn hm ha hb hA hB
  go_enter Saag.func61, Saag.ntmps61
  go_wp2_with (at_make; refine wpList_make_bytes _ rfl _ _ 42 rfl Saag.underlying42 _ _ _ _ 32 rfl rfl rfl rfl (by omega) ?_; intro w1 hblk hsz hbel)
  go_loopw [14] (fun i wr => ∃ (j : Nat) (zs : List Nat), j ≤ 32 ∧ i = .int .i64 j ∧ Hid (BitSt wr w.heap.size (fun x y => 255 - x) xs ys zs j) ∧ Below w.heap.size w wr) (fun i _ => 32 - (intOf i).toNat)
  case atStart => exact ⟨0, [], by omega, rfl, ⟨rfl, by intro x hx; simp at hx, fun k hk => absurd hk (by omega), by simpa using unhide hblk⟩, hbel⟩
  case round =>
    obtain ⟨j, zs, hj, rfl, hz, hbe⟩ := hrel
    by_cases hjn : j < 32
    · obtain ⟨z, hcj⟩ : ∃ z, wr.cell? ⟨w.heap.size, j, none⟩ = some z := ⟨_, (unhide hz).2.2.2.cell j (by rw [List.length_append, (unhide hz).1]; simp; omega)⟩
      have hfj := (unhide hz).2.2.2.frozen j
      have hx := M.dig_getD dx j
      have hy := M.dig_getD dy j
      have hst := hide (bit_round wr w.heap.size (fun x y => 255 - x) xs ys zs j (unhide hz) hjn (not_lt (xs.getD j 0) (ys.getD j 0) hx hy))
      clear hz
      by_cases hjx : j < n
      · obtain ⟨b, off, e1, hca⟩ := (rx.below hbe (Nat.le_refl _)) j (by rw [unhide Hn]; omega)
        obtain rfl := e1
        by_cases hjy : j < m
        · obtain ⟨b', off', e2, hcb⟩ := (ry.below hbe (Nat.le_refl _)) j (by rw [unhide Hm]; omega)
          obtain rfl := e2
          generalize xs.getD j 0 = x at *
          generalize ys.getD j 0 = y at *
          have hrule : bits BinOp.xor IntKind.u8 (if IntKind.u8.signed = true then -1 else IntKind.u8.max) (x : Int) = _ := not_rule x y hx hy
          rw [← hrule] at hst
          clear hrule
          go_wp2
          go_roundw
          case rel => exact ⟨j + 1, _, by omega, by go_num, hst, hbe.setCell (Nat.le_refl _) _⟩
          case measure => simp [intOf]; omega
        · have hy0 : ys.getD j 0 = 0 := M.getD_ge _ _ (by rw [unhide Hm]; omega)
          (first | rw [hy0] at hst | skip)
          clear hy0 hy
          generalize xs.getD j 0 = x at *
          have hrule : bits BinOp.xor IntKind.u8 (if IntKind.u8.signed = true then -1 else IntKind.u8.max) (x : Int) = _ := not_rule x 0 hx (by omega)
          rw [← hrule] at hst
          clear hrule
          go_wp2
          go_roundw
          case rel => exact ⟨j + 1, _, by omega, by go_num, hst, hbe.setCell (Nat.le_refl _) _⟩
          case measure => simp [intOf]; omega
      · have hx0 : xs.getD j 0 = 0 := M.getD_ge _ _ (by rw [unhide Hn]; omega)
        rw [hx0] at hst
        clear hx0 hx
        by_cases hjy : j < m
        · obtain ⟨b', off', e2, hcb⟩ := (ry.below hbe (Nat.le_refl _)) j (by rw [unhide Hm]; omega)
          obtain rfl := e2
          generalize ys.getD j 0 = y at *
          have hrule : bits BinOp.xor IntKind.u8 (if IntKind.u8.signed = true then -1 else IntKind.u8.max) 0 = _ := not_rule 0 y (by omega) hy
          rw [← hrule] at hst
          clear hrule
          go_wp2
          go_roundw
          case rel => exact ⟨j + 1, _, by omega, by go_num, hst, hbe.setCell (Nat.le_refl _) _⟩
          case measure => simp [intOf]; omega
        · have hy0 : ys.getD j 0 = 0 := M.getD_ge _ _ (by rw [unhide Hm]; omega)
          (first | rw [hy0] at hst | skip)
          clear hy0 hy
          go_wp2
          go_roundw
          case rel => exact ⟨j + 1, _, by omega, by go_num, hst, hbe.setCell (Nat.le_refl _) _⟩
          case measure => simp [intOf]; omega
    · have hje : j = 32 := by omega
      subst hje
      obtain ⟨h1, h2, h3, h4⟩ := unhide hz
      rw [Nat.sub_self, List.replicate_zero, List.append_nil] at h4
      have hv := not_val xs ys zs dx (by have := unhide Hn; omega) h1 h3
      have H1 := hide h1
      have H4 := hide h4
      have HV := hide hv
      clear h1 h3 h4 hv hz
      go_wp2_with fail
      refine (norm_any (some ⟨w.heap.size, 0, none⟩) 32 32 zs wr (unhide H1) (by omega) (by omega) h2 (unhide H4).row).mono ?_
      rintro e w2 ⟨v, rfl, hv2⟩
      go_wp2
      go_ret
      obtain ⟨g1, g2⟩ := hv2.nrm h2
      refine ⟨_, rfl, ?_, hbe.trans (g2.mono hbe.size)⟩
      rw [unhide HV] at g1
      exact g1

end Go.Proofs.Ygcsaa
