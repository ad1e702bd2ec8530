import Derived.Test.YgcsaaSigned
namespace Go.Proofs.Ygcsaa
open Go.RowKit
set_option linter.unusedSimpArgs false
set_option linter.unusedVariables false

theorem lt100_muladd {Q Y R : Nat} (hQ : Q < M.W) (hY : Y < M.W) (hR : R < M.W) : Q * Y + R < 256 ^ 100 := by
  have h1 : Q * Y + R ≤ M.W * M.W := by
    have h2 : Q * Y ≤ Q * M.W := Nat.mul_le_mul_left _ (Nat.le_of_lt hY)
    have h3 : (Q + 1) * M.W ≤ M.W * M.W := Nat.mul_le_mul_right _ hQ
    rw [Nat.add_mul, Nat.one_mul] at h3
    omega
  exact Nat.lt_of_le_of_lt h1 M.WW_lt

theorem Nrm.form {w : World} {v : Value} {N : Nat} (h : Nrm w v N) (hN : N < M.W) : ∃ ao n cap, v = .slice ao n cap ∧ n ≤ 32 ∧ ao.isNone = decide (N = 0) := by
  obtain ⟨ao, n, cap, e, h1, _, _⟩ := h.len32 hN
  refine ⟨ao, n, cap, e, h1, ?_⟩
  by_cases h0 : N = 0
  · subst h0
    have := h.zero
    rw [this] at e
    cases e
    rfl
  · obtain ⟨b, off, n', cap', xs, e', _⟩ := h.pos h0
    rw [e'] at e
    cases e
    simp [h0]

set_option maxRecDepth 10000 in
set_option maxHeartbeats 1000000 in
theorem signedHolds_zero {vx vy vq vr : Value} {X : Nat} {w : World} (hx : Nrm w vx X) (hy : Nrm w vy 0) (hq : Nrm w vq 0) (hr : Nrm w vr 0) :
    Calls Saag.prog 22 #[vx, vy, vq, vr] w fun e w' => e = .returned (.bool true) ∧ Below w.heap.size w w' := by
  have q42 : ∀ (w : World) (a : Option Addr) (n c n' c' : Nat), (binOp .eql 42 (.slice a n c) (.slice none n' c')).run Saag.prog w = .ok (.bool a.isNone) w := fun w a n c n' c' => Lib.run_eql_slice_nil w _ _ a n c n' c' Saag.underlying42
  obtain rfl := hq.zero
  obtain rfl := hr.zero
  obtain rfl := hy.zero
  have h0 : (0 : Nat) < 256 ^ 100 := M.lt100_lt M.W_pos
  have T1 := hide (normal_nrm hq h0)
  have T2 := hide (cmp_num (Num.nil w) (Num.nil w))
  rw [cmpI_eq rfl] at T2
  go_enter Saag.func22, Saag.ntmps22
  go_wp2_with fail
  refine (unhide T1).mono ?_
  rintro e w' ⟨rfl, rfl⟩
  go_wp2_with fail
  refine (unhide T1).mono ?_
  rintro e w' ⟨rfl, rfl⟩
  go_wp2_with fail
  refine (unhide T2).mono ?_
  rintro e w1 ⟨rfl, hb1⟩
  go_wp2
  go_ret
  exact ⟨rfl, hb1⟩

set_option maxRecDepth 10000 in
set_option maxHeartbeats 2000000 in
theorem signedHolds_pos {vx vy vq vr : Value} {X Y Q R : Nat} {w : World} (hx : Nrm w vx X) (hy : Nrm w vy Y) (hq : Nrm w vq Q) (hr : Nrm w vr R) (hX : X < M.W) (hY : Y < M.W) (hQ : Q < M.W) (hR : R < M.W) (hY0 : Y ≠ 0)
    (f1 : (Q * Y + R) % M.W = X) (f2 : mgL R < mgL Y) (f3 : R = 0 ∨ sgL R = sgL X) (f4 : mgL Q * mgL Y ≤ mgL X) (f5 : Q = 0 ∨ sgL Q = (sgL X != sgL Y) ∨ (X = Hf ∧ sgL Y = true ∧ mgL Y = 1)) :
    Calls Saag.prog 22 #[vx, vy, vq, vr] w fun e w' => e = .returned (.bool true) ∧ Below w.heap.size w w' := by
  have q42 : ∀ (w : World) (a : Option Addr) (n c n' c' : Nat), (binOp .eql 42 (.slice a n c) (.slice none n' c')).run Saag.prog w = .ok (.bool a.isNone) w := fun w a n c n' c' => Lib.run_eql_slice_nil w _ _ a n c n' c' Saag.underlying42
  have p42 : ∀ (w : World) (a : Option Addr) (n c n' c' : Nat), (binOp .neq 42 (.slice a n c) (.slice none n' c')).run Saag.prog w = .ok (.bool (!a.isNone)) w := fun w a n c n' c' => run_neq_slice_nil_any w _ _ a n c n' c' Saag.underlying42
  have Q42 := hide q42
  have P42 := hide p42
  clear q42 p42
  have F1 := hide f1
  have F2 := hide f2
  have F3 := hide f3
  have F4 := hide f4
  have F5 := hide f5
  clear f1 f2 f3 f4 f5
  have Hhx := hide hx
  have nx := hx.num (M.lt100_lt hX)
  have ny := hy.num (M.lt100_lt hY)
  have nq := hq.num (M.lt100_lt hQ)
  have nr := hr.num (M.lt100_lt hR)
  have T1 := hide (normal_nrm hq (M.lt100_lt hQ))
  have T2 := hide (normal_nrm hr (M.lt100_lt hR))
  have T3 := hide (cmp_num ny (Num.nil w))
  rw [cmpI_gt (Nat.pos_of_ne_zero hY0)] at T3
  have S1 := hide (fun w (h : Nrm w vx X) => signOf_num h hX)
  have S2 := hide (fun w (h : Nrm w vy Y) => signOf_num h hY)
  have S3 := hide (fun w (h : Nrm w vq Q) => signOf_num h hQ)
  have S4 := hide (fun w (h : Nrm w vr R) => signOf_num h hR)
  have mX := mgL_le hX
  have mY := mgL_le hY
  have mQ := mgL_le hQ
  have mR := mgL_le hR
  have hHW : Hf ≤ M.W := by have := W_Hf; omega
  obtain ⟨aq, lq, cq, rfl, hlq, hnq⟩ := hq.form hQ
  obtain ⟨ar, lr, cr, rfl, hlr, hnr⟩ := hr.form hR
  have Hnq := hide hnq
  have Hnr := hide hnr
  clear hnq hnr
  go_enter Saag.func22, Saag.ntmps22
  go_wp2_with fail
  refine (unhide T1).mono ?_
  rintro e w' ⟨rfl, rfl⟩
  go_wp2_with fail
  refine (unhide T2).mono ?_
  rintro e w' ⟨rfl, rfl⟩
  go_wp2_with fail
  refine (unhide T3).mono ?_
  rintro e w1 ⟨rfl, hb1⟩
  clear T1 T2 T3
  go_wp2_with fail
  refine (mul_num (nq.later hb1) (ny.later hb1)).mono ?_
  rintro e w2 ⟨v2, rfl, hv2, hb2⟩
  have hB2 := bstep hb1 hb2
  go_wp2_with fail
  refine (add_num (hv2.num (M.lt100_mul (Nat.le_of_lt hQ) (Nat.le_of_lt hY))) (nr.later hB2)).mono ?_
  rintro e w3 ⟨v3, rfl, hv3, hb3⟩
  have hB3 := bstep hB2 hb3
  go_wp2_with fail
  refine (modPow_num (hv3.num (lt100_muladd hQ hY hR))).mono ?_
  rintro e w4 ⟨v4, rfl, hv4, hb4⟩
  have hB4 := bstep hB3 hb4
  rw [unhide F1] at hv4
  go_wp2_with fail
  refine (cmp_num (hv4.num (M.lt100_lt hX)) (nx.later hB4)).mono ?_
  rintro e w5 ⟨rfl, hb5⟩
  rw [cmpI_eq rfl]
  have hB5 := bstep hB4 hb5
  clear hB2 hB3 hB4 hb1 hb2 hb3 hb4 hb5 hv2 hv3 hv4
  go_wp2_with fail
  refine (unhide S1 w5 (hx.later hB5)).mono ?_
  rintro e w6 ⟨ux, rfl, hux, hb6⟩
  have hB6 := bstep hB5 hb6
  clear hB5
  go_wp2_with fail
  refine (unhide S2 w6 (hy.later hB6)).mono ?_
  rintro e w7 ⟨uy, rfl, huy, hb7⟩
  have hB7 := bstep hB6 hb7
  have hux7 := hux.later hb7
  clear hB6 hux
  go_wp2_with fail
  refine (unhide S3 w7 (hq.later hB7)).mono ?_
  rintro e w8 ⟨uq, rfl, huq, hb8⟩
  have hB8 := bstep hB7 hb8
  have hux8 := hux7.later hb8
  have huy8 := huy.later hb8
  clear hB7 hux7 huy
  go_wp2_with fail
  refine (unhide S4 w8 (hr.later hB8)).mono ?_
  rintro e w9 ⟨ur, rfl, hur, hb9⟩
  have hB9 := bstep hB8 hb9
  have hux9 := hux8.later hb9
  have huy9 := huy8.later hb9
  have huq9 := huq.later hb9
  clear hB8 hux8 huy8 huq hb6 hb7 hb8 hb9 S1 S2 S3 S4
  generalize sgL X = sX at *
  generalize sgL Y = sY at *
  generalize sgL Q = sQ at *
  generalize sgL R = sR at *
  generalize mgL X = MX at *
  generalize mgL Y = MY at *
  generalize mgL Q = MQ at *
  generalize mgL R = MR at *
  go_wp2_with fail
  refine (cmp_num (hur.num (M.lt100_le (Nat.le_trans mR hHW))) (huy9.num (M.lt100_le (Nat.le_trans mY hHW)))).mono ?_
  rintro e w10 ⟨rfl, hb10⟩
  rw [cmpI_lt (unhide F2)]
  have hB10 := bstep hB9 hb10
  have hux10 := hux9.later hb10
  have huy10 := huy9.later hb10
  have huq10 := huq9.later hb10
  clear hB9 hux9 huy9 huq9 hb10 hur
  have hcmp : ¬ 0 < cmpI (MQ * MY) MX := by
    by_cases he : MQ * MY < MX
    · rw [cmpI_lt he]; omega
    · rw [cmpI_eq (by have := unhide F4; omega)]; omega
  have Hcmp := hide hcmp
  clear hcmp
  have hrest : ∀ b : Bool, b = false → b = false := fun b h => h
  clear hrest
  have q42 := unhide Q42
  have p42 := unhide P42
  have hnr : ar.isNone = true ∨ (ar.isNone = false ∧ sX = sR) := by
    by_cases hr0 : R = 0
    · left; rw [unhide Hnr]; simp [hr0]
    · right
      refine ⟨by rw [unhide Hnr]; simp [hr0], ?_⟩
      rcases unhide F3 with h | h
      · exact absurd h hr0
      · exact h.symm
  have Hf5 : Hid (aq.isNone = true ∨ (aq.isNone = false ∧ (sQ == (sX != sY)) = true) ∨ (aq.isNone = false ∧ X = Hf ∧ sY = true ∧ MY = 1)) := by
    by_cases hq0 : Q = 0
    · left; rw [unhide Hnq]; simp [hq0]
    · right
      have hn : aq.isNone = false := by rw [unhide Hnq]; simp [hq0]
      rcases unhide F5 with h | h | h
      · exact absurd h hq0
      · left; exact ⟨hn, by rw [h]; simp⟩
      · right; exact ⟨hn, h⟩
  clear Q42 P42 F1 F2 F3 F4 F5 Hnq Hnr Hhx
  rcases hnr with hnr | ⟨hnr, rfl⟩
  all_goals
    go_wp2_with fail
    refine (mul_num (huq10.num (M.lt100_le (Nat.le_trans mQ hHW))) (huy10.num (M.lt100_le (Nat.le_trans mY hHW)))).mono ?_
    rintro e w11 ⟨v11, rfl, hv11, hb11⟩
    have hux11 := hux10.later hb11
    have huy11 := huy10.later hb11
    have hB11 := bstep hB10 hb11
    go_wp2_with fail
    refine (cmp_num (hv11.num (M.lt100_mul (Nat.le_trans mQ hHW) (Nat.le_trans mY hHW))) (hux11.num (M.lt100_le (Nat.le_trans mX hHW)))).mono ?_
    rintro e w12 ⟨rfl, hb12⟩
    have hcmp := unhide Hcmp
    generalize cmpI (MQ * MY) MX = cv at *
    have huy12 := huy11.later hb12
    have hB12 := bstep hB11 hb12
    clear hB10 hux10 huy10 huq10 hB11 hux11 huy11 hb11 hb12 hv11
    go_wp2_with fail
    refine (pow255_num _).mono ?_
    rintro e w13 ⟨vh, rfl, hvh, hb13⟩
    rw [Hf_eq] at hvh
    have hB13 := bstep hB12 hb13
    have huy13 := huy12.later hb13
    go_wp2_with fail
    refine (cmp_num (nx.later hB13) (hvh.num (M.lt100_le hHW))).mono ?_
    rintro e w14 ⟨rfl, hb14⟩
    have hB14 := bstep hB13 hb14
    have huy14 := huy13.later hb14
    clear hB12 huy12 hB13 huy13 hb13 hb14 hvh
    by_cases hXH : X = Hf
    · rw [cmpI_eq hXH]
      cases sY
      · rcases unhide Hf5 with hnq | ⟨hnq, hfin⟩ | ⟨_, _, h, _⟩
        · go_wp2
          go_ret
          exact ⟨rfl, hB14⟩
        · cases sX <;> cases sQ
          all_goals first
            | exact absurd hfin (by decide)
            | (clear hfin
               go_wp2
               go_ret
               exact ⟨rfl, hB14⟩)
        · exact absurd h (by simp)
      · have hM1 : MY < 256 ^ 100 := M.lt100_le (Nat.le_trans mY hHW)
        have H1 : Hid ((aq.isNone = false ∧ (sQ == (sX != true)) = false) → MY = 1) := by
          rintro ⟨h1, h2⟩
          rcases unhide Hf5 with h | ⟨_, h⟩ | ⟨_, _, _, h⟩
          · rw [h1] at h; exact absurd h (by decide)
          · rw [h2] at h; exact absurd h (by decide)
          · exact h
        clear Hf5 hXH
        go_wp2_with fail
        refine (cmp_num ((huy14.later (below_alloc w14 (.cells #[.int .u8 1] 5))).num hM1) ((nrm_one w14).num (M.lt100_le M.W_pos))).mono ?_
        rintro e w15 ⟨rfl, hb15⟩
        have hB15 := bstep (bstep hB14 (below_alloc w14 (.cells #[.int .u8 1] 5))) hb15
        clear hB14 hb15 huy14
        by_cases hMY : MY = 1
        · rw [cmpI_eq hMY]
          clear H1 hMY
          cases hnq : aq.isNone
          · go_wp2
            go_ret
            exact ⟨rfl, hB15⟩
          · go_wp2
            go_ret
            exact ⟨rfl, hB15⟩
        · have hne : (cmpI MY 1 == 0) = false := by
            rw [cmpI_zero]
            simp [hMY]
          generalize cmpI MY 1 = cy at *
          cases hnq : aq.isNone
          · cases sX <;> cases sQ
            all_goals first
              | exact absurd (unhide H1 ⟨hnq, by decide⟩) hMY
              | (clear H1 hMY
                 go_wp2
                 go_ret
                 exact ⟨rfl, hB15⟩)
          · clear H1 hMY
            go_wp2
            go_ret
            exact ⟨rfl, hB15⟩
    · have hne : (cmpI X Hf == 0) = false := by
        rw [cmpI_zero]
        simp [hXH]
      generalize cmpI X Hf = cx at *
      rcases unhide Hf5 with hnq | ⟨hnq, hfin⟩ | ⟨_, h, _, _⟩
      · clear hXH Hf5
        go_wp2
        go_ret
        exact ⟨rfl, hB14⟩
      · clear hXH Hf5
        cases sX <;> cases sY <;> cases sQ
        all_goals first
          | exact absurd hfin (by decide)
          | (clear hfin
             go_wp2
             go_ret
             exact ⟨rfl, hB14⟩)
      · exact absurd h hXH

end Go.Proofs.Ygcsaa
