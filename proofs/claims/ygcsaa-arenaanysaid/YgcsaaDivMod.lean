import Derived.Test.YgcsaaTake
import Derived.Test.YgcsaaCmp
import Derived.Test.YgcsaaDivMath
namespace Go.Proofs.Ygcsaa
open Go.RowKit
set_option linter.unusedSimpArgs false
set_option linter.unusedVariables false

/-- The remainder as DivMod answers it: nought for a division by nought. -/
def modz (A B : Nat) : Nat := if B = 0 then 0 else A % B

/-- What holds at the head of DivMod's loop, p bits being left. -/
def DivSt (wr : World) (g1 g2 A B k1 k2 : Nat) (qs rs : List Nat) (p : Nat) : Prop :=
  qs.length = k1 ∧ M.Dig qs ∧ rs.length = k2 + 1 ∧ M.Dig rs ∧ Blk wr g1 qs ∧ Blk wr g2 rs ∧ M.DivInv A B p (M.val qs) (M.val rs)

/-- What holds at the head of the doubling's loop. -/
def DblSt (wr : World) (g1 g2 : Nat) (qs rs zs : List Nat) (j c c0 : Nat) : Prop :=
  zs.length = j ∧ M.Dig zs ∧ M.val zs + 256 ^ j * c = 2 * M.val (rs.take j) + c0 ∧ Blk wr g2 (zs ++ rs.drop j) ∧ Blk wr g1 qs

theorem dbl_round (wr : World) (g1 g2 : Nat) (qs rs zs : List Nat) (j c c0 : Nat) (h : DblSt wr g1 g2 qs rs zs j c c0) (hc : c ≤ 1) (hd : rs.getD j 0 < 256) (hj : j < rs.length) (hne : g1 ≠ g2) :
    DblSt (wr.setCell ⟨g2, j, none⟩ (.int .u8 (((rs.getD j 0 : Nat) : Int) * 2 % 256 + (c : Int)))) g1 g2 qs rs (zs ++ [2 * rs.getD j 0 % 256 + c]) (j + 1) (rs.getD j 0 / 128) c0 := by
  obtain ⟨h1, h2, h3, h4, h5⟩ := h
  obtain ⟨e1, e2⟩ := M.dbl_step rs zs j c c0 h1 h2 h3 hc hd
  refine ⟨by simp [h1], e1, e2, ?_, h5.other hne _⟩
  have := h4.set j (2 * rs.getD j 0 % 256 + c) (x := (((rs.getD j 0 : Nat) : Int) * 2 % 256 + (c : Int))) (by generalize rs.getD j 0 = d at *; omega)
  rw [drop_set zs rs j _ h1 hj] at this
  exact this

theorem dbl_done (wr : World) (g1 g2 : Nat) (qs rs zs : List Nat) (c c0 k B : Nat) (h : DblSt wr g1 g2 qs rs zs (k + 1) c c0) (hl : rs.length = k + 1) (hc0 : c0 ≤ 1) (hR : M.val rs < B) (hB : B < 256 ^ k) :
    M.val zs = 2 * M.val rs + c0 ∧ Blk wr g2 zs := by
  obtain ⟨h1, h2, h3, h4, h5⟩ := h
  rw [List.take_of_length_le (by omega)] at h3
  rw [List.drop_eq_nil_of_le (by omega), List.append_nil] at h4
  refine ⟨?_, h4⟩
  rw [Nat.pow_succ] at h3
  by_cases hc : c = 0
  · subst hc; omega
  · exfalso
    have : 256 ^ k * 256 * 1 ≤ 256 ^ k * 256 * c := Nat.mul_le_mul_left _ (by omega)
    omega

theorem and_one (x r : Nat) (hx : x < 256) : bits BinOp.and IntKind.u8 ((x : Int) / 2 ^ r) 1 = ((x / 2 ^ r % 2 : Nat) : Int) := by
  have e : ((x : Int) / 2 ^ r) = ((x / 2 ^ r : Nat) : Int) := by simp
  have hle : x / 2 ^ r ≤ x := Nat.div_le_self _ _
  rw [e]
  have := u8_and_nat (x / 2 ^ r) 1 (by omega) (by omega)
  rw [nat_mask1] at this
  exact this

theorem bit_same {a b : Nat} (h : decide (a % 2 = 1) = decide (b % 2 = 1)) : a % 2 = b % 2 := by
  have h1 : (a % 2 = 1) ↔ (b % 2 = 1) := by
    rw [← decide_eq_true_iff (p := a % 2 = 1), h, decide_eq_true_iff]
  omega

theorem or_bit (d r : Nat) (hr : r < 8) (hd : d < 256) (h : d % 2 ^ (r + 1) = 0) : bits BinOp.or IntKind.u8 (d : Int) (2 ^ r % 256) = ((d + 2 ^ r : Nat) : Int) := by
  have hs := M.pow2_small r hr
  have h1 := u8_or_nat d (2 ^ r) hd hs
  rw [nat_join (r + 1) d (2 ^ r) h (Nat.pow_lt_pow_right (by omega) (by omega))] at h1
  have e : ((2 : Int) ^ r % 256) = ((2 ^ r : Nat) : Int) := by
    have e1 : ((2 : Int) ^ r) = ((2 ^ r : Nat) : Int) := by simp
    rw [e1]
    clear e1 h1
    generalize 2 ^ r = z at *
    omega
  rw [e, h1]

/-- The quotient with bit p laid. -/
theorem quo_set {qs : List Nat} (hd : M.Dig qs) (q p : Nat) (hv : M.val qs = q * 2 ^ (p + 1)) (hp : p / 8 < qs.length) :
    M.Dig (qs.set (p / 8) (qs.getD (p / 8) 0 + 2 ^ (p % 8))) ∧ M.val (qs.set (p / 8) (qs.getD (p / 8) 0 + 2 ^ (p % 8))) = M.val qs + 2 ^ p := by
  have h1 := M.digit_clear hd q p hv
  refine ⟨M.dig_set hd _ _ (M.clear_room _ _ (by omega) (M.dig_getD hd _) h1), ?_⟩
  rw [M.val_set_add _ _ _ hp, M.pow_256, ← Nat.pow_add]
  congr 2
  omega

theorem or_low (d c : Nat) (hd : d < 256) (hc : c ≤ 1) : bits BinOp.or IntKind.u8 ((d : Int) * 2 % 256) (c : Int) = (d : Int) * 2 % 256 + (c : Int) := by
  have h1 := u8_or_nat (d * 2 % 256) c (by omega) (by omega)
  rw [nat_join 1 (d * 2 % 256) c (by omega) (by omega)] at h1
  have e : ((d : Int) * 2 % 256) = ((d * 2 % 256 : Nat) : Int) := by simp
  rw [e, h1]
  simp

set_option maxRecDepth 10000 in
set_option maxHeartbeats 400000 in
theorem divmod_any (ao bo : Option Addr) (n m cap cap' : Nat) (xs ys : List Nat) (w : World) (hn : xs.length = n) (hm : ys.length = m) (hcap : n ≤ cap) (hcap' : m ≤ cap') (hmax : n ≤ 1000) (hmax' : m ≤ 1000)
    (hd : M.Dig xs) (hd' : M.Dig ys) (hr : Row w ao xs) (hr' : Row w bo ys) :
    Calls Saag.prog 50 #[.slice ao n cap, .slice bo m cap'] w fun e w' => ∃ q r ok, e = .returned (.tuple #[q, r, .bool ok]) ∧ Nrm w' q (M.val xs / M.val ys) ∧ Nrm w' r (modz (M.val xs) (M.val ys)) ∧ Below w.heap.size w w' := by
  have va := M.val_tr xs
  have vb := M.val_tr ys
  have da := M.dig_tr hd
  have db := M.dig_tr hd'
  have nb := M.nrml_tr ys
  have la := M.tr_len xs
  have lb := M.tr_len ys
  have ra : Row w ao (M.tr xs) := by rw [M.tr_take]; exact hr.take _
  have rb : Row w bo (M.tr ys) := by rw [M.tr_take]; exact hr'.take _
  have T1 := hide (trim_any ao n cap xs w hn hcap (by omega) hd hr)
  have T2 := hide (trim_any bo m cap' ys w hm hcap' (by omega) hd' hr')
  rw [← va, ← vb]
  generalize M.tr xs = as1 at *
  generalize M.tr ys = bs1 at *
  clear va vb hr hr' hd hd'
  subst hn
  subst hm
  have hla : as1.length ≤ 1000 := by omega
  have hlb : bs1.length ≤ 1000 := by omega
  clear la lb hmax hmax' hcap hcap'
  generalize xs.length = n at *
  generalize ys.length = m at *
  go_enter Saag.func50, Saag.ntmps50
  go_wp2_with fail
  refine (unhide T1).mono ?_
  rintro e w' ⟨rfl, rfl⟩
  go_wp2_with fail
  refine (unhide T2).mono ?_
  rintro e w' ⟨rfl, rfl⟩
  clear T1 T2
  generalize hk1 : as1.length = k1 at *
  generalize hk2 : bs1.length = k2 at *
  have Hk1 := hide hk1
  have Hk2 := hide hk2
  clear hk1 hk2
  by_cases h0 : k2 = 0
  · subst h0
    have hb0 : bs1 = [] := List.eq_nil_of_length_eq_zero (unhide Hk2)
    go_wp2
    go_ret3
    refine ⟨_, _, _, rfl, ?_, ?_, Below.refl _ _⟩
    · subst hb0; simp only [M.val, Nat.div_zero]; exact Nrm.nil _
    · subst hb0; simp only [M.val, modz, if_true]; exact Nrm.nil _
  · have h1 : (((k2 : Nat) : Int) == 0) = false := by simp; omega
    have hBpos : 0 < M.val bs1 := by
      have := M.val_ge nb (fun e => h0 (by rw [← unhide Hk2, e]; rfl))
      have h2 : 0 < 256 ^ (bs1.length - 1) := Nat.pow_pos (by omega)
      omega
    have hBlt : M.val bs1 < 256 ^ k2 := by have := M.val_lt db; rwa [unhide Hk2] at this
    have hAlt : M.val as1 < 2 ^ (8 * k1) := by have := M.val_lt da; rwa [unhide Hk1, M.pow_256] at this
    have HBlt := hide hBlt
    have HAlt := hide hAlt
    have HBpos := hide hBpos
    clear hBlt hAlt hBpos nb
    obtain ⟨bb, boff, rfl, hcb0⟩ := rb 0 (by rw [unhide Hk2]; omega)
    have hbb : bb < w.heap.size := World.block_lt_of_cell? w _ hcb0
    clear hcb0
    go_wp2_with (at_make; (first | (refine wpList_make_bytes _ rfl (.tmp 23) _ 42 rfl Saag.underlying42 _ _ _ _ k1 rfl rfl rfl rfl (by omega) ?_; intro w1 hblk1 hsz1 hbel1) | (refine wpList_make_bytes _ rfl (.tmp 27) _ 42 rfl Saag.underlying42 _ _ _ _ (k2 + 1) rfl rfl (by omega) (by omega) (by omega) ?_; intro w2 hblk2 hsz2 hbel2)))
    have hg2 : w.heap.size < w1.heap.size := by rw [unhide hsz1]; omega
    have hq0 : Blk w2 w.heap.size (List.replicate k1 0) := (unhide hblk1).below hbel2 hg2
    have hr0 : Blk w2 w1.heap.size (List.replicate (k2 + 1) 0) := unhide hblk2
    have hbe0 : Below w.heap.size w w2 := hbel1.trans (hbel2.mono (Nat.le_of_lt hg2))
    have Hst : Hid (DivSt w2 w.heap.size w1.heap.size (M.val as1) (M.val bs1) k1 k2 (List.replicate k1 0) (List.replicate (k2 + 1) 0) (8 * k1)) := by
      refine ⟨by simp, M.dig_replicate_zero _, by simp, M.dig_replicate_zero _, hq0, hr0, ?_⟩
      rw [M.val_replicate_zero, M.val_replicate_zero]
      exact M.divInv_start _ _ _ (unhide HBpos) (unhide HAlt)
    clear hq0 hr0 hblk1 hblk2 hsz1 hsz2 hbel1 hbel2
    generalize w1.heap.size = g2 at *
    go_loopw [9] (fun i wr => ∃ (p : Nat) (qs rs : List Nat), p ≤ 8 * k1 ∧ i = .int .i64 p ∧ Hid (DivSt wr w.heap.size g2 (M.val as1) (M.val bs1) k1 k2 qs rs p) ∧ Below w.heap.size w wr) (fun i _ => (intOf i).toNat)
    case atStart => exact ⟨8 * k1, _, _, Nat.le_refl _, by go_num, Hst, hbe0⟩
    case round =>
      obtain ⟨p, qs, rs, hp, rfl, hs, hbe⟩ := hrel
      clear Hst hbe0
      by_cases hp0 : p = 0
      · subst hp0
        obtain ⟨s1, s2, s3, s4, s5, s6, s7⟩ := unhide hs
        obtain ⟨r1, r2⟩ := M.divInv_end _ _ _ _ s7
        have S1 := hide s1
        have S3 := hide s3
        have S5 := hide s5
        have S6 := hide s6
        have R1 := hide r1
        have R2 := hide r2
        clear s1 s3 s5 s6 s7 hs r1 r2
        go_wp2_with fail
        refine (clip_any (some ⟨w.heap.size, 0, none⟩) k1 k1 qs wr (unhide S1) (Nat.le_refl _) (by omega) s2 (unhide S5).row).mono ?_
        rintro e w' ⟨v, rfl, hN1, rfl⟩
        go_wp2_with fail
        refine (clip_any (some ⟨g2, 0, none⟩) (k2 + 1) (k2 + 1) rs wr (unhide S3) (Nat.le_refl _) (by omega) s4 (unhide S6).row).mono ?_
        rintro e w' ⟨v2, rfl, hN2, rfl⟩
        go_wp2
        go_ret3
        refine ⟨_, _, _, rfl, ?_, ?_, hbe⟩
        · rw [unhide R1] at hN1; exact hN1
        · rw [unhide R2] at hN2
          rw [modz, if_neg (by have := unhide HBpos; omega)]
          exact hN2
      · obtain ⟨p, rfl⟩ : ∃ j, p = j + 1 := ⟨p - 1, by omega⟩
        obtain ⟨b, off, e1, hca⟩ := (ra.below hbe (Nat.le_refl _)) (p / 8) (by rw [unhide Hk1]; omega)
        obtain rfl := e1
        have hx := M.dig_getD da (p / 8)
        have hbit := M.val_bit da p
        rw [Nat.testBit_eq_decide_div_mod_eq] at hbit
        have hand := and_one (as1.getD (p / 8) 0) (p % 8) hx
        rw [← bit_same hbit] at hand
        have hc0 : M.val as1 / 2 ^ p % 2 ≤ 1 := by omega
        generalize hcc0 : M.val as1 / 2 ^ p % 2 = c0 at *
        have Hc0 := hide hcc0
        clear hcc0 hbit
        generalize as1.getD (p / 8) 0 = x at *
        obtain ⟨s1, s2, s3, s4, s5, s6, s7⟩ := unhide hs
        have Hdbl : Hid (DblSt wr w.heap.size g2 qs rs [] 0 c0 c0) := ⟨rfl, by intro x hx; simp at hx, by simp [M.val], by simpa using s6, s5⟩
        have S1 := hide s1
        have S3 := hide s3
        have S7 := hide s7
        clear s1 s3 s5 s6 s7 hs
        go_wp2
        go_loopw [12, 52] (fun c i wq => ∃ (j cc : Nat) (zs : List Nat), j ≤ k2 + 1 ∧ i = .int .i64 j ∧ c = .int .u8 cc ∧ cc ≤ 1 ∧ Hid (DblSt wq w.heap.size g2 qs rs zs j cc c0) ∧ Below w.heap.size w wq) (fun _ i _ => k2 + 1 - (intOf i).toNat)
        case atStart => exact ⟨0, c0, [], by omega, rfl, rfl, hc0, Hdbl, hbe⟩
        case round =>
          obtain ⟨j, cc, zs, hj, rfl, rfl, hcc, hz, hbq⟩ := hrel
          clear hand hca Hdbl hbe
          by_cases hjn : j < k2 + 1
          · have hcj := (unhide hz).2.2.2.1.cell j (by rw [List.length_append, (unhide hz).1, List.length_drop, unhide S3]; omega)
            rw [drop_getD zs rs j (unhide hz).1] at hcj
            have hfj := (unhide hz).2.2.2.1.frozen j
            have hd := M.dig_getD s4 j
            have hstep := hide (dbl_round wr w.heap.size g2 qs rs zs j cc c0 (unhide hz) hcc hd (by rw [unhide S3]; omega) (by omega))
            clear hz
            generalize rs.getD j 0 = d at *
            have hor := or_low d cc hd hcc
            go_wp2
            go_roundw
            case rel => exact ⟨j + 1, d / 128, _, by omega, by go_num, by go_num, by omega, hstep, hbq.setCell (by show _ ≤ g2; omega) _⟩
            case measure => simp [intOf]; omega
          · have hje : j = k2 + 1 := by omega
            subst hje
            obtain ⟨qq, q1, q2, q3⟩ := unhide S7
            have hdn := dbl_done wr w.heap.size g2 qs rs zs cc c0 k2 (M.val bs1) (unhide hz) (unhide S3) hc0 q2 (unhide HBlt)
            obtain ⟨z1, z2, _, _, z5⟩ := unhide hz
            have Z1 := hide z1
            have Z5 := hide z5
            have Hdn := hide hdn
            have Q1 := hide q1
            clear z1 z5 hdn q1 q2 q3 hz
            go_wp2_with fail
            refine (cmp_any (some ⟨g2, 0, none⟩) (some ⟨bb, boff, none⟩) (k2 + 1) k2 (k2 + 1) k2 zs bs1 wr (unhide Z1) (unhide Hk2) (Nat.le_refl _) (Nat.le_refl _) (by omega) (by omega) z2 db (unhide Hdn).2.row (rb.below hbq (Nat.le_refl _))).mono ?_
            rintro e w' ⟨rfl, q, rfl⟩
            have hbd : Below w.heap.size w (wr.drewN q) := (Upd.drewN wr q g2).below hbq (by omega)
            by_cases hlt : M.val zs < M.val bs1
            · rw [cmpI_lt hlt]
              have Hnew : Hid (DivSt (wr.drewN q) w.heap.size g2 (M.val as1) (M.val bs1) k1 k2 qs zs p) := by
                refine ⟨unhide S1, s2, unhide Z1, z2, unhide Z5, (unhide Hdn).2, ?_⟩
                rw [(unhide Hdn).1] at hlt ⊢
                rw [← unhide Hc0] at hlt ⊢
                exact M.divInv_less _ _ _ _ _ (unhide S7) hlt
              clear hlt
              go_wp2
              go_roundw
              case rel => exact ⟨p, qs, zs, by omega, by go_num, Hnew, hbd⟩
              case measure => simp [intOf]
            · have hge : 0 ≤ cmpI (M.val zs) (M.val bs1) := by
                by_cases he : M.val bs1 < M.val zs
                · rw [cmpI_gt he]; omega
                · rw [cmpI_eq (by omega)]; omega
              have Hlt := hide hlt
              generalize cmpI (M.val zs) (M.val bs1) = cv at *
              clear hlt
              go_wp2_with fail
              refine (take_any g2 (k2 + 1) (k2 + 1) k2 k2 (some ⟨bb, boff, none⟩) zs bs1 (wr.drewN q) (unhide Z1) (unhide Hk2) (by omega) (Nat.le_refl _) (Nat.le_refl _) (by omega) z2 db (unhide Hdn).2 (rb.below hbd (Nat.le_refl _)) (by intro _ a ha; cases ha; show bb ≠ g2; omega)).mono ?_
              rintro e w3 ⟨bw, rfl, hbw, hu, zs3, t1, t2, t3, t4⟩
              rw [unhide Z1] at t1 t3
              have hb3 : Below w.heap.size w w3 := hu.below hbd (by omega)
              have hq3 : Blk w3 w.heap.size qs := (show Blk (wr.drewN q) w.heap.size qs from unhide Z5).upd hu (by omega)
              have hpl : p / 8 < qs.length := by rw [unhide S1]; omega
              have hcq := hq3.cell (p / 8) hpl
              have hfq := hq3.frozen (p / 8)
              have hclr := M.digit_clear s2 qq p (unhide Q1)
              have hdq := M.dig_getD s2 (p / 8)
              have hoq := or_bit (qs.getD (p / 8) 0) (p % 8) (by omega) hdq hclr
              obtain ⟨n1, n2⟩ := quo_set s2 qq p (unhide Q1) hpl
              have Hnew : Hid (DivSt (w3.setCell ⟨w.heap.size, p / 8, none⟩ (.int .u8 ((qs.getD (p / 8) 0 + 2 ^ (p % 8) : Nat) : Int))) w.heap.size g2 (M.val as1) (M.val bs1) k1 k2 (qs.set (p / 8) (qs.getD (p / 8) 0 + 2 ^ (p % 8))) zs3 p) := by
                have hz3 : M.val zs3 = 2 * M.val rs + M.val as1 / 2 ^ p % 2 - M.val bs1 := by
                  have e1 := (unhide Hdn).1
                  rw [← unhide Hc0] at e1
                  have e2 := unhide Hlt
                  have e3 := M.val_lt t2
                  rw [t1] at e3
                  by_cases hb0 : bw = 0
                  · subst hb0; omega
                  · have : bw = 1 := by omega
                    subst this; omega
                refine ⟨by simp; exact unhide S1, n1, t1, t2, hq3.set _ _ rfl, t4.other (by show g2 ≠ w.heap.size; omega) _, ?_⟩
                rw [n2, hz3]
                refine M.divInv_more _ _ _ _ _ (unhide S7) ?_
                have e1 := (unhide Hdn).1
                rw [← unhide Hc0] at e1
                have e2 := unhide Hlt
                omega
              clear t1 t2 t3 t4 n1 n2 hclr hq3 hpl
              generalize qs.getD (p / 8) 0 + 2 ^ (p % 8) = e9 at *
              generalize qs.getD (p / 8) 0 = d9 at *
              go_wp2
              go_roundw
              case rel => exact ⟨p, _, zs3, by omega, by go_num, Hnew, hb3.setCell (Nat.le_refl _) _⟩
              case measure => simp [intOf]

end Go.Proofs.Ygcsaa
