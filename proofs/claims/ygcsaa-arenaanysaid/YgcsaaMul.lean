import Derived.Test.YgcsaaTake
namespace Go.Proofs.Ygcsaa
open Go.RowKit
set_option linter.unusedSimpArgs false
set_option linter.unusedVariables false

theorem tail_getD (zs xs : List Nat) (p j : Nat) (h : zs.length = p) : (zs ++ xs.drop j).getD p 0 = xs.getD j 0 := by
  simp only [List.getD_eq_getElem?_getD]
  rw [List.getElem?_append_right (by omega), h, Nat.sub_self, List.getElem?_drop]
  simp

theorem tail_set (zs xs : List Nat) (p j d : Nat) (h : zs.length = p) (hj : j < xs.length) : (zs ++ xs.drop j).set p d = (zs ++ [d]) ++ xs.drop (j + 1) := by
  rw [List.set_append_right _ _ (by omega), h, Nat.sub_self, List.drop_eq_getElem_cons hj, List.set_cons_zero]
  simp

/-- What holds in Mul's inner loop. -/
def MulIn (wr : World) (g : Nat) (lo tail bs nd : List Nat) (i j c x : Nat) : Prop :=
  nd.length = j ∧ M.Dig nd ∧ M.val nd + 256 ^ j * c = M.val (tail.take j) + x * M.val (bs.take j) ∧ lo.length = i ∧ Blk wr g ((lo ++ nd) ++ tail.drop j)

/-- One round of Mul's inner loop. -/
theorem mul_step (wr : World) (g : Nat) (lo tail bs nd : List Nat) (i j c x : Nat) (h : MulIn wr g lo tail bs nd i j c x) (hj : j < tail.length) (ht : tail.getD j 0 < 256) (hx : x < 256) (hy : bs.getD j 0 < 256) (hc : c ≤ 255) :
    ∃ (c' : Nat) (nd' : List Nat), ((c : Int) + ((x : Int) * (bs.getD j 0 : Nat) + (tail.getD j 0 : Nat))) / 256 = (c' : Int) ∧ c' ≤ 255 ∧
      MulIn (wr.setCell ⟨g, i + j, none⟩ (.int .u8 (((c : Int) + ((x : Int) * (bs.getD j 0 : Nat) + (tail.getD j 0 : Nat))) % 256))) g lo tail bs nd' i (j + 1) c' x := by
  obtain ⟨h1, h2, h3, h4, h5⟩ := h
  unfold MulIn
  rw [M.val_take_succ tail j, M.val_take_succ bs j]
  generalize tail.getD j 0 = t at *
  generalize bs.getD j 0 = y at *
  have hxy : x * y ≤ 255 * 255 := Nat.mul_le_mul (by omega) (by omega)
  have e0 : ((c : Int) + ((x : Int) * (y : Int) + (t : Int))) = ((c + (x * y + t) : Nat) : Int) := by simp
  rw [e0]
  generalize hp : x * y = p at *
  refine ⟨(c + (p + t)) / 256, nd ++ [(c + (p + t)) % 256], by omega, by omega, by simp [h1], M.dig_append h2 (M.dig_one (by omega)), ?_, h4, ?_⟩
  · rw [M.val_append, h1]
    have e : 256 ^ j * ((c + (p + t)) % 256 + 256 * ((c + (p + t)) / 256)) = 256 ^ j * (c + (p + t)) := by rw [Nat.mod_add_div]
    have e2 : x * (256 ^ j * y) = 256 ^ j * p := by rw [← hp, Nat.mul_left_comm]
    simp only [Nat.mul_add] at e ⊢
    simp only [M.val, Nat.mul_zero, Nat.add_zero, Nat.pow_succ, Nat.mul_assoc, e2]
    omega
  · have := h5.set (i + j) ((c + (p + t)) % 256) (x := (((c + (p + t) : Nat) : Int) % 256)) (by omega)
    rw [tail_set (lo ++ nd) tail (i + j) j _ (by simp [h1, h4]) hj] at this
    simpa using this

/-- What holds in Mul's outer loop: the first i digits of a have been multiplied. -/
def MulOut (wr : World) (g : Nat) (a b us : List Nat) (i : Nat) : Prop :=
  us.length = i + b.length ∧ M.Dig us ∧ M.val us = M.val (a.take i) * M.val b ∧ Blk wr g (us ++ List.replicate (a.length - i) 0)

theorem mul_enter (wr : World) (g : Nat) (a b us : List Nat) (i x : Nat) (h : MulOut wr g a b us i) (hi : i < a.length) :
    MulIn wr g (us.take i) (us.drop i ++ List.replicate (a.length - i) 0) b [] i 0 0 x := by
  obtain ⟨h1, h2, h3, h4⟩ := h
  refine ⟨rfl, by intro x hx; simp at hx, by simp [M.val], by simp; omega, ?_⟩
  have e : us.take i ++ [] ++ (us.drop i ++ List.replicate (a.length - i) 0).drop 0 = us ++ List.replicate (a.length - i) 0 := by
    rw [List.drop_zero, List.append_nil, ← List.append_assoc, List.take_append_drop]
  rw [e]
  exact h4

theorem mul_leave (wr : World) (g : Nat) (a b us nd : List Nat) (i c : Nat) (h : MulOut wr g a b us i) (hi : i < a.length) (hc : c ≤ 255) (wr' : World)
    (k : MulIn wr' g (us.take i) (us.drop i ++ List.replicate (a.length - i) 0) b nd i b.length c (a.getD i 0)) :
    ∃ us', MulOut (wr'.setCell ⟨g, i + b.length, none⟩ (.int .u8 (c : Int))) g a b us' (i + 1) := by
  obtain ⟨h1, h2, h3, h4⟩ := h
  obtain ⟨k1, k2, k3, k4, k5⟩ := k
  have hul : (us.drop i).length = b.length := by simp; omega
  refine ⟨us.take i ++ nd ++ [c], by simp [k1]; omega, M.dig_append (M.dig_append (M.dig_take h2 i) k2) (M.dig_one (by omega)), ?_, ?_⟩
  · rw [List.take_append_of_le_length (by omega), List.take_of_length_le (by omega), List.take_of_length_le (Nat.le_refl _)] at k3
    have h6 := M.val_split us i (by omega)
    rw [M.val_append, M.val_append, List.length_append, k4, k1, M.val_take_succ, Nat.add_mul, ← h3, h6]
    have e : 256 ^ i * (M.val nd + 256 ^ b.length * c) = 256 ^ i * (M.val (us.drop i) + a.getD i 0 * M.val b) := by rw [k3]
    simp only [Nat.mul_add] at e
    simp only [M.val, Nat.mul_zero, Nat.add_zero, Nat.pow_add, Nat.mul_assoc]
    omega
  · have := k5.set (i + b.length) c (x := (c : Int)) rfl
    rw [tail_set (us.take i ++ nd) _ (i + b.length) b.length _ (by rw [List.length_append, k4, k1]) (by rw [List.length_append, hul]; simp; omega)] at this
    have e : (us.drop i ++ List.replicate (a.length - i) 0).drop (b.length + 1) = List.replicate (a.length - (i + 1)) 0 := by
      rw [List.drop_append, List.drop_eq_nil_of_le (by omega), hul, List.nil_append, List.drop_replicate]
      congr 1
      omega
    rw [e] at this
    exact this

set_option maxRecDepth 10000 in
set_option maxHeartbeats 400000 in
theorem mul_any (ao bo : Option Addr) (n m cap cap' : Nat) (xs ys : List Nat) (w : World) (hn : xs.length = n) (hm : ys.length = m) (hcap : n ≤ cap) (hcap' : m ≤ cap') (hmax : n ≤ 1000) (hmax' : m ≤ 1000)
    (hd : M.Dig xs) (hd' : M.Dig ys) (hr : Row w ao xs) (hr' : Row w bo ys) :
    Calls Saag.prog 48 #[.slice ao n cap, .slice bo m cap'] w fun e w' => ∃ v, e = .returned v ∧ Nrm w' v (M.val xs * M.val ys) ∧ Below w.heap.size w w' := by
  have va := M.val_tr xs
  have vb := M.val_tr ys
  have da := M.dig_tr hd
  have db := M.dig_tr hd'
  have la := M.tr_len xs
  have lb := M.tr_len ys
  have ra : Row w ao (M.tr xs) := by rw [M.tr_take]; exact hr.take _
  have rb : Row w bo (M.tr ys) := by rw [M.tr_take]; exact hr'.take _
  have T1 := hide (trim_any ao n cap xs w hn hcap (by omega) hd hr)
  have T2 := hide (trim_any bo m cap' ys w hm hcap' (by omega) hd' hr')
  rw [← va, ← vb]
  generalize M.tr xs = as1 at *
  generalize M.tr ys = bs1 at *
  clear va vb hr hr' hd hd'
  subst hn
  subst hm
  have hla : as1.length ≤ 1000 := by omega
  have hlb : bs1.length ≤ 1000 := by omega
  clear la lb hmax hmax' hcap hcap'
  generalize xs.length = n at *
  generalize ys.length = m at *
  go_enter Saag.func48, Saag.ntmps48
  go_wp2_with fail
  refine (unhide T1).mono ?_
  rintro e w' ⟨rfl, rfl⟩
  go_wp2_with fail
  refine (unhide T2).mono ?_
  rintro e w' ⟨rfl, rfl⟩
  clear T1 T2
  generalize hk1 : as1.length = k1 at *
  generalize hk2 : bs1.length = k2 at *
  have Hk1 := hide hk1
  have Hk2 := hide hk2
  clear hk1 hk2
  go_wp2_with (at_make; refine wpList_make_bytes _ rfl _ _ 42 rfl Saag.underlying42 _ _ _ _ (k1 + k2) rfl rfl (by omega) (by omega) (by omega) ?_; intro w1 hblk hsz hbel)
  go_loopw [23] (fun i wr => ∃ (p : Nat) (us : List Nat), p ≤ k1 ∧ i = .int .i64 p ∧ Hid (MulOut wr w.heap.size as1 bs1 us p) ∧ Below w.heap.size w wr) (fun i _ => k1 - (intOf i).toNat)
  case atStart =>
    refine ⟨0, List.replicate k2 0, by omega, rfl, ⟨by simp; exact (unhide Hk2).symm, M.dig_replicate_zero _, by simp [M.val_replicate_zero, M.val], ?_⟩, hbel⟩
    rw [unhide Hk1, Nat.sub_zero, List.replicate_append_replicate, Nat.add_comm]
    exact hblk
  case round =>
    obtain ⟨p, us, hp, rfl, ho, hbe⟩ := hrel
    by_cases hpn : p < k1
    · obtain ⟨b, off, e1, hca⟩ := (ra.below hbe (Nat.le_refl _)) p (by rw [unhide Hk1]; omega)
      obtain rfl := e1
      have hx := M.dig_getD da p
      have Hin := hide (mul_enter wr w.heap.size as1 bs1 us p (as1.getD p 0) (unhide ho) (by rw [unhide Hk1]; omega))
      have Hle := hide (fun nd c hc wr' k => mul_leave wr w.heap.size as1 bs1 us nd p c (unhide ho) (by rw [unhide Hk1]; omega) hc wr' k)
      have hul : us.length = p + k2 := by have := (unhide ho).1; rw [unhide Hk2] at this; exact this
      have dus := (unhide ho).2.1
      generalize as1.getD p 0 = x at *
      have Htl : Hid ((us.drop p ++ List.replicate (as1.length - p) 0).length = k2 + (k1 - p)) := by rw [unhide Hk1]; show _ = _; simp; omega
      have dtl : M.Dig (us.drop p ++ List.replicate (as1.length - p) 0) := M.dig_append (fun z hz => dus z (List.mem_of_mem_drop hz)) (M.dig_replicate_zero _)
      generalize us.drop p ++ List.replicate (as1.length - p) 0 = tail at *
      generalize us.take p = lo at *
      clear ho hul dus
      go_wp2
      go_loopw [8, 30] (fun c i wq => ∃ (j cc : Nat) (nd : List Nat), j ≤ k2 ∧ i = .int .i64 j ∧ c = .int .u32 cc ∧ cc ≤ 255 ∧ Hid (MulIn wq w.heap.size lo tail bs1 nd p j cc x) ∧ Below w.heap.size w wq) (fun _ i _ => k2 - (intOf i).toNat)
      case atStart => exact ⟨0, 0, [], by omega, rfl, rfl, by omega, Hin, hbe⟩
      case round =>
        obtain ⟨j, cc, nd, hj, rfl, rfl, hcc, hz, hbq⟩ := hrel
        by_cases hjn : j < k2
        · obtain ⟨b', off', e2, hcb⟩ := (rb.below hbq (Nat.le_refl _)) j (by rw [unhide Hk2]; omega)
          obtain rfl := e2
          obtain ⟨b2, off2, e2, hca2⟩ := (ra.below hbq (Nat.le_refl _)) p (by rw [unhide Hk1]; omega)
          clear hca2 e2 b2 off2
          have hct := (unhide hz).2.2.2.2.cell (p + j) (by rw [List.length_append, List.length_append, (unhide hz).1, (unhide hz).2.2.2.1, List.length_drop, unhide Htl]; omega)
          rw [tail_getD _ tail (p + j) j (by rw [List.length_append, (unhide hz).1, (unhide hz).2.2.2.1])] at hct
          have hft := (unhide hz).2.2.2.2.frozen (p + j)
          have ht := M.dig_getD dtl j
          have hy := M.dig_getD db j
          obtain ⟨c', nd', e3, hc', hz'⟩ := mul_step wr w.heap.size lo tail bs1 nd p j cc x (unhide hz) (by rw [unhide Htl]; omega) ht hx hy hcc
          have hz'' := hide hz'
          have e3' := hide e3
          clear e3 hz' hz Hin Hle
          generalize tail.getD j 0 = t at *
          generalize bs1.getD j 0 = y at *
          have hm0 : (0 : Int) ≤ (x : Int) * (y : Int) := by rw [← Int.natCast_mul]; omega
          have hm1 : (x : Int) * (y : Int) ≤ 65025 := by
            have : x * y ≤ 255 * 255 := Nat.mul_le_mul (by omega) (by omega)
            rw [← Int.natCast_mul]; omega
          go_wp2
          go_roundw
          case rel => exact ⟨j + 1, c', nd', by omega, by go_num, congrArg (Value.int .u32) (unhide e3'), hc', hz'', hbq.setCell (Nat.le_refl _) _⟩
          case measure => simp [intOf]; omega
        · have hje : j = k2 := by omega
          subst hje
          obtain ⟨z, hct⟩ : ∃ z, wr.cell? ⟨w.heap.size, p + j, none⟩ = some z := ⟨_, (unhide hz).2.2.2.2.cell (p + j) (by rw [List.length_append, List.length_append, (unhide hz).1, (unhide hz).2.2.2.1, List.length_drop, unhide Htl]; omega)⟩
          have hft := (unhide hz).2.2.2.2.frozen (p + j)
          obtain ⟨us', hu'⟩ := unhide Hle nd cc hcc wr (by rw [unhide Hk2]; exact hz)
          rw [unhide Hk2] at hu'
          have hu'' := hide hu'
          clear hu' hz Hin Hle
          go_wp2
          go_roundw
          case rel => exact ⟨p + 1, us', by omega, by go_num, hu'', hbq.setCell (Nat.le_refl _) _⟩
          case measure => simp [intOf]; omega
    · have hpe : p = k1 := by omega
      subst hpe
      obtain ⟨h1, h2, h3, h4⟩ := unhide ho
      rw [unhide Hk2] at h1
      rw [unhide Hk1, Nat.sub_self, List.replicate_zero, List.append_nil] at h4
      rw [List.take_of_length_le (by rw [unhide Hk1]; exact Nat.le_refl _)] at h3
      have h1' := hide h1
      have h3' := hide h3
      have h4' := hide h4
      clear h1 h3 h4 ho
      go_wp2_with fail
      refine (clip_any (some ⟨w.heap.size, 0, none⟩) (p + k2) (p + k2) us _ (unhide h1') (Nat.le_refl _) (by omega) h2 (unhide h4').row).mono ?_
      rintro e w' ⟨v, rfl, hN, rfl⟩
      go_wp2
      go_ret
      refine ⟨_, rfl, ?_, hbe⟩
      rw [unhide h3'] at hN
      exact hN

end Go.Proofs.Ygcsaa
