import Derived.Test.YgcsaaPower
namespace Go.Proofs.Ygcsaa
open Go.RowKit
set_option linter.unusedSimpArgs false
set_option linter.unusedVariables false

/-- What bitwise has laid: the first j digits are f of the arguments' digits. -/
def BitSt (wr : World) (g : Nat) (f : Nat → Nat → Nat) (xs ys zs : List Nat) (j : Nat) : Prop :=
  zs.length = j ∧ M.Dig zs ∧ (∀ k, k < j → zs.getD k 0 = f (xs.getD k 0) (ys.getD k 0)) ∧ Blk wr g (zs ++ List.replicate (32 - j) 0)

theorem snoc_last (zs : List Nat) (d k : Nat) (h : zs.length = k) : (zs ++ [d]).getD k 0 = d := by
  simp only [List.getD_eq_getElem?_getD]
  rw [List.getElem?_append_right (by omega), h, Nat.sub_self]
  rfl
theorem snoc_old (zs : List Nat) (d k : Nat) (h : k < zs.length) : (zs ++ [d]).getD k 0 = zs.getD k 0 := by
  simp only [List.getD_eq_getElem?_getD]
  rw [List.getElem?_append_left h]

theorem bit_round (wr : World) (g : Nat) (f : Nat → Nat → Nat) (xs ys zs : List Nat) (j : Nat) (h : BitSt wr g f xs ys zs j) (hj : j < 32) (hf : f (xs.getD j 0) (ys.getD j 0) < 256) :
    BitSt (wr.setCell ⟨g, j, none⟩ (.int .u8 ((f (xs.getD j 0) (ys.getD j 0) : Nat) : Int))) g f xs ys (zs ++ [f (xs.getD j 0) (ys.getD j 0)]) (j + 1) := by
  obtain ⟨h1, h2, h3, h4⟩ := h
  refine ⟨by simp [h1], M.dig_append h2 (M.dig_one hf), ?_, ?_⟩
  · intro k hk
    by_cases e : k = j
    · subst e
      exact snoc_last zs _ k h1
    · rw [snoc_old zs _ k (by omega)]
      exact h3 k (by omega)
  · have := h4.set j (f (xs.getD j 0) (ys.getD j 0)) (x := ((f (xs.getD j 0) (ys.getD j 0) : Nat) : Int)) rfl
    have e := M.set_app zs 32 (f (xs.getD j 0) (ys.getD j 0)) (by omega)
    rw [h1] at e
    rw [e] at this
    exact this

/-- The value of a list whose digits are f of the digits, f going bit by bit. -/
theorem bit_val (f : Nat → Nat → Nat) (F : Nat → Nat → Nat) (b : Bool → Bool → Bool) (hb : b false false = false) (hf : ∀ x y i, (f x y).testBit i = b (x.testBit i) (y.testBit i)) (hF : ∀ x y i, (F x y).testBit i = b (x.testBit i) (y.testBit i))
    (xs ys zs : List Nat) (hx : M.Dig xs) (hy : M.Dig ys) (hz : M.Dig zs) (lx : xs.length ≤ 32) (ly : ys.length ≤ 32) (lz : zs.length = 32) (h : ∀ k, k < 32 → zs.getD k 0 = f (xs.getD k 0) (ys.getD k 0)) : M.val zs = F (M.val xs) (M.val ys) := by
  apply Nat.eq_of_testBit_eq
  intro i
  rw [hF, M.val_bit hz, M.val_bit hx, M.val_bit hy]
  have key : ∀ d : Nat, decide (d / 2 ^ (i % 8) % 2 = 1) = d.testBit (i % 8) := by
    intro d
    rw [Nat.testBit_eq_decide_div_mod_eq]
  rw [key, key, key]
  by_cases hi : i / 8 < 32
  · rw [h _ hi, hf]
  · rw [M.getD_ge zs _ (by omega), M.getD_ge xs _ (by omega), M.getD_ge ys _ (by omega)]
    simp [hb]

/-- The complement's value. -/
theorem not_val (xs ys zs : List Nat) (hx : M.Dig xs) (lx : xs.length ≤ 32) (lz : zs.length = 32) (h : ∀ k, k < 32 → zs.getD k 0 = 255 - xs.getD k 0) : M.val zs = M.W - 1 - M.val xs := by
  have key : ∀ j, j ≤ 32 → M.val (zs.take j) + M.val (xs.take j) + 1 = 256 ^ j := by
    intro j
    induction j with
    | zero => intro _; simp [M.val]
    | succ j ih =>
      intro hj
      have := ih (by omega)
      have hd := M.dig_getD hx j
      rw [M.val_take_succ, M.val_take_succ, h j (by omega), Nat.pow_succ]
      generalize xs.getD j 0 = x at *
      have e : 256 ^ j * (255 - x) + 256 ^ j * x = 256 ^ j * 255 := by rw [← Nat.mul_add]; congr 1; omega
      omega
  have := key 32 (Nat.le_refl _)
  rw [List.take_of_length_le (by omega), List.take_of_length_le (by omega), M.W_256] at this
  omega

theorem Nrm.list32 {w : World} {v : Value} {N : Nat} (h : Nrm w v N) (hN : N < M.W) : ∃ ao n cap xs, v = .slice ao n cap ∧ xs.length = n ∧ n ≤ 32 ∧ n ≤ cap ∧ M.Dig xs ∧ Row w ao xs ∧ M.val xs = N := by
  obtain ⟨xs, ⟨ao, n, cap, h1, h2, h3, h4, h5⟩, h6, h7, h8⟩ := h
  exact ⟨ao, n, cap, xs, h1, h2, by rw [← h2]; exact nrml_len h7 (by rw [h6, M.W_256]; exact hN), h3, h4, h5, h6⟩

theorem and_lt (x y : Nat) (hx : x < 256) (hy : y < 256) : x &&& y < 256 := Nat.and_lt_two_pow x (n := 8) hy
theorem or_lt (x y : Nat) (hx : x < 256) (hy : y < 256) : x ||| y < 256 := Nat.or_lt_two_pow (n := 8) hx hy
theorem xor_lt (x y : Nat) (hx : x < 256) (hy : y < 256) : x ^^^ y < 256 := Nat.xor_lt_two_pow (n := 8) hx hy
theorem not_lt (x y : Nat) (hx : x < 256) (hy : y < 256) : 255 - x < 256 := by omega
theorem xor_255 : ∀ x : Fin 256, 255 ^^^ x.val = 255 - x.val := by decide +kernel
theorem not_rule (x y : Nat) (hx : x < 256) (hy : y < 256) : bits BinOp.xor IntKind.u8 (if IntKind.u8.signed = true then -1 else IntKind.u8.max) (x : Int) = ((255 - x : Nat) : Int) := by
  have h1 := u8_xor_nat 255 x (by omega) hx
  rw [xor_255 ⟨x, hx⟩] at h1
  exact h1

set_option maxRecDepth 10000 in
set_option maxHeartbeats 1000000 in
theorem bitwise_and {va vb : Value} {A B : Nat} {w : World} (ha : Nrm w va A) (hb : Nrm w vb B) (hA : A < M.W) (hB : B < M.W) :
    Calls Saag.prog 61 #[.int .u8 22, va, vb] w fun e w' => ∃ v, e = .returned v ∧ Nrm w' v (A &&& B) ∧ Below w.heap.size w w' := by
  obtain ⟨ao, n, cap, xs, rfl, hn, hn32, hcap, dx, rx, rfl⟩ := ha.list32 hA
  obtain ⟨bo, m, cap', ys, rfl, hm, hm32, hcap', dy, ry, rfl⟩ := hb.list32 hB
  have Hn := hide hn
  have Hm := hide hm
  clear hn hm ha hb hA hB
  go_enter Saag.func61, Saag.ntmps61
  go_wp2_with (at_make; refine wpList_make_bytes _ rfl _ _ 42 rfl Saag.underlying42 _ _ _ _ 32 rfl rfl rfl rfl (by omega) ?_; intro w1 hblk hsz hbel)
  go_loopw [14] (fun i wr => ∃ (j : Nat) (zs : List Nat), j ≤ 32 ∧ i = .int .i64 j ∧ Hid (BitSt wr w.heap.size (fun x y => x &&& y) xs ys zs j) ∧ Below w.heap.size w wr) (fun i _ => 32 - (intOf i).toNat)
  case atStart => exact ⟨0, [], by omega, rfl, ⟨rfl, by intro x hx; simp at hx, fun k hk => absurd hk (by omega), by simpa using unhide hblk⟩, hbel⟩
  case round =>
    obtain ⟨j, zs, hj, rfl, hz, hbe⟩ := hrel
    by_cases hjn : j < 32
    · obtain ⟨z, hcj⟩ : ∃ z, wr.cell? ⟨w.heap.size, j, none⟩ = some z := ⟨_, (unhide hz).2.2.2.cell j (by rw [List.length_append, (unhide hz).1]; simp; omega)⟩
      have hfj := (unhide hz).2.2.2.frozen j
      have hx := M.dig_getD dx j
      have hy := M.dig_getD dy j
      have hst := hide (bit_round wr w.heap.size (fun x y => x &&& y) xs ys zs j (unhide hz) hjn (and_lt (xs.getD j 0) (ys.getD j 0) hx hy))
      clear hz
      by_cases hjx : j < n
      · obtain ⟨b, off, e1, hca⟩ := (rx.below hbe (Nat.le_refl _)) j (by rw [unhide Hn]; omega)
        obtain rfl := e1
        by_cases hjy : j < m
        · obtain ⟨b', off', e2, hcb⟩ := (ry.below hbe (Nat.le_refl _)) j (by rw [unhide Hm]; omega)
          obtain rfl := e2
          generalize xs.getD j 0 = x at *
          generalize ys.getD j 0 = y at *
          have hrule : bits .and .u8 (x : Int) (y : Int) = _ := u8_and_nat x y hx hy
          rw [← hrule] at hst
          clear hrule
          go_wp2
          go_roundw
          case rel => exact ⟨j + 1, _, by omega, by go_num, hst, hbe.setCell (Nat.le_refl _) _⟩
          case measure => simp [intOf]; omega
        · have hy0 : ys.getD j 0 = 0 := M.getD_ge _ _ (by rw [unhide Hm]; omega)
          (first | rw [hy0] at hst | skip)
          clear hy0 hy
          generalize xs.getD j 0 = x at *
          have hrule : bits .and .u8 (x : Int) 0 = _ := u8_and_nat x 0 hx (by omega)
          rw [← hrule] at hst
          clear hrule
          go_wp2
          go_roundw
          case rel => exact ⟨j + 1, _, by omega, by go_num, hst, hbe.setCell (Nat.le_refl _) _⟩
          case measure => simp [intOf]; omega
      · have hx0 : xs.getD j 0 = 0 := M.getD_ge _ _ (by rw [unhide Hn]; omega)
        rw [hx0] at hst
        clear hx0 hx
        by_cases hjy : j < m
        · obtain ⟨b', off', e2, hcb⟩ := (ry.below hbe (Nat.le_refl _)) j (by rw [unhide Hm]; omega)
          obtain rfl := e2
          generalize ys.getD j 0 = y at *
          have hrule : bits .and .u8 0 (y : Int) = _ := u8_and_nat 0 y (by omega) hy
          rw [← hrule] at hst
          clear hrule
          go_wp2
          go_roundw
          case rel => exact ⟨j + 1, _, by omega, by go_num, hst, hbe.setCell (Nat.le_refl _) _⟩
          case measure => simp [intOf]; omega
        · have hy0 : ys.getD j 0 = 0 := M.getD_ge _ _ (by rw [unhide Hm]; omega)
          (first | rw [hy0] at hst | skip)
          clear hy0 hy
          go_wp2
          go_roundw
          case rel => exact ⟨j + 1, _, by omega, by go_num, hst, hbe.setCell (Nat.le_refl _) _⟩
          case measure => simp [intOf]; omega
    · have hje : j = 32 := by omega
      subst hje
      obtain ⟨h1, h2, h3, h4⟩ := unhide hz
      rw [Nat.sub_self, List.replicate_zero, List.append_nil] at h4
      have hv := bit_val (fun x y => x &&& y) (fun x y => x &&& y) (fun p q => p && q) rfl (fun x y i => Nat.testBit_and x y i) (fun x y i => Nat.testBit_and x y i) xs ys zs dx dy h2 (by have := unhide Hn; omega) (by have := unhide Hm; omega) h1 h3
      have H1 := hide h1
      have H4 := hide h4
      have HV := hide hv
      clear h1 h3 h4 hv hz
      go_wp2_with fail
      refine (norm_any (some ⟨w.heap.size, 0, none⟩) 32 32 zs wr (unhide H1) (by omega) (by omega) h2 (unhide H4).row).mono ?_
      rintro e w2 ⟨v, rfl, hv2⟩
      go_wp2
      go_ret
      obtain ⟨g1, g2⟩ := hv2.nrm h2
      refine ⟨_, rfl, ?_, hbe.trans (g2.mono hbe.size)⟩
      rw [unhide HV] at g1
      exact g1

set_option maxRecDepth 10000 in
set_option maxHeartbeats 1000000 in
theorem bitwise_or {va vb : Value} {A B : Nat} {w : World} (ha : Nrm w va A) (hb : Nrm w vb B) (hA : A < M.W) (hB : B < M.W) :
    Calls Saag.prog 61 #[.int .u8 23, va, vb] w fun e w' => ∃ v, e = .returned v ∧ Nrm w' v (A ||| B) ∧ Below w.heap.size w w' := by
  obtain ⟨ao, n, cap, xs, rfl, hn, hn32, hcap, dx, rx, rfl⟩ := ha.list32 hA
  obtain ⟨bo, m, cap', ys, rfl, hm, hm32, hcap', dy, ry, rfl⟩ := hb.list32 hB
  have Hn := hide hn
  have Hm := hide hm
  clear hn hm ha hb hA hB
  go_enter Saag.func61, Saag.ntmps61
  go_wp2_with (at_make; refine wpList_make_bytes _ rfl _ _ 42 rfl Saag.underlying42 _ _ _ _ 32 rfl rfl rfl rfl (by omega) ?_; intro w1 hblk hsz hbel)
  go_loopw [14] (fun i wr => ∃ (j : Nat) (zs : List Nat), j ≤ 32 ∧ i = .int .i64 j ∧ Hid (BitSt wr w.heap.size (fun x y => x ||| y) xs ys zs j) ∧ Below w.heap.size w wr) (fun i _ => 32 - (intOf i).toNat)
  case atStart => exact ⟨0, [], by omega, rfl, ⟨rfl, by intro x hx; simp at hx, fun k hk => absurd hk (by omega), by simpa using unhide hblk⟩, hbel⟩
  case round =>
    obtain ⟨j, zs, hj, rfl, hz, hbe⟩ := hrel
    by_cases hjn : j < 32
    · obtain ⟨z, hcj⟩ : ∃ z, wr.cell? ⟨w.heap.size, j, none⟩ = some z := ⟨_, (unhide hz).2.2.2.cell j (by rw [List.length_append, (unhide hz).1]; simp; omega)⟩
      have hfj := (unhide hz).2.2.2.frozen j
      have hx := M.dig_getD dx j
      have hy := M.dig_getD dy j
      have hst := hide (bit_round wr w.heap.size (fun x y => x ||| y) xs ys zs j (unhide hz) hjn (or_lt (xs.getD j 0) (ys.getD j 0) hx hy))
      clear hz
      by_cases hjx : j < n
      · obtain ⟨b, off, e1, hca⟩ := (rx.below hbe (Nat.le_refl _)) j (by rw [unhide Hn]; omega)
        obtain rfl := e1
        by_cases hjy : j < m
        · obtain ⟨b', off', e2, hcb⟩ := (ry.below hbe (Nat.le_refl _)) j (by rw [unhide Hm]; omega)
          obtain rfl := e2
          generalize xs.getD j 0 = x at *
          generalize ys.getD j 0 = y at *
          have hrule : bits .or .u8 (x : Int) (y : Int) = _ := u8_or_nat x y hx hy
          rw [← hrule] at hst
          clear hrule
          go_wp2
          go_roundw
          case rel => exact ⟨j + 1, _, by omega, by go_num, hst, hbe.setCell (Nat.le_refl _) _⟩
          case measure => simp [intOf]; omega
        · have hy0 : ys.getD j 0 = 0 := M.getD_ge _ _ (by rw [unhide Hm]; omega)
          (first | rw [hy0] at hst | skip)
          clear hy0 hy
          generalize xs.getD j 0 = x at *
          have hrule : bits .or .u8 (x : Int) 0 = _ := u8_or_nat x 0 hx (by omega)
          rw [← hrule] at hst
          clear hrule
          go_wp2
          go_roundw
          case rel => exact ⟨j + 1, _, by omega, by go_num, hst, hbe.setCell (Nat.le_refl _) _⟩
          case measure => simp [intOf]; omega
      · have hx0 : xs.getD j 0 = 0 := M.getD_ge _ _ (by rw [unhide Hn]; omega)
        rw [hx0] at hst
        clear hx0 hx
        by_cases hjy : j < m
        · obtain ⟨b', off', e2, hcb⟩ := (ry.below hbe (Nat.le_refl _)) j (by rw [unhide Hm]; omega)
          obtain rfl := e2
          generalize ys.getD j 0 = y at *
          have hrule : bits .or .u8 0 (y : Int) = _ := u8_or_nat 0 y (by omega) hy
          rw [← hrule] at hst
          clear hrule
          go_wp2
          go_roundw
          case rel => exact ⟨j + 1, _, by omega, by go_num, hst, hbe.setCell (Nat.le_refl _) _⟩
          case measure => simp [intOf]; omega
        · have hy0 : ys.getD j 0 = 0 := M.getD_ge _ _ (by rw [unhide Hm]; omega)
          (first | rw [hy0] at hst | skip)
          clear hy0 hy
          go_wp2
          go_roundw
          case rel => exact ⟨j + 1, _, by omega, by go_num, hst, hbe.setCell (Nat.le_refl _) _⟩
          case measure => simp [intOf]; omega
    · have hje : j = 32 := by omega
      subst hje
      obtain ⟨h1, h2, h3, h4⟩ := unhide hz
      rw [Nat.sub_self, List.replicate_zero, List.append_nil] at h4
      have hv := bit_val (fun x y => x ||| y) (fun x y => x ||| y) (fun p q => p || q) rfl (fun x y i => Nat.testBit_or x y i) (fun x y i => Nat.testBit_or x y i) xs ys zs dx dy h2 (by have := unhide Hn; omega) (by have := unhide Hm; omega) h1 h3
      have H1 := hide h1
      have H4 := hide h4
      have HV := hide hv
      clear h1 h3 h4 hv hz
      go_wp2_with fail
      refine (norm_any (some ⟨w.heap.size, 0, none⟩) 32 32 zs wr (unhide H1) (by omega) (by omega) h2 (unhide H4).row).mono ?_
      rintro e w2 ⟨v, rfl, hv2⟩
      go_wp2
      go_ret
      obtain ⟨g1, g2⟩ := hv2.nrm h2
      refine ⟨_, rfl, ?_, hbe.trans (g2.mono hbe.size)⟩
      rw [unhide HV] at g1
      exact g1

set_option maxRecDepth 10000 in
set_option maxHeartbeats 1000000 in
theorem bitwise_xor {va vb : Value} {A B : Nat} {w : World} (ha : Nrm w va A) (hb : Nrm w vb B) (hA : A < M.W) (hB : B < M.W) :
    Calls Saag.prog 61 #[.int .u8 24, va, vb] w fun e w' => ∃ v, e = .returned v ∧ Nrm w' v (A ^^^ B) ∧ Below w.heap.size w w' := by
  obtain ⟨ao, n, cap, xs, rfl, hn, hn32, hcap, dx, rx, rfl⟩ := ha.list32 hA
  obtain ⟨bo, m, cap', ys, rfl, hm, hm32, hcap', dy, ry, rfl⟩ := hb.list32 hB
  have Hn := hide hn
  have Hm := hide hm
  clear hn hm ha hb hA hB
  go_enter Saag.func61, Saag.ntmps61
  go_wp2_with (at_make; refine wpList_make_bytes _ rfl _ _ 42 rfl Saag.underlying42 _ _ _ _ 32 rfl rfl rfl rfl (by omega) ?_; intro w1 hblk hsz hbel)
  go_loopw [14] (fun i wr => ∃ (j : Nat) (zs : List Nat), j ≤ 32 ∧ i = .int .i64 j ∧ Hid (BitSt wr w.heap.size (fun x y => x ^^^ y) xs ys zs j) ∧ Below w.heap.size w wr) (fun i _ => 32 - (intOf i).toNat)
  case atStart => exact ⟨0, [], by omega, rfl, ⟨rfl, by intro x hx; simp at hx, fun k hk => absurd hk (by omega), by simpa using unhide hblk⟩, hbel⟩
  case round =>
    obtain ⟨j, zs, hj, rfl, hz, hbe⟩ := hrel
    by_cases hjn : j < 32
    · obtain ⟨z, hcj⟩ : ∃ z, wr.cell? ⟨w.heap.size, j, none⟩ = some z := ⟨_, (unhide hz).2.2.2.cell j (by rw [List.length_append, (unhide hz).1]; simp; omega)⟩
      have hfj := (unhide hz).2.2.2.frozen j
      have hx := M.dig_getD dx j
      have hy := M.dig_getD dy j
      have hst := hide (bit_round wr w.heap.size (fun x y => x ^^^ y) xs ys zs j (unhide hz) hjn (xor_lt (xs.getD j 0) (ys.getD j 0) hx hy))
      clear hz
      by_cases hjx : j < n
      · obtain ⟨b, off, e1, hca⟩ := (rx.below hbe (Nat.le_refl _)) j (by rw [unhide Hn]; omega)
        obtain rfl := e1
        by_cases hjy : j < m
        · obtain ⟨b', off', e2, hcb⟩ := (ry.below hbe (Nat.le_refl _)) j (by rw [unhide Hm]; omega)
          obtain rfl := e2
          generalize xs.getD j 0 = x at *
          generalize ys.getD j 0 = y at *
          have hrule : bits .xor .u8 (x : Int) (y : Int) = _ := u8_xor_nat x y hx hy
          rw [← hrule] at hst
          clear hrule
          go_wp2
          go_roundw
          case rel => exact ⟨j + 1, _, by omega, by go_num, hst, hbe.setCell (Nat.le_refl _) _⟩
          case measure => simp [intOf]; omega
        · have hy0 : ys.getD j 0 = 0 := M.getD_ge _ _ (by rw [unhide Hm]; omega)
          (first | rw [hy0] at hst | skip)
          clear hy0 hy
          generalize xs.getD j 0 = x at *
          have hrule : bits .xor .u8 (x : Int) 0 = _ := u8_xor_nat x 0 hx (by omega)
          rw [← hrule] at hst
          clear hrule
          go_wp2
          go_roundw
          case rel => exact ⟨j + 1, _, by omega, by go_num, hst, hbe.setCell (Nat.le_refl _) _⟩
          case measure => simp [intOf]; omega
      · have hx0 : xs.getD j 0 = 0 := M.getD_ge _ _ (by rw [unhide Hn]; omega)
        rw [hx0] at hst
        clear hx0 hx
        by_cases hjy : j < m
        · obtain ⟨b', off', e2, hcb⟩ := (ry.below hbe (Nat.le_refl _)) j (by rw [unhide Hm]; omega)
          obtain rfl := e2
          generalize ys.getD j 0 = y at *
          have hrule : bits .xor .u8 0 (y : Int) = _ := u8_xor_nat 0 y (by omega) hy
          rw [← hrule] at hst
          clear hrule
          go_wp2
          go_roundw
          case rel => exact ⟨j + 1, _, by omega, by go_num, hst, hbe.setCell (Nat.le_refl _) _⟩
          case measure => simp [intOf]; omega
        · have hy0 : ys.getD j 0 = 0 := M.getD_ge _ _ (by rw [unhide Hm]; omega)
          (first | rw [hy0] at hst | skip)
          clear hy0 hy
          go_wp2
          go_roundw
          case rel => exact ⟨j + 1, _, by omega, by go_num, hst, hbe.setCell (Nat.le_refl _) _⟩
          case measure => simp [intOf]; omega
    · have hje : j = 32 := by omega
      subst hje
      obtain ⟨h1, h2, h3, h4⟩ := unhide hz
      rw [Nat.sub_self, List.replicate_zero, List.append_nil] at h4
      have hv := bit_val (fun x y => x ^^^ y) (fun x y => x ^^^ y) (fun p q => p ^^ q) rfl (fun x y i => Nat.testBit_xor x y i) (fun x y i => Nat.testBit_xor x y i) xs ys zs dx dy h2 (by have := unhide Hn; omega) (by have := unhide Hm; omega) h1 h3
      have H1 := hide h1
      have H4 := hide h4
      have HV := hide hv
      clear h1 h3 h4 hv hz
      go_wp2_with fail
      refine (norm_any (some ⟨w.heap.size, 0, none⟩) 32 32 zs wr (unhide H1) (by omega) (by omega) h2 (unhide H4).row).mono ?_
      rintro e w2 ⟨v, rfl, hv2⟩
      go_wp2
      go_ret
      obtain ⟨g1, g2⟩ := hv2.nrm h2
      refine ⟨_, rfl, ?_, hbe.trans (g2.mono hbe.size)⟩
      rw [unhide HV] at g1
      exact g1

end Go.Proofs.Ygcsaa
