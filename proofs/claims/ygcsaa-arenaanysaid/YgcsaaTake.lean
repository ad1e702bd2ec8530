import Derived.Test.YgcsaaClip
namespace Go.Proofs.Ygcsaa
open Go.RowKit
set_option linter.unusedSimpArgs false
set_option linter.unusedVariables false

/-- The address, if any, lies in another block than g. -/
def Apart (ao : Option Addr) (g : Nat) : Prop := ∀ a, ao = some a → a.block ≠ g

theorem Row.upd {w w' : World} {ao : Option Addr} {xs : List Nat} {g : Nat} (h : Row w ao xs) (u : Upd w w' g) (hp : Apart ao g) : Row w' ao xs := by
  intro i hi
  obtain ⟨b, off, h1, h2⟩ := h i hi
  refine ⟨b, off, h1, ?_⟩
  rw [World.cell?_of_block (w := w) (u.block b (hp _ h1))]
  exact h2

theorem drop_getD (zs xs : List Nat) (j : Nat) (h : zs.length = j) : (zs ++ xs.drop j).getD j 0 = xs.getD j 0 := by
  simp only [List.getD_eq_getElem?_getD]
  rw [List.getElem?_append_right (by omega), h, Nat.sub_self, List.getElem?_drop]
  simp

theorem drop_set (zs xs : List Nat) (j d : Nat) (h : zs.length = j) (hj : j < xs.length) : (zs ++ xs.drop j).set j d = (zs ++ [d]) ++ xs.drop (j + 1) := by
  rw [List.set_append_right _ _ (by omega), h, Nat.sub_self, List.drop_eq_getElem_cons hj, List.set_cons_zero]
  simp

/-- One round of take. -/
theorem take_step (xs ys zs : List Nat) (wr : World) (g j bw bw' : Nat) (u : Int)
    (h : zs.length = j ∧ M.Dig zs ∧ M.val zs + M.val (ys.take j) = M.val (xs.take j) + 256 ^ j * bw ∧ Blk wr g (zs ++ xs.drop j))
    (hj : j < xs.length) (hu0 : 0 ≤ u) (hu1 : u < 256) (hu : u + (ys.getD j 0 : Nat) + bw = (xs.getD j 0 : Nat) + 256 * (bw' : Int)) :
    ∃ (zs' : List Nat), (zs'.length = j + 1 ∧ M.Dig zs' ∧ M.val zs' + M.val (ys.take (j + 1)) = M.val (xs.take (j + 1)) + 256 ^ (j + 1) * bw' ∧ Blk (wr.setCell ⟨g, j, none⟩ (.int .u8 u)) g (zs' ++ xs.drop (j + 1))) := by
  obtain ⟨h1, h2, h3, h4⟩ := h
  rw [M.val_take_succ xs j, M.val_take_succ ys j]
  generalize xs.getD j 0 = x at *
  generalize ys.getD j 0 = y at *
  obtain ⟨d, rfl⟩ := Int.eq_ofNat_of_zero_le hu0
  refine ⟨zs ++ [d], by simp [h1], M.dig_append h2 (M.dig_one (by omega)), ?_, ?_⟩
  · rw [M.val_append, h1]
    have e0 : d + y + bw = x + 256 * bw' := by omega
    have e : 256 ^ j * (d + y + bw) = 256 ^ j * (x + 256 * bw') := by rw [e0]
    simp only [Nat.mul_add] at e
    simp only [M.val, Nat.mul_zero, Nat.add_zero, Nat.pow_succ, Nat.mul_assoc]
    omega
  · have := h4.set j d (x := (d : Int)) rfl
    rw [drop_set zs xs j d h1 hj] at this
    exact this

/-- What take leaves. -/
def TakeOut (w w' : World) (g : Nat) (xs ys : List Nat) (bw : Nat) : Prop :=
  bw ≤ 1 ∧ Upd w w' g ∧ ∃ zs, zs.length = xs.length ∧ M.Dig zs ∧ M.val zs + M.val ys = M.val xs + 256 ^ xs.length * bw ∧ Blk w' g zs

set_option maxRecDepth 10000 in
set_option maxHeartbeats 400000 in
theorem take_any (g n cap m cap' : Nat) (bo : Option Addr) (xs ys : List Nat) (w : World) (hn : xs.length = n) (hm : ys.length = m) (hmn : m ≤ n) (hcap : n ≤ cap) (hcap' : m ≤ cap') (hmax : n ≤ 100000)
    (hd : M.Dig xs) (hd' : M.Dig ys) (hb : Blk w g xs) (hr : Row w bo ys) (hp : m ≠ 0 → Apart bo g) :
    Calls Saag.prog 106 #[.slice (some ⟨g, 0, none⟩) n cap, .slice bo m cap'] w fun e w' => ∃ bw : Nat, e = .returned (.int .u16 bw) ∧ TakeOut w w' g xs ys bw := by
  have Hn := hide hn
  have Hm := hide hm
  clear hn hm
  go_enter Saag.func106, Saag.ntmps106
  go_wp2
  go_loopw [5, 11] (fun c i wr => ∃ (j bw : Nat) (zs : List Nat), j ≤ n ∧ i = .int .i64 j ∧ c = .int .u16 bw ∧ bw ≤ 1 ∧ Hid (zs.length = j ∧ M.Dig zs ∧ M.val zs + M.val (ys.take j) = M.val (xs.take j) + 256 ^ j * bw ∧ Blk wr g (zs ++ xs.drop j)) ∧ Upd w wr g) (fun _ i _ => n - (intOf i).toNat)
  case atStart => exact ⟨0, 0, [], by omega, rfl, rfl, by omega, ⟨rfl, by intro x hx; simp at hx, rfl, by simpa using hb⟩, Upd.refl _ _⟩
  case round =>
    obtain ⟨j, bw, zs, hj, rfl, rfl, hbw, hz, hupd⟩ := hrel
    by_cases hjn : j < n
    · have hcj := (unhide hz).2.2.2.cell j (by rw [List.length_append, (unhide hz).1, List.length_drop, unhide Hn]; omega)
      rw [drop_getD zs xs j (unhide hz).1] at hcj
      have hfj := (unhide hz).2.2.2.frozen j
      have hx := M.dig_getD hd j
      have hy := M.dig_getD hd' j
      have hst := hide (fun bw' u => take_step xs ys zs wr g j bw bw' u (unhide hz) (by rw [unhide Hn]; exact hjn))
      clear hz
      by_cases hjm : j < m
      · obtain ⟨b', off', e2, hcb⟩ := (hr.upd hupd (hp (by omega))) j (by rw [unhide Hm]; omega)
        obtain rfl := e2
        generalize xs.getD j 0 = x at *
        generalize ys.getD j 0 = y at *
        by_cases hlt : x < bw + y
        · obtain ⟨zs', hz'⟩ := unhide hst 1 ((x : Int) + 256 - (bw + y)) (by omega) (by omega) (by omega)
          have hz'' := hide hz'
          clear hz' hst
          go_wp2
          go_roundw
          case rel => exact ⟨j + 1, 1, zs', by omega, by go_num, rfl, by omega, hz'', hupd.trans (Upd.setCell _ _ _)⟩
          case measure => simp [intOf]; omega
        · obtain ⟨zs', hz'⟩ := unhide hst 0 ((x : Int) - (bw + y)) (by omega) (by omega) (by omega)
          have hz'' := hide hz'
          clear hz' hst
          go_wp2
          go_roundw
          case rel => exact ⟨j + 1, 0, zs', by omega, by go_num, rfl, by omega, hz'', hupd.trans (Upd.setCell _ _ _)⟩
          case measure => simp [intOf]; omega
      · have hy0 : ys.getD j 0 = 0 := M.getD_ge _ _ (by rw [unhide Hm]; omega)
        rw [hy0] at hst
        clear hy0 hy
        generalize xs.getD j 0 = x at *
        by_cases hlt : x < bw
        · obtain ⟨zs', hz'⟩ := unhide hst 1 ((x : Int) + 256 - bw) (by omega) (by omega) (by omega)
          have hz'' := hide hz'
          clear hz' hst
          go_wp2
          go_roundw
          case rel => exact ⟨j + 1, 1, zs', by omega, by go_num, rfl, by omega, hz'', hupd.trans (Upd.setCell _ _ _)⟩
          case measure => simp [intOf]; omega
        · obtain ⟨zs', hz'⟩ := unhide hst 0 ((x : Int) - bw) (by omega) (by omega) (by omega)
          have hz'' := hide hz'
          clear hz' hst
          go_wp2
          go_roundw
          case rel => exact ⟨j + 1, 0, zs', by omega, by go_num, rfl, by omega, hz'', hupd.trans (Upd.setCell _ _ _)⟩
          case measure => simp [intOf]; omega
    · have hje : j = n := by omega
      subst hje
      have hfin : TakeOut w wr g xs ys bw := by
        obtain ⟨h1, h2, h3, h4⟩ := unhide hz
        refine ⟨hbw, hupd, zs, by rw [h1, unhide Hn], h2, ?_, ?_⟩
        · rw [List.take_of_length_le (by have := unhide Hn; have := unhide Hm; omega), List.take_of_length_le (by have := unhide Hn; have := unhide Hm; omega)] at h3
          rw [h3, unhide Hn]
        · rw [List.drop_eq_nil_of_le (by rw [unhide Hn]; exact Nat.le_refl _), List.append_nil] at h4
          exact h4
      clear hz
      go_wp2
      go_ret
      exact ⟨bw, rfl, hfin⟩

set_option maxRecDepth 10000 in
set_option maxHeartbeats 400000 in
theorem take_nil (m cap' : Nat) (bo : Option Addr) (w : World) :
    Calls Saag.prog 106 #[.slice none 0 0, .slice bo m cap'] w fun e w' => ∃ v, e = .returned v ∧ w = w' := by
  go_enter Saag.func106, Saag.ntmps106
  go_wp2
  go_loop [11] (fun i => i = .int .i64 0) (fun _ => 0)
  case atStart => rfl
  case round =>
    obtain rfl := hrel
    go_wp2
    go_ret
    exact ⟨⟨_, rfl⟩, rfl⟩

end Go.Proofs.Ygcsaa
