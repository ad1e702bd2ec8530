import Derived.Test.YgcsaaClip
namespace Go.Proofs.Ygcsaa
open Go.RowKit
set_option linter.unusedSimpArgs false
set_option linter.unusedVariables false

set_option maxRecDepth 10000 in
set_option maxHeartbeats 400000 in
theorem pow2_any (K : Nat) (w : World) (h1 : K ≤ 700) :
    Calls Saag.prog 25 #[.int .u16 (K : Int)] w fun e w' => ∃ v, e = .returned v ∧ Nrm w' v (2 ^ K) ∧ Below w.heap.size w w' := by
  have hlt : K / 8 < (List.replicate (K / 8 + 1) 0).length := by simp
  have hfin : ∀ w1, Blk w1 w.heap.size (List.replicate (K / 8 + 1) 0) → Nrm (w1.setCell ⟨w.heap.size, K / 8, none⟩ (.int .u8 (2 ^ (K % 8) % 256))) (.slice (some ⟨w.heap.size, 0, none⟩) (K / 8 + 1) (K / 8 + 1)) (2 ^ K) := by
    intro w1 hb
    have hs := M.pow2_small (K % 8) (by omega)
    have h2 := hb.set (K / 8) (2 ^ (K % 8)) (x := 2 ^ (K % 8) % 256) (by
      have e : ((2 : Int) ^ (K % 8)) = ((2 ^ (K % 8) : Nat) : Int) := by simp
      rw [e]; clear e; generalize 2 ^ (K % 8) = p at *; omega)
    rw [M.set_last] at h2
    have hd : M.Dig (List.replicate (K / 8) 0 ++ [2 ^ (K % 8)]) := M.dig_append (M.dig_replicate_zero _) (M.dig_one hs)
    refine ⟨_, ⟨_, _, _, rfl, by simp, Nat.le_refl _, hd, h2.row⟩, ?_, M.nrml_pow2 _ _, fun h => absurd h (by simp)⟩
    rw [M.val_pow2]
    congr 1
    omega
  have Hfin := hide hfin
  have Hlt := hide hlt
  clear hfin hlt
  go_enter Saag.func25, Saag.ntmps25
  go_wp2_with (at_make; refine wpList_make_bytes _ rfl _ _ 42 rfl Saag.underlying42 _ _ _ _ (K / 8 + 1) rfl rfl (by omega) (by omega) (by omega) ?_; intro w1 hblk hsz hbel; have hc := (unhide hblk).cell (K / 8) (unhide Hlt); have hf := (unhide hblk).frozen (K / 8))
  go_ret
  exact ⟨_, rfl, unhide Hfin w1 hblk, hbel.setCell (Nat.le_refl _) _⟩

theorem bit_form (x i : Nat) (hx : x < 256) : (bits BinOp.and IntKind.u8 ((x : Int) / 2 ^ (i % 8)) 1 == 1) = decide (x / 2 ^ (i % 8) % 2 = 1) := by
  have e : ((x : Int) / 2 ^ (i % 8)) = ((x / 2 ^ (i % 8) : Nat) : Int) := by simp
  have hle : x / 2 ^ (i % 8) ≤ x := Nat.div_le_self _ _
  have e1 : bits BinOp.and IntKind.u8 ((x : Int) / 2 ^ (i % 8)) 1 = ((x / 2 ^ (i % 8) % 2 : Nat) : Int) := by
    rw [e]
    have := u8_and_nat (x / 2 ^ (i % 8)) 1 (by omega) (by omega)
    rw [nat_mask1] at this
    exact this
  rw [e1, Bool.eq_iff_iff]
  simp
  omega

set_option maxRecDepth 10000 in
set_option maxHeartbeats 400000 in
theorem bit_any (ao : Option Addr) (n cap : Nat) (xs : List Nat) (i : Nat) (w : World) (hn : xs.length = n) (hcap : n ≤ cap) (hmax : n ≤ 100000) (hd : M.Dig xs) (hr : Row w ao xs) (hi : i ≤ 2000) :
    Calls Saag.prog 72 #[.slice ao n cap, .int .u16 (i : Int)] w fun e w' => e = .returned (.bool ((M.val xs).testBit i)) ∧ w = w' := by
  have hb := M.val_bit hd i
  have hx := M.dig_getD hd (i / 8)
  by_cases hlt : i / 8 < n
  · obtain ⟨b, off, rfl, hc⟩ := hr (i / 8) (by omega)
    have hlt' : (i : Int) / 8 < (n : Int) := by omega
    generalize xs.getD (i / 8) 0 = x at *
    have HB := hide hb
    clear hb hn hr
    go_enter Saag.func72, Saag.ntmps72
    go_wp2
    go_ret
    refine ⟨?_, rfl⟩
    rw [unhide HB, ← bit_form x i hx]
    rfl
  · have hz : xs.getD (i / 8) 0 = 0 := M.getD_ge _ _ (by omega)
    rw [hz] at hb
    have hb' : (M.val xs).testBit i = false := by rw [hb]; simp
    have HB := hide hb'
    have hlt' : (n : Int) ≤ (i : Int) / 8 := by omega
    clear hb hb' hn hr hz hx
    go_enter Saag.func72, Saag.ntmps72
    go_wp2
    go_ret
    exact ⟨by rw [unhide HB]; rfl, rfl⟩
end Go.Proofs.Ygcsaa
