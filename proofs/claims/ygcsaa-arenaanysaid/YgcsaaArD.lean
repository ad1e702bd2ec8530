/-
  law.filled.
-/
import Derived.Test.YgcsaaArC
namespace Go.Proofs.Ygcsaa
open Go.RowKit
set_option linter.unusedSimpArgs false
set_option linter.unusedVariables false

/-- The 32 bytes v, v + 1, .. -/
def fil (v n : Nat) : List Nat := (List.range n).map fun i => (v + i) % 256
theorem fil_len (v n : Nat) : (fil v n).length = n := by simp [fil]
theorem fil_dig (v n : Nat) : M.Dig (fil v n) := by
  intro x hx
  simp only [fil, List.mem_map] at hx
  obtain ⟨i, _, rfl⟩ := hx
  omega
theorem fil_succ (v n : Nat) : fil v (n + 1) = fil v n ++ [(v + n) % 256] := by simp [fil, List.range_succ]

set_option maxRecDepth 10000 in
set_option maxHeartbeats 1000000 in
theorem filled_any (v : Nat) (hv : v < 256) (w : World) :
    Calls Saag.prog 80 #[.int .i64 32, .int .u8 (v : Int)] w fun e w' => e = .returned (.slice (some ⟨w.heap.size, 0, none⟩) 32 32) ∧ Blk w' w.heap.size (fil v 32) ∧ Below w.heap.size w w' := by
  go_enter Saag.func80, Saag.ntmps80
  go_wp2_with (at_make; refine wpList_make_bytes _ rfl _ _ 41 rfl Saag.underlying41 _ _ _ _ 32 rfl rfl (by omega) (by omega) (by omega) ?_; intro w1 hblk hsz hbel)
  go_loopw [11] (fun i wr => ∃ j : Nat, j ≤ 32 ∧ i = .int .i64 j ∧ Hid (Blk wr w.heap.size (fil v j ++ List.replicate (32 - j) 0)) ∧ Below w.heap.size w wr) (fun i _ => 32 - (intOf i).toNat)
  case atStart => exact ⟨0, by omega, rfl, by simpa [fil] using hblk, hbel⟩
  case round =>
    obtain ⟨j, hj, rfl, hb, hbe⟩ := hrel
    by_cases hjn : j < 32
    · have hjn' : (j : Int) < 32 := by omega
      obtain ⟨z, hcj⟩ : ∃ z, wr.cell? ⟨w.heap.size, j, none⟩ = some z := ⟨_, (unhide hb).cell j (by simp [fil_len]; omega)⟩
      have hfj := (unhide hb).frozen j
      have hset := (unhide hb).set j ((v + j) % 256) (x := (((v + j) % 256 : Nat) : Int)) rfl
      have e1 := M.set_app (fil v j) 32 ((v + j) % 256) (by rw [fil_len]; exact hjn)
      rw [fil_len] at e1
      rw [e1, ← fil_succ] at hset
      have hw1 : IntKind.u8.wrap (j : Int) = (j : Int) := by rw [IntKind.wrap_u8]; omega
      have hw2 : IntKind.u8.wrap ((v : Int) + (j : Int)) = (((v + j) % 256 : Nat) : Int) := by rw [IntKind.wrap_u8]; omega
      generalize (v + j) % 256 = y at *
      have HS := hide hset
      clear hset e1
      go_wp2
      go_roundw
      case rel => exact ⟨j + 1, by omega, by go_num, HS, hbe.setCell (Nat.le_refl _) _⟩
      case measure => simp [intOf]; omega
    · have hjn' : ¬ (j : Int) < 32 := by omega
      obtain rfl : j = 32 := by omega
      have hb' := unhide hb
      rw [Nat.sub_self, List.replicate_zero, List.append_nil] at hb'
      have HB := hide hb'
      clear hb' hb
      go_wp2
      go_ret
      exact ⟨rfl, unhide HB, hbe⟩

end Go.Proofs.Ygcsaa
