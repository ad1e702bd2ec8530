/-
  law.playArena: the arms.
-/
import Derived.Test.YgcsaaArV
namespace Go.Proofs.Ygcsaa
open Go.RowKit
set_option linter.unusedSimpArgs false
set_option linter.unusedVariables false

set_option maxRecDepth 10000 in
set_option maxHeartbeats 1000000 in
theorem w30_9 {B g : Nat} {w : World} {F : World → List (List Nat) → Prop} {vs : Value} {R : MR} (a b n f fr : Nat) (HF : F83 F) (hB : B ≤ w.heap.size)
    (T0 : ∀ W, Below w.heap.size w W → Calls Saag.prog 84 #[.pointer (some ⟨g, 0, none⟩), .int .u32 (a : Int), vs, .int .u64 (fr : Int), .int .u32 (n : Int)] W fun e w1 => GB e B W w1 F R) :
    Calls Saag.prog 30 #[.pointer (some ⟨g, 0, none⟩), .agg (opCells 9 a b n f), vs, .int .u64 (fr : Int)] w fun e w' => PG e B w w' F R := by
  have P := playW w 9 a b n f
  have c0 := P.op.kC
  have cA := P.op.aC
  have cN := P.op.nC
  have T := hide (T0 _ P.bel)
  have HP := hide P
  have HHF := hide HF
  clear T0 P HF
  go_enter Saag.func30, Saag.ntmps30
  go_wp2_with (refine wpList_alloc83 rfl rfl ?_)
  refine (unhide T).mono ?_
  rintro e w1 ⟨ok, L, rfl, hk, hf, rfl⟩
  have N8 := hk.box (unhide HP).r8
  have NR := hk.box (unhide HP).r
  have hb1 := (Kq.start (unhide HP).bel hB).step hk
  have k1 := NR.okC
  have f1 := NR.frozen 0
  have NR' := hide (NR.setOk ok)
  have u1 := Upd.setCell w1 ⟨w.heap.size + 1 + 1, 0, none⟩ (.bool ok)
  have N8' := hide (N8.upd u1 (by show w.heap.size + 1 ≠ w.heap.size + 1 + 1; omega))
  have hf' := hide ((unhide HHF).upd hf NR u1)
  have hb2 := hide (hb1.upd u1 (by show w.heap.size ≤ w.heap.size + 1 + 1; omega) hB)
  clear T HP hk hf N8 NR u1 hb1
  go_wp2_with (first | refine wpList_load83 rfl _ rfl _ rfl (unhide NR') ?_ | (refine wpList_store83 rfl _ _ rfl _ rfl rfl Z32_len (unhide N8') ?_; intro w2 E1 u2))
  refine bodyPost_ret (ret83 rfl _ _ _ rfl E1) rfl ?_
  exact ⟨_, rfl, rfl, (unhide HHF).upd (unhide hf') (unhide N8') u2, (unhide hb2).upd u2 (by omega) hB⟩

set_option maxRecDepth 10000 in
set_option maxHeartbeats 1000000 in
theorem w30_10 {B g : Nat} {w : World} {F : World → List (List Nat) → Prop} {vs : Value} {R : MR} (a b n f fr : Nat) (HF : F83 F) (hB : B ≤ w.heap.size)
    (T0 : ∀ W, Below w.heap.size w W → Calls Saag.prog 29 #[.pointer (some ⟨g, 0, none⟩)] W fun e w1 => GB e B W w1 F R) :
    Calls Saag.prog 30 #[.pointer (some ⟨g, 0, none⟩), .agg (opCells 10 a b n f), vs, .int .u64 (fr : Int)] w fun e w' => PG e B w w' F R := by
  have P := playW w 10 a b n f
  have c0 := P.op.kC
  have T := hide (T0 _ P.bel)
  have HP := hide P
  have HHF := hide HF
  clear T0 P HF
  go_enter Saag.func30, Saag.ntmps30
  go_wp2_with (refine wpList_alloc83 rfl rfl ?_)
  refine (unhide T).mono ?_
  rintro e w1 ⟨ok, L, rfl, hk, hf, rfl⟩
  have N8 := hk.box (unhide HP).r8
  have NR := hk.box (unhide HP).r
  have hb1 := (Kq.start (unhide HP).bel hB).step hk
  have k1 := NR.okC
  have f1 := NR.frozen 0
  have NR' := hide (NR.setOk ok)
  have u1 := Upd.setCell w1 ⟨w.heap.size + 1 + 1, 0, none⟩ (.bool ok)
  have N8' := hide (N8.upd u1 (by show w.heap.size + 1 ≠ w.heap.size + 1 + 1; omega))
  have hf' := hide ((unhide HHF).upd hf NR u1)
  have hb2 := hide (hb1.upd u1 (by show w.heap.size ≤ w.heap.size + 1 + 1; omega) hB)
  clear T HP hk hf N8 NR u1 hb1
  go_wp2_with (first | refine wpList_load83 rfl _ rfl _ rfl (unhide NR') ?_ | (refine wpList_store83 rfl _ _ rfl _ rfl rfl Z32_len (unhide N8') ?_; intro w2 E1 u2))
  refine bodyPost_ret (ret83 rfl _ _ _ rfl E1) rfl ?_
  exact ⟨_, rfl, rfl, (unhide HHF).upd (unhide hf') (unhide N8') u2, (unhide hb2).upd u2 (by omega) hB⟩

set_option maxRecDepth 10000 in
set_option maxHeartbeats 1000000 in
theorem w30_d {B g : Nat} {w : World} {F : World → List (List Nat) → Prop} {vs : Value} {L : List (List Nat)} (k a b n f fr : Nat) (HF : F83 F) (hB : B ≤ w.heap.size) (hk : 11 ≤ k) (hL : F w L) :
    Calls Saag.prog 30 #[.pointer (some ⟨g, 0, none⟩), .agg (opCells k a b n f), vs, .int .u64 (fr : Int)] w fun e w' => PG e B w w' F ⟨false, 0, Z32, none, L⟩ := by
  have P := playW w k a b n f
  have c0 := P.op.kC
  have h0 : ((k : Int) == 0) = false := by simp; omega
  have h1 : ((k : Int) == 1) = false := by simp; omega
  have h2 : ((k : Int) == 2) = false := by simp; omega
  have h3 : ((k : Int) == 3) = false := by simp; omega
  have h4 : ((k : Int) == 4) = false := by simp; omega
  have h5 : ((k : Int) == 5) = false := by simp; omega
  have h6 : ((k : Int) == 6) = false := by simp; omega
  have h7 : ((k : Int) == 7) = false := by simp; omega
  have h8 : ((k : Int) == 8) = false := by simp; omega
  have h9 : ((k : Int) == 9) = false := by simp; omega
  have h10 : ((k : Int) == 10) = false := by simp; omega
  have hb1 := hide (Kq.start P.bel hB)
  have hf' := hide (HF.later hL P.bel)
  have NR' := hide P.r
  have N8' := hide P.r8
  have HHF := hide HF
  clear P HF hL hk
  go_enter Saag.func30, Saag.ntmps30
  go_wp2_with (first | refine wpList_alloc83 rfl rfl ?_ | refine wpList_load83 rfl _ rfl _ rfl (unhide NR') ?_ | (refine wpList_store83 rfl _ _ rfl _ rfl rfl Z32_len (unhide N8') ?_; intro w2 E1 u2))
  refine bodyPost_ret (ret83 rfl _ _ _ rfl E1) rfl ?_
  exact ⟨_, rfl, rfl, (unhide HHF).upd (unhide hf') (unhide N8') u2, (unhide hb1).upd u2 (by omega) hB⟩

end Go.Proofs.Ygcsaa
