/-
  law.playArena: the arms.
-/
import Derived.Test.YgcsaaArV
namespace Go.Proofs.Ygcsaa
open Go.RowKit
set_option linter.unusedSimpArgs false
set_option linter.unusedVariables false

set_option maxRecDepth 10000 in
set_option maxHeartbeats 1000000 in
theorem w30_0 {B g : Nat} {w : World} {F : World → List (List Nat) → Prop} {vs : Value} {R : MR} (a b n f fr : Nat) (HF : F83 F) (hB : B ≤ w.heap.size)
    (T0 : ∀ W, Below w.heap.size w W → Calls Saag.prog 74 #[.pointer (some ⟨g, 0, none⟩)] W fun e w1 => GB e B W w1 F R) :
    Calls Saag.prog 30 #[.pointer (some ⟨g, 0, none⟩), .agg (opCells 0 a b n f), vs, .int .u64 (fr : Int)] w fun e w' => PG e B w w' F R := by
  have P := playW w 0 a b n f
  have c0 := P.op.kC
  have T := hide (T0 _ P.bel)
  have HP := hide P
  have HHF := hide HF
  clear T0 P HF
  go_enter Saag.func30, Saag.ntmps30
  go_wp2_with (refine wpList_alloc83 rfl rfl ?_)
  refine (unhide T).mono ?_
  rintro e w1 ⟨ok, L, rfl, hk, hf, rfl⟩
  have N8 := hk.box (unhide HP).r8
  have NR := hk.box (unhide HP).r
  have hb1 := (Kq.start (unhide HP).bel hB).step hk
  have k1 := NR.okC
  have f1 := NR.frozen 0
  have NR' := hide (NR.setOk ok)
  have u1 := Upd.setCell w1 ⟨w.heap.size + 1 + 1, 0, none⟩ (.bool ok)
  have N8' := hide (N8.upd u1 (by show w.heap.size + 1 ≠ w.heap.size + 1 + 1; omega))
  have hf' := hide ((unhide HHF).upd hf NR u1)
  have hb2 := hide (hb1.upd u1 (by show w.heap.size ≤ w.heap.size + 1 + 1; omega) hB)
  clear T HP hk hf N8 NR u1 hb1
  go_wp2_with (first | refine wpList_load83 rfl _ rfl _ rfl (unhide NR') ?_ | (refine wpList_store83 rfl _ _ rfl _ rfl rfl Z32_len (unhide N8') ?_; intro w2 E1 u2))
  refine bodyPost_ret (ret83 rfl _ _ _ rfl E1) rfl ?_
  exact ⟨_, rfl, rfl, (unhide HHF).upd (unhide hf') (unhide N8') u2, (unhide hb2).upd u2 (by omega) hB⟩

set_option maxRecDepth 10000 in
set_option maxHeartbeats 1000000 in
theorem w30_1 {B g : Nat} {w : World} {F : World → List (List Nat) → Prop} {vs : Value} {R : MR} (a b n f fr : Nat) (HF : F83 F) (hB : B ≤ w.heap.size)
    (T0 : ∀ W, Below w.heap.size w W → Calls Saag.prog 75 #[.pointer (some ⟨g, 0, none⟩)] W fun e w1 => GB e B W w1 F R) :
    Calls Saag.prog 30 #[.pointer (some ⟨g, 0, none⟩), .agg (opCells 1 a b n f), vs, .int .u64 (fr : Int)] w fun e w' => PG e B w w' F R := by
  have P := playW w 1 a b n f
  have c0 := P.op.kC
  have T := hide (T0 _ P.bel)
  have HP := hide P
  have HHF := hide HF
  clear T0 P HF
  go_enter Saag.func30, Saag.ntmps30
  go_wp2_with (refine wpList_alloc83 rfl rfl ?_)
  refine (unhide T).mono ?_
  rintro e w1 ⟨ok, L, rfl, hk, hf, rfl⟩
  have N8 := hk.box (unhide HP).r8
  have NR := hk.box (unhide HP).r
  have hb1 := (Kq.start (unhide HP).bel hB).step hk
  have k1 := NR.okC
  have f1 := NR.frozen 0
  have NR' := hide (NR.setOk ok)
  have u1 := Upd.setCell w1 ⟨w.heap.size + 1 + 1, 0, none⟩ (.bool ok)
  have N8' := hide (N8.upd u1 (by show w.heap.size + 1 ≠ w.heap.size + 1 + 1; omega))
  have hf' := hide ((unhide HHF).upd hf NR u1)
  have hb2 := hide (hb1.upd u1 (by show w.heap.size ≤ w.heap.size + 1 + 1; omega) hB)
  clear T HP hk hf N8 NR u1 hb1
  go_wp2_with (first | refine wpList_load83 rfl _ rfl _ rfl (unhide NR') ?_ | (refine wpList_store83 rfl _ _ rfl _ rfl rfl Z32_len (unhide N8') ?_; intro w2 E1 u2))
  refine bodyPost_ret (ret83 rfl _ _ _ rfl E1) rfl ?_
  exact ⟨_, rfl, rfl, (unhide HHF).upd (unhide hf') (unhide N8') u2, (unhide hb2).upd u2 (by omega) hB⟩

set_option maxRecDepth 10000 in
set_option maxHeartbeats 1000000 in
theorem w30_2 {B g : Nat} {w : World} {F : World → List (List Nat) → Prop} {vs : Value} {R : MR} (a b n f fr : Nat) (HF : F83 F) (hB : B ≤ w.heap.size)
    (T0 : ∀ W, Below w.heap.size w W → Calls Saag.prog 76 #[.pointer (some ⟨g, 0, none⟩), .int .u32 (a : Int)] W fun e w1 => GB e B W w1 F R) :
    Calls Saag.prog 30 #[.pointer (some ⟨g, 0, none⟩), .agg (opCells 2 a b n f), vs, .int .u64 (fr : Int)] w fun e w' => PG e B w w' F R := by
  have P := playW w 2 a b n f
  have c0 := P.op.kC
  have cA := P.op.aC
  have T := hide (T0 _ P.bel)
  have HP := hide P
  have HHF := hide HF
  clear T0 P HF
  go_enter Saag.func30, Saag.ntmps30
  go_wp2_with (refine wpList_alloc83 rfl rfl ?_)
  refine (unhide T).mono ?_
  rintro e w1 ⟨ok, L, rfl, hk, hf, rfl⟩
  have N8 := hk.box (unhide HP).r8
  have NR := hk.box (unhide HP).r
  have hb1 := (Kq.start (unhide HP).bel hB).step hk
  have k1 := NR.okC
  have f1 := NR.frozen 0
  have NR' := hide (NR.setOk ok)
  have u1 := Upd.setCell w1 ⟨w.heap.size + 1 + 1, 0, none⟩ (.bool ok)
  have N8' := hide (N8.upd u1 (by show w.heap.size + 1 ≠ w.heap.size + 1 + 1; omega))
  have hf' := hide ((unhide HHF).upd hf NR u1)
  have hb2 := hide (hb1.upd u1 (by show w.heap.size ≤ w.heap.size + 1 + 1; omega) hB)
  clear T HP hk hf N8 NR u1 hb1
  go_wp2_with (first | refine wpList_load83 rfl _ rfl _ rfl (unhide NR') ?_ | (refine wpList_store83 rfl _ _ rfl _ rfl rfl Z32_len (unhide N8') ?_; intro w2 E1 u2))
  refine bodyPost_ret (ret83 rfl _ _ _ rfl E1) rfl ?_
  exact ⟨_, rfl, rfl, (unhide HHF).upd (unhide hf') (unhide N8') u2, (unhide hb2).upd u2 (by omega) hB⟩

set_option maxRecDepth 10000 in
set_option maxHeartbeats 1000000 in
theorem w30_3 {B g : Nat} {w : World} {F : World → List (List Nat) → Prop} {vs : Value} {R : MR} (a b n f fr : Nat) (HF : F83 F) (hB : B ≤ w.heap.size)
    (T0 : ∀ W, Below w.heap.size w W → Calls Saag.prog 77 #[.pointer (some ⟨g, 0, none⟩)] W fun e w1 => GN e B W w1 F R) :
    Calls Saag.prog 30 #[.pointer (some ⟨g, 0, none⟩), .agg (opCells 3 a b n f), vs, .int .u64 (fr : Int)] w fun e w' => PG e B w w' F R := by
  have P := playW w 3 a b n f
  have c0 := P.op.kC
  have T := hide (T0 _ P.bel)
  have HP := hide P
  have HHF := hide HF
  clear T0 P HF
  go_enter Saag.func30, Saag.ntmps30
  go_wp2_with (refine wpList_alloc83 rfl rfl ?_)
  refine (unhide T).mono ?_
  rintro e w1 ⟨sz, L, rfl, hk, hf, rfl⟩
  have N8 := hk.box (unhide HP).r8
  have NR := hk.box (unhide HP).r
  have hb1 := (Kq.start (unhide HP).bel hB).step hk
  have k1 := NR.sizeC
  have f1 := NR.frozen 1
  have NR' := hide (NR.setSize sz)
  have u1 := Upd.setCell w1 ⟨w.heap.size + 1 + 1, 1, none⟩ (.int .u32 (sz : Int))
  have N8' := hide (N8.upd u1 (by show w.heap.size + 1 ≠ w.heap.size + 1 + 1; omega))
  have hf' := hide ((unhide HHF).upd hf NR u1)
  have hb2 := hide (hb1.upd u1 (by show w.heap.size ≤ w.heap.size + 1 + 1; omega) hB)
  clear T HP hk hf N8 NR u1 hb1
  go_wp2_with (first | refine wpList_load83 rfl _ rfl _ rfl (unhide NR') ?_ | (refine wpList_store83 rfl _ _ rfl _ rfl rfl Z32_len (unhide N8') ?_; intro w2 E1 u2))
  refine bodyPost_ret (ret83 rfl _ _ _ rfl E1) rfl ?_
  exact ⟨_, rfl, rfl, (unhide HHF).upd (unhide hf') (unhide N8') u2, (unhide hb2).upd u2 (by omega) hB⟩

end Go.Proofs.Ygcsaa
