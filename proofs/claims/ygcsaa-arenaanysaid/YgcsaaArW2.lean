/-
  law.playArena: the arms.
-/
import Derived.Test.YgcsaaArV
namespace Go.Proofs.Ygcsaa
open Go.RowKit
set_option linter.unusedSimpArgs false
set_option linter.unusedVariables false

set_option maxRecDepth 10000 in
set_option maxHeartbeats 1000000 in
theorem w30_4 {B g : Nat} {w : World} {F : World → List (List Nat) → Prop} {vs : Value} {R : MR} (a b n f fr : Nat) (HF : F83 F) (hB : B ≤ w.heap.size)
    (T0 : ∀ W, Below w.heap.size w W → Calls Saag.prog 78 #[.pointer (some ⟨g, 0, none⟩), .int .u32 (a : Int)] W fun e w1 => GL e B W w1 F R) :
    Calls Saag.prog 30 #[.pointer (some ⟨g, 0, none⟩), .agg (opCells 4 a b n f), vs, .int .u64 (fr : Int)] w fun e w' => PG e B w w' F R := by
  have P := playW w 4 a b n f
  have c0 := P.op.kC
  have cA := P.op.aC
  have T := hide (T0 _ P.bel)
  have HP := hide P
  have HHF := hide HF
  clear T0 P HF
  go_enter Saag.func30, Saag.ntmps30
  go_wp2_with (refine wpList_alloc83 rfl rfl ?_)
  refine (unhide T).mono ?_
  rintro e w1 ⟨word, ok, L, hwl, rfl, hk, hf, rfl⟩
  have N8 := hide (hk.box (unhide HP).r8)
  have NR := hide (hk.box (unhide HP).r)
  have hb1 := hide ((Kq.start (unhide HP).bel hB).step hk)
  have X1 := hide (Bx.new w1 Z32)
  have HW := hide hwl
  have Hf := hide hf
  clear T HP hk hf hwl
  go_wp2_with (first | refine wpList_alloc60 rfl rfl ?_ | (refine wpList_store60g rfl _ _ rfl _ rfl rfl (unhide HW) (unhide X1) Z32_len ?_; intro w2 X2 u2; have hb2 : Below w1.heap.size w1 w2 := u2.below (below_alloc w1 (.cells (cellsOf Z32) 60)) (Nat.le_refl _); have HX2 := hide X2; have NR2 := hide ((unhide NR).later hb2); have N82 := hide ((unhide N8).later hb2); have hf2 := hide ((unhide HHF).later (unhide Hf) hb2); have hbb2 := hide ((unhide hb1).later hb2 hB); clear X2 u2 hb2) | refine wpList_load60 rfl _ rfl _ rfl word (unhide HW) (unhide HX2) ?_ | (refine wpList_storeW rfl _ _ rfl _ rfl rfl (unhide HW) (unhide NR2) ?_; intro w3 NR3 u3; have k1 := NR3.okC; have f1 := NR3.frozen 0; have N83 := (unhide N82).upd u3 (by show w.heap.size + 1 ≠ w.heap.size + 1 + 1; omega); have hf3 := (unhide HHF).upd (unhide hf2) (unhide NR2) u3; have hbb3 := (unhide hbb2).upd u3 (by show w.heap.size ≤ w.heap.size + 1 + 1; omega) hB; have u4 := Upd.setCell w3 ⟨w.heap.size + 1 + 1, 0, none⟩ (.bool ok); have NR4 := hide (NR3.setOk ok); have N84 := hide (N83.upd u4 (by show w.heap.size + 1 ≠ w.heap.size + 1 + 1; omega)); have hf4 := hide ((unhide HHF).upd hf3 NR3 u4); have hbb4 := hide (hbb3.upd u4 (by show w.heap.size ≤ w.heap.size + 1 + 1; omega) hB); clear NR3 u3 N83 hf3 hbb3 u4) | refine wpList_load83 rfl _ rfl _ rfl (unhide NR4) ?_ | (refine wpList_store83 rfl _ _ rfl _ rfl rfl (unhide HW) (unhide N84) ?_; intro w5 E5 u5))
  refine bodyPost_ret (ret83 rfl _ _ _ rfl E5) rfl ?_
  exact ⟨_, rfl, rfl, (unhide HHF).upd (unhide hf4) (unhide N84) u5, (unhide hbb4).upd u5 (by omega) hB⟩

set_option maxRecDepth 10000 in
set_option maxHeartbeats 1000000 in
theorem w30_6 {B g : Nat} {w : World} {F : World → List (List Nat) → Prop} {vs : Value} {R : MR} (a b n f fr : Nat) (HF : F83 F) (hB : B ≤ w.heap.size)
    (T0 : ∀ W, Below w.heap.size w W → Calls Saag.prog 81 #[.pointer (some ⟨g, 0, none⟩), .int .u32 (a : Int), .int .u8 (f : Int)] W fun e w1 => GB e B W w1 F R) :
    Calls Saag.prog 30 #[.pointer (some ⟨g, 0, none⟩), .agg (opCells 6 a b n f), vs, .int .u64 (fr : Int)] w fun e w' => PG e B w w' F R := by
  have P := playW w 6 a b n f
  have c0 := P.op.kC
  have cA := P.op.aC
  have cF := P.op.fC
  have T := hide (T0 _ P.bel)
  have HP := hide P
  have HHF := hide HF
  clear T0 P HF
  go_enter Saag.func30, Saag.ntmps30
  go_wp2_with (refine wpList_alloc83 rfl rfl ?_)
  refine (unhide T).mono ?_
  rintro e w1 ⟨ok, L, rfl, hk, hf, rfl⟩
  have N8 := hk.box (unhide HP).r8
  have NR := hk.box (unhide HP).r
  have hb1 := (Kq.start (unhide HP).bel hB).step hk
  have k1 := NR.okC
  have f1 := NR.frozen 0
  have NR' := hide (NR.setOk ok)
  have u1 := Upd.setCell w1 ⟨w.heap.size + 1 + 1, 0, none⟩ (.bool ok)
  have N8' := hide (N8.upd u1 (by show w.heap.size + 1 ≠ w.heap.size + 1 + 1; omega))
  have hf' := hide ((unhide HHF).upd hf NR u1)
  have hb2 := hide (hb1.upd u1 (by show w.heap.size ≤ w.heap.size + 1 + 1; omega) hB)
  clear T HP hk hf N8 NR u1 hb1
  go_wp2_with (first | refine wpList_load83 rfl _ rfl _ rfl (unhide NR') ?_ | (refine wpList_store83 rfl _ _ rfl _ rfl rfl Z32_len (unhide N8') ?_; intro w2 E1 u2))
  refine bodyPost_ret (ret83 rfl _ _ _ rfl E1) rfl ?_
  exact ⟨_, rfl, rfl, (unhide HHF).upd (unhide hf') (unhide N8') u2, (unhide hb2).upd u2 (by omega) hB⟩

set_option maxRecDepth 10000 in
set_option maxHeartbeats 1000000 in
theorem w30_7 {B g : Nat} {w : World} {F : World → List (List Nat) → Prop} {vs : Value} {R : MR} (a b n f fr : Nat) (HF : F83 F) (hB : B ≤ w.heap.size)
    (T0 : ∀ W, Below w.heap.size w W → Calls Saag.prog 82 #[.pointer (some ⟨g, 0, none⟩), .int .u32 (a : Int), .int .u32 (b : Int), .int .u32 (n : Int)] W fun e w1 => GB e B W w1 F R) :
    Calls Saag.prog 30 #[.pointer (some ⟨g, 0, none⟩), .agg (opCells 7 a b n f), vs, .int .u64 (fr : Int)] w fun e w' => PG e B w w' F R := by
  have P := playW w 7 a b n f
  have c0 := P.op.kC
  have cA := P.op.aC
  have cB := P.op.bC
  have cN := P.op.nC
  have T := hide (T0 _ P.bel)
  have HP := hide P
  have HHF := hide HF
  clear T0 P HF
  go_enter Saag.func30, Saag.ntmps30
  go_wp2_with (refine wpList_alloc83 rfl rfl ?_)
  refine (unhide T).mono ?_
  rintro e w1 ⟨ok, L, rfl, hk, hf, rfl⟩
  have N8 := hk.box (unhide HP).r8
  have NR := hk.box (unhide HP).r
  have hb1 := (Kq.start (unhide HP).bel hB).step hk
  have k1 := NR.okC
  have f1 := NR.frozen 0
  have NR' := hide (NR.setOk ok)
  have u1 := Upd.setCell w1 ⟨w.heap.size + 1 + 1, 0, none⟩ (.bool ok)
  have N8' := hide (N8.upd u1 (by show w.heap.size + 1 ≠ w.heap.size + 1 + 1; omega))
  have hf' := hide ((unhide HHF).upd hf NR u1)
  have hb2 := hide (hb1.upd u1 (by show w.heap.size ≤ w.heap.size + 1 + 1; omega) hB)
  clear T HP hk hf N8 NR u1 hb1
  go_wp2_with (first | refine wpList_load83 rfl _ rfl _ rfl (unhide NR') ?_ | (refine wpList_store83 rfl _ _ rfl _ rfl rfl Z32_len (unhide N8') ?_; intro w2 E1 u2))
  refine bodyPost_ret (ret83 rfl _ _ _ rfl E1) rfl ?_
  exact ⟨_, rfl, rfl, (unhide HHF).upd (unhide hf') (unhide N8') u2, (unhide hb2).upd u2 (by omega) hB⟩

set_option maxRecDepth 10000 in
set_option maxHeartbeats 1000000 in
theorem w30_8 {B g : Nat} {w : World} {F : World → List (List Nat) → Prop} {vs : Value} {R : MR} (a b n f fr : Nat) (HF : F83 F) (hB : B ≤ w.heap.size)
    (T0 : ∀ W, Below w.heap.size w W → Calls Saag.prog 83 #[.pointer (some ⟨g, 0, none⟩), .int .u32 (a : Int), .int .u32 (n : Int)] W fun e w1 => GR e B W w1 F R) :
    Calls Saag.prog 30 #[.pointer (some ⟨g, 0, none⟩), .agg (opCells 8 a b n f), vs, .int .u64 (fr : Int)] w fun e w' => PG e B w w' F R := by
  have P := playW w 8 a b n f
  have c0 := P.op.kC
  have cA := P.op.aC
  have cN := P.op.nC
  have T := hide (T0 _ P.bel)
  have HP := hide P
  have HHF := hide HF
  clear T0 P HF
  go_enter Saag.func30, Saag.ntmps30
  go_wp2_with (refine wpList_alloc83 rfl rfl ?_)
  refine (unhide T).mono ?_
  rintro e w1 ⟨rv, ro, L, rfl, hr, hk, hf, rfl⟩
  obtain ⟨ra, rn, rc, hv, _⟩ := hr.rdo.shape
  subst hv
  have N8 := hk.box (unhide HP).r8
  have NR := hk.box (unhide HP).r
  have hb1 := (Kq.start (unhide HP).bel hB).step hk
  have k1 := NR.readC
  have f1 := NR.frozen 34
  have NR' := hide (NR.setRead (.slice ra rn rc))
  have u1 := Upd.setCell w1 ⟨w.heap.size + 1 + 1, 34, none⟩ (.slice ra rn rc)
  have N8' := hide (N8.upd u1 (by show w.heap.size + 1 ≠ w.heap.size + 1 + 1; omega))
  have hf' := hide ((unhide HHF).upd hf NR u1)
  have hb2 := hide (hb1.upd u1 (by show w.heap.size ≤ w.heap.size + 1 + 1; omega) hB)
  have hr' := hide (hr.upd u1 (unhide HP).r.lt)
  have hl8 := hide (unhide HP).r8.lt
  have hsz := hide (unhide HP).bel.size
  clear T HP hk hf N8 NR u1 hb1 hr
  go_wp2_with (first | refine wpList_load83 rfl _ rfl _ rfl (unhide NR') ?_ | (refine wpList_store83 rfl _ _ rfl _ rfl rfl Z32_len (unhide N8') ?_; intro w2 E1 u2))
  refine bodyPost_ret (ret83 rfl _ _ _ rfl E1) rfl ?_
  exact ⟨_, rfl, ((unhide hr').upd u2 (unhide hl8)).mono (unhide hsz), (unhide HHF).upd (unhide hf') (unhide N8') u2, (unhide hb2).upd u2 (by omega) hB⟩

end Go.Proofs.Ygcsaa
