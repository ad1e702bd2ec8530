/-
  law.playArena and law.playMem, whole.
-/
import Derived.Test.YgcsaaArW1
import Derived.Test.YgcsaaArW2
import Derived.Test.YgcsaaArW3
import Derived.Test.YgcsaaArW5
import Derived.Test.YgcsaaArY
import Derived.Test.YgcsaaArX1
import Derived.Test.YgcsaaArX2
import Derived.Test.YgcsaaArX3
import Derived.Test.YgcsaaArX5
namespace Go.Proofs.Ygcsaa
open Go.RowKit
set_option linter.unusedSimpArgs false
set_option linter.unusedVariables false

theorem mSpec_else (k a b n f : Nat) (ss : List Nat) (fr : Nat) (L : List (List Nat)) : mSpec (k + 11) a b n f ss fr L = ⟨false, 0, Z32, none, L⟩ := by
  unfold mSpec
  rw [if_neg (by omega), if_neg (by omega), if_neg (by omega), if_neg (by omega), if_neg (by omega), if_neg (by omega), if_neg (by omega), if_neg (by omega), if_neg (by omega), if_neg (by omega), if_neg (by omega)]

theorem playA_any {B g : Nat} {w : World} {ob : Option Nat} {xs bs ss : List Nat} {t : Nat} {vs : Value} (k a b n f fr : Nat) (ha : a < 4294967296) (hb : b < 4294967296) (hn : n < 4294967296) (hf : f < 256) (hfr : fr < 18446744073709551616) (S : ASt w g ob xs bs t) (hs : Rd w vs ss) (hss : ss.length ≤ 140737488355328) (hB : B ≤ w.heap.size) (hg : B ≤ g) (ho : ∀ b, ob = some b → B ≤ b) :
    Calls Saag.prog 30 #[.pointer (some ⟨g, 0, none⟩), .agg (opCells k a b n f), vs, .int .u64 (fr : Int)] w fun e w' => PG e B w w' (FA g) (mSpec k a b n f ss fr (absF xs bs t)) :=
  match k with
  | 0 => w30_0 a b n f fr (FA.f83 g) hB (fun W hw => am_gb (S.later hw) (Nat.le_trans hB hw.size) hg ho (am_0 (S.later hw) a b n f ss fr))
  | 1 => w30_1 a b n f fr (FA.f83 g) hB (fun W hw => am_gb (S.later hw) (Nat.le_trans hB hw.size) hg ho (am_1 (S.later hw) a b n f ss fr))
  | 2 => w30_2 a b n f fr (FA.f83 g) hB (fun W hw => am_gb (S.later hw) (Nat.le_trans hB hw.size) hg ho (am_2 (S.later hw) a b n f ss fr ha))
  | 3 => w30_3 a b n f fr (FA.f83 g) hB (fun W hw => ga_3 (S.later hw) (Nat.le_trans hB hw.size) a b n f ss fr)
  | 4 => w30_4 a b n f fr (FA.f83 g) hB (fun W hw => ga_4 (S.later hw) (Nat.le_trans hB hw.size) a b n f ss fr ha)
  | 5 => w30_5 a b n f fr (FA.f83 g) hB hf (fun W hw => ga_5 (S.later hw) (Nat.le_trans hB hw.size) hg ho a b n f ss fr ha)
  | 6 => w30_6 a b n f fr (FA.f83 g) hB (fun W hw => am_gb (S.later hw) (Nat.le_trans hB hw.size) hg ho (am_put (S.later hw) (k := 6) (R := mSpec 6 a b n f ss fr (absF xs bs t)) _ (fun _ _ h => h) rfl (store8_any a f ha hf (S.later hw))))
  | 7 => w30_7 a b n f fr (FA.f83 g) hB (fun W hw => am_gb (S.later hw) (Nat.le_trans hB hw.size) hg ho (am_7 (S.later hw) a b n f ss fr ha hb hn))
  | 8 => w30_8 a b n f fr (FA.f83 g) hB (fun W hw => ga_8 (S.later hw) (Nat.le_trans hB hw.size) a b n f ss fr ha hn)
  | 9 => w30_9 a b n f fr (FA.f83 g) hB (fun W hw => am_gb (S.later hw) (Nat.le_trans hB hw.size) hg ho (am_put (S.later hw) (k := 9) (R := mSpec 9 a b n f ss fr (absF xs bs t)) _ (fun _ _ h => h) rfl (write_any a fr n ha hfr hn (S.later hw) (hs.later hw) hss)))
  | 10 => w30_10 a b n f fr (FA.f83 g) hB (fun W hw => am_gb (S.later hw) (Nat.le_trans hB hw.size) hg ho (am_10 (S.later hw) a b n f ss fr))
  | k + 11 => by
    rw [mSpec_else]
    exact w30_d (k + 11) a b n f fr (FA.f83 g) hB (by omega) ⟨xs, bs, t, S.post, rfl⟩

theorem playM_any {B m : Nat} {w : World} {v vs : Value} {Fs : List Fr} {ss : List Nat} (k a b n f fr : Nat) (ha : a < 4294967296) (hb : b < 4294967296) (hn : n < 4294967296) (hf : f < 256) (hfr : fr < 18446744073709551616) (S : MSt B w m v Fs) (hs : Rd w vs ss) (hss : ss.length ≤ 140737488355328) :
    Calls Saag.prog 86 #[.pointer (some ⟨m, 0, none⟩), .agg (opCells k a b n f), vs, .int .u64 (fr : Int)] w fun e w' => PG e B w w' (FM B m) (mSpec k a b n f ss fr (Fs.map (·.2))) :=
  match k with
  | 0 => w86_0 a b n f fr (FM.f83 B m) S.hB (fun W hw => gm_0 (S.later hw) a b n f ss fr)
  | 1 => w86_1 a b n f fr (FM.f83 B m) S.hB (fun W hw => gm_1 (S.later hw) a b n f ss fr)
  | 2 => w86_2 a b n f fr (FM.f83 B m) S.hB (fun W hw => gm_2 (S.later hw) a b n f ss fr ha)
  | 3 => w86_3 a b n f fr (FM.f83 B m) S.hB (fun W hw => gm_3 (S.later hw) a b n f ss fr)
  | 4 => w86_4 a b n f fr (FM.f83 B m) S.hB (fun W hw => gm_4 (S.later hw) a b n f ss fr ha)
  | 5 => w86_5 a b n f fr (FM.f83 B m) S.hB hf (fun W hw => gm_5 (S.later hw) a b n f ss fr ha)
  | 6 => w86_6 a b n f fr (FM.f83 B m) S.hB (fun W hw => gm_6 (S.later hw) a b n f ss fr ha hf)
  | 7 => w86_7 a b n f fr (FM.f83 B m) S.hB (fun W hw => gm_7 (S.later hw) a b n f ss fr ha hb hn)
  | 8 => w86_8 a b n f fr (FM.f83 B m) S.hB (fun W hw => gm_8 (S.later hw) a b n f ss fr ha hn)
  | 9 => w86_9 a b n f fr (FM.f83 B m) S.hB (fun W hw => gm_9 (S.later hw) a b n f ss fr ha hfr hn (hs.later hw) hss)
  | 10 => w86_10 a b n f fr (FM.f83 B m) S.hB (fun W hw => gm_10 (S.later hw) a b n f ss fr)
  | k + 11 => by
    rw [mSpec_else]
    exact w86_d (k + 11) a b n f fr (FM.f83 B m) S.hB (by omega) ⟨Fs, v, rfl, S⟩

end Go.Proofs.Ygcsaa
