/-
  law.playMem: what each method leaves, against mSpec.
-/
import Derived.Test.YgcsaaArV
namespace Go.Proofs.Ygcsaa
open Go.RowKit
set_option linter.unusedSimpArgs false
set_option linter.unusedVariables false

/-- A Mem with these frames lies in block m. -/
def FM (B m : Nat) (w : World) (L : List (List Nat)) : Prop := ∃ Fs v, Fs.map (·.2) = L ∧ MSt B w m v Fs

theorem FM.f83 (B m : Nat) : F83 (FM B m) := by
  constructor
  · intro w w' r size ok word rv L h n u
    obtain ⟨Fs, v, h1, h2⟩ := h
    have hr : ∀ k cs ty, w.heap[k]? = some (.cells cs ty (0, 0)) → ty ≠ 83 → k ≠ r := by
      intro k cs ty hk ht e
      have h1 := n.blk
      rw [← e, hk] at h1
      simp at h1
      exact ht h1.2
    refine ⟨Fs, v, h1, h2.box.upd u (hr m _ _ h2.box (by decide)), h2.fr.same (fun k ⟨cs, hc⟩ _ => u.block k ?_), h2.le⟩
    rcases hc with hc | hc
    · exact hr k _ _ hc (by decide)
    · exact hr k _ _ hc (by decide)
  · intro w w' L h hb
    obtain ⟨Fs, v, h1, h2⟩ := h
    exact ⟨Fs, v, h1, h2.later hb⟩

theorem Kp.mch {B : Nat} {W w1 : World} (h : Mch B W w1) : Kp B W w1 :=
  ⟨h.below, fun n => ⟨by rw [h.tag _ _ _ _ n.blk (by decide) (by decide) (by decide)]; exact n.blk, n.len⟩, fun o => by
    unfold OBox at *
    rw [h.tag _ _ _ _ o (by decide) (by decide) (by decide)]
    exact o⟩

theorem MOutB.gb {B m : Nat} {W w1 : World} {L : List (List Nat)} (h : MOutB B W w1 m L) : Kp B W w1 ∧ FM B m w1 L := by
  obtain ⟨Fs, v, h1, h2, h3⟩ := h
  exact ⟨Kp.mch h3, Fs, v, h1, h2⟩

section
variable {W : World} {B m : Nat} {v : Value} {Fs : List Fr}

theorem gm_put (P : Ending → World → Prop) {off : Nat} {ys : List Nat} (hd : ∀ e w1, P e w1 → PutOut e B W w1 m Fs off ys) {R : MR} (hR : R = mPut (Fs.map (·.2)) off ys) {c : FuncId} {args : Array Value} (h : Calls Saag.prog c args W P) : Calls Saag.prog c args W fun e w1 => GB e B W w1 (FM B m) R := by
  refine h.mono ?_
  intro e w1 hp
  rcases hd e w1 hp with ⟨h1, rfl, h2⟩ | ⟨h1, rfl, h2⟩
  · refine ⟨true, _, rfl, h2.b.gb.1, h2.b.gb.2, ?_⟩
    rw [hR, mPut, if_pos ((has_hasL _ _ _).1 h1), putF_map]
  · refine ⟨false, _, rfl, h2.b.gb.1, h2.b.gb.2, ?_⟩
    rw [hR, mPut, if_neg (fun h => h1 ((has_hasL _ _ _).2 h))]

theorem gm_0 (S : MSt B W m v Fs) (a b n f : Nat) (ss : List Nat) (fr : Nat) : Calls Saag.prog 111 #[.pointer (some ⟨m, 0, none⟩)] W fun e w1 => GB e B W w1 (FM B m) (mSpec 0 a b n f ss fr (Fs.map (·.2))) := by
  by_cases ht : Fs.length < 7
  · have hr : mSpec 0 a b n f ss fr (Fs.map (·.2)) = ⟨true, 0, Z32, none, Fs.map (·.2) ++ [[]]⟩ := by
      simp only [mSpec, if_true, List.length_map, ht]
    rw [hr]
    refine (menter_some S ht).mono ?_
    rintro e w1 ⟨rfl, h⟩
    refine ⟨true, _, rfl, h.b.gb.1, h.b.gb.2, ?_⟩
    simp
  · have hr : mSpec 0 a b n f ss fr (Fs.map (·.2)) = ⟨false, 0, Z32, none, Fs.map (·.2)⟩ := by
      simp only [mSpec, if_true, List.length_map, ht, if_false]
    rw [hr]
    refine (menter_full S (by omega)).mono ?_
    rintro e w1 ⟨rfl, rfl⟩
    exact ⟨false, _, rfl, Kp.mch (Mch.refl _ _), ⟨Fs, v, rfl, S⟩, rfl⟩

theorem gm_1 (S : MSt B W m v Fs) (a b n f : Nat) (ss : List Nat) (fr : Nat) : Calls Saag.prog 112 #[.pointer (some ⟨m, 0, none⟩)] W fun e w1 => GB e B W w1 (FM B m) (mSpec 1 a b n f ss fr (Fs.map (·.2))) := by
  rcases fr_cases Fs with rfl | ⟨Gs, g, rfl⟩
  · refine (mleave_none S).mono ?_
    rintro e w1 ⟨rfl, rfl⟩
    exact ⟨false, _, rfl, Kp.mch (Mch.refl _ _), ⟨[], v, rfl, S⟩, rfl⟩
  · have hr : mSpec 1 a b n f ss fr ((Gs ++ [g]).map (·.2)) = ⟨true, 0, Z32, none, Gs.map (·.2)⟩ := by
      simp [mSpec]
    rw [hr]
    refine (mleave_some S).mono ?_
    rintro e w1 ⟨rfl, h⟩
    exact ⟨true, _, rfl, h.b.gb.1, h.b.gb.2, rfl⟩

theorem gm_2 (S : MSt B W m v Fs) (a b n f : Nat) (ss : List Nat) (fr : Nat) (ha : a < 4294967296) : Calls Saag.prog 113 #[.pointer (some ⟨m, 0, none⟩), .int .u32 (a : Int)] W fun e w1 => GB e B W w1 (FM B m) (mSpec 2 a b n f ss fr (Fs.map (·.2))) := by
  refine (mgrow_any a ha S).mono ?_
  have hne : Fs.map (·.2) ≠ [] ↔ Fs ≠ [] := by simp
  have htop : (topOf (Fs.map (·.2))).length = topL Fs := by rw [topB_map, topB_len]
  have hm : mSpec 2 a b n f ss fr (Fs.map (·.2)) = if ¬ (Fs.map (·.2) ≠ [] ∧ a ≤ 22415) then ⟨false, 0, Z32, none, Fs.map (·.2)⟩ else if 32 * a ≤ (topOf (Fs.map (·.2))).length then ⟨true, 0, Z32, none, Fs.map (·.2)⟩ else ⟨true, 0, Z32, none, growL (Fs.map (·.2)) (32 * a)⟩ := rfl
  rw [hm, htop]
  rintro e w1 (⟨h1, rfl, hp⟩ | ⟨h1, h2, rfl, hp⟩ | ⟨h1, h2, rfl, hp⟩)
  · refine ⟨false, _, rfl, hp.gb.1, hp.gb.2, ?_⟩
    rw [if_pos (fun h => h1 ⟨hne.1 h.1, h.2⟩)]
  · refine ⟨true, _, rfl, hp.gb.1, hp.gb.2, ?_⟩
    rw [if_neg (fun h => h ⟨hne.2 h1.1, h1.2⟩), if_pos h2]
  · refine ⟨true, _, rfl, hp.gb.1, hp.gb.2, ?_⟩
    rw [if_neg (fun h => h ⟨hne.2 h1.1, h1.2⟩), if_neg (by omega)]

theorem gm_3 (S : MSt B W m v Fs) (a b n f : Nat) (ss : List Nat) (fr : Nat) : Calls Saag.prog 114 #[.pointer (some ⟨m, 0, none⟩)] W fun e w1 => GN e B W w1 (FM B m) (mSpec 3 a b n f ss fr (Fs.map (·.2))) := by
  refine (mlen_any S).mono ?_
  rintro e w1 ⟨rfl, q, rfl⟩
  refine ⟨_, _, rfl, Kp.later (below_drewN W q) S.hB, ⟨Fs, v, rfl, S.drewN q⟩, ?_⟩
  have htop : (topOf (Fs.map (·.2))).length = topL Fs := by rw [topB_map, topB_len]
  rw [← htop]
  rfl

theorem gm_4 (S : MSt B W m v Fs) (a b n f : Nat) (ss : List Nat) (fr : Nat) (ha : a < 4294967296) : Calls Saag.prog 115 #[.pointer (some ⟨m, 0, none⟩), .int .u32 (a : Int)] W fun e w1 => GL e B W w1 (FM B m) (mSpec 4 a b n f ss fr (Fs.map (·.2))) := by
  refine (mload32_any a ha S).mono ?_
  have hm : mSpec 4 a b n f ss fr (Fs.map (·.2)) = if HasL (Fs.map (·.2)) a 32 then ⟨true, 0, sg (topOf (Fs.map (·.2))) a 32, none, Fs.map (·.2)⟩ else ⟨false, 0, Z32, none, Fs.map (·.2)⟩ := rfl
  rw [hm]
  rintro e w1 ⟨⟨h1, rfl⟩ | ⟨h1, rfl⟩, hb⟩
  · refine ⟨_, true, _, ?_, rfl, Kp.later hb S.hB, ⟨Fs, v, rfl, S.later hb⟩, ?_⟩
    · have := ((has_hasL _ _ _).1 h1).2
      rw [topB_map] at this
      exact sg_len this
    · rw [if_pos ((has_hasL _ _ _).1 h1), topB_map]
  · refine ⟨_, false, _, Z32_len, rfl, Kp.later hb S.hB, ⟨Fs, v, rfl, S.later hb⟩, ?_⟩
    rw [if_neg (fun h => h1 ((has_hasL _ _ _).2 h))]

theorem gm_5 (S : MSt B W m v Fs) (a b n f : Nat) (ss : List Nat) (fr : Nat) (ha : a < 4294967296) : Calls Saag.prog 116 #[.pointer (some ⟨m, 0, none⟩), .int .u32 (a : Int), .agg (cellsOf (fil f 32))] W fun e w1 => GB e B W w1 (FM B m) (mSpec 5 a b n f ss fr (Fs.map (·.2))) :=
  gm_put _ (fun _ _ h => h) rfl (mstore32_any a (fil f 32) ha (fil_len f 32) (fil_dig f 32) S)

theorem gm_6 (S : MSt B W m v Fs) (a b n f : Nat) (ss : List Nat) (fr : Nat) (ha : a < 4294967296) (hf : f < 256) : Calls Saag.prog 117 #[.pointer (some ⟨m, 0, none⟩), .int .u32 (a : Int), .int .u8 (f : Int)] W fun e w1 => GB e B W w1 (FM B m) (mSpec 6 a b n f ss fr (Fs.map (·.2))) :=
  gm_put _ (fun _ _ h => h) rfl (mstore8_any a f ha hf S)

theorem gm_7 (S : MSt B W m v Fs) (a b n f : Nat) (ss : List Nat) (fr : Nat) (ha : a < 4294967296) (hb : b < 4294967296) (hn : n < 4294967296) : Calls Saag.prog 118 #[.pointer (some ⟨m, 0, none⟩), .int .u32 (a : Int), .int .u32 (b : Int), .int .u32 (n : Int)] W fun e w1 => GB e B W w1 (FM B m) (mSpec 7 a b n f ss fr (Fs.map (·.2))) := by
  refine (mmove_any a b n ha hb hn S).mono ?_
  have hm : mSpec 7 a b n f ss fr (Fs.map (·.2)) = if HasL (Fs.map (·.2)) a n ∧ HasL (Fs.map (·.2)) b n then ⟨true, 0, Z32, none, putL (Fs.map (·.2)) a (sg (topOf (Fs.map (·.2))) b n)⟩ else ⟨false, 0, Z32, none, Fs.map (·.2)⟩ := rfl
  rw [hm]
  rintro e w1 (⟨h1, h2, rfl, h3⟩ | ⟨h1, rfl, h3⟩)
  · refine ⟨true, _, rfl, h3.b.gb.1, h3.b.gb.2, ?_⟩
    rw [if_pos ⟨(has_hasL _ _ _).1 h1, (has_hasL _ _ _).1 h2⟩, putF_map, topB_map]
  · refine ⟨false, _, rfl, h3.b.gb.1, h3.b.gb.2, ?_⟩
    rw [if_neg (fun h => h1 ⟨(has_hasL _ _ _).2 h.1, (has_hasL _ _ _).2 h.2⟩)]

theorem gm_8 (S : MSt B W m v Fs) (a b n f : Nat) (ss : List Nat) (fr : Nat) (ha : a < 4294967296) (hn : n < 4294967296) : Calls Saag.prog 119 #[.pointer (some ⟨m, 0, none⟩), .int .u32 (a : Int), .int .u32 (n : Int)] W fun e w1 => GR e B W w1 (FM B m) (mSpec 8 a b n f ss fr (Fs.map (·.2))) := by
  refine (mread_any a n ha hn S).mono ?_
  rintro e w1 ⟨u, rfl, h1, hb⟩
  refine ⟨u, _, _, rfl, h1, Kp.later hb S.hB, ⟨Fs, v, rfl, S.later hb⟩, ?_⟩
  have hm : mSpec 8 a b n f ss fr (Fs.map (·.2)) = ⟨false, 0, Z32, if HasL (Fs.map (·.2)) a n ∧ n ≠ 0 then some (sg (topOf (Fs.map (·.2))) a n) else none, Fs.map (·.2)⟩ := rfl
  rw [hm]
  congr 1
  unfold readM
  by_cases h : Has Fs a n ∧ n ≠ 0
  · rw [if_pos h, if_pos ⟨(has_hasL _ _ _).1 h.1, h.2⟩, topB_map]
  · rw [if_neg h, if_neg (fun h' => h ⟨(has_hasL _ _ _).2 h'.1, h'.2⟩)]

theorem gm_9 (S : MSt B W m v Fs) {vs : Value} (a b n f : Nat) (ss : List Nat) (fr : Nat) (ha : a < 4294967296) (hfr : fr < 18446744073709551616) (hn : n < 4294967296) (hs : Rd W vs ss) (hss : ss.length ≤ 140737488355328) : Calls Saag.prog 120 #[.pointer (some ⟨m, 0, none⟩), .int .u32 (a : Int), vs, .int .u64 (fr : Int), .int .u32 (n : Int)] W fun e w1 => GB e B W w1 (FM B m) (mSpec 9 a b n f ss fr (Fs.map (·.2))) :=
  gm_put _ (fun _ _ h => h) rfl (mwrite_any a fr n ha hfr hn S hs hss)

theorem gm_10 (S : MSt B W m v Fs) (a b n f : Nat) (ss : List Nat) (fr : Nat) : Calls Saag.prog 121 #[.pointer (some ⟨m, 0, none⟩)] W fun e w1 => GB e B W w1 (FM B m) (mSpec 10 a b n f ss fr (Fs.map (·.2))) := by
  refine (mcheck_any m W).mono ?_
  rintro e w1 ⟨rfl, rfl⟩
  exact ⟨true, _, rfl, Kp.mch (Mch.refl _ _), ⟨Fs, v, rfl, S⟩, rfl⟩

end
end Go.Proofs.Ygcsaa
