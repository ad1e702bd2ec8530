/-
  (*mem.Arena).Move, Write.
-/
import Derived.Test.YgcsaaAr8
namespace Go.Proofs.Ygcsaa
open Go.RowKit
set_option linter.unusedSimpArgs false
set_option linter.unusedVariables false

theorem zero_bytes (n : Nat) : (Builtin.zeroCells (Value.int .u8 0).cells n).toList = (List.replicate n 0).map fun x => Value.int .u8 ((x : Nat) : Int) := by
  rw [List.map_replicate]
  apply List.ext_getElem?
  intro j
  by_cases hj : j < n
  · simp [Builtin.zeroCells, Value.cells, hj, Nat.mod_one]
  · simp [Builtin.zeroCells, Value.cells, hj]

theorem run_zero5 (w : World) : (zeroValue 5).run Saag.prog w = .ok (.int .u8 0) w := by kernel_rfl

/-- 'clear' of n bytes, from place o on. -/
theorem run_clear_bytes (w : World) (b o n cap : Nat) (xs : List Nat) (h0 : 0 < n) (hb : Blk w b xs) (hl : o + n ≤ xs.length) :
    ∃ w', (∀ ty, (Builtin.clear_ #[41] ty #[.slice (some ⟨b, o, none⟩) n cap]).run Saag.prog w = .ok (.tuple #[]) w') ∧ Hid (Blk w' b (splice xs o (List.replicate n 0))) ∧ Upd w w' b := by
  have hs := blk_setCells b (List.replicate n 0) o w xs hb (by simpa using hl)
  have hst := run_storeCells_cells (P := Saag.prog) b o ((List.replicate n 0).map fun x => Value.int .u8 ((x : Nat) : Int)) 0 w
    (fun j hj => by simp at hj; exact (hb.there o n hl j hj).1) (fun j hj => by simp at hj; exact (hb.there o n hl j hj).2)
    (fun v hv => by simp only [List.mem_map] at hv; obtain ⟨x, _, rfl⟩ := hv; rfl)
  obtain ⟨m, rfl⟩ : ∃ m, n = m + 1 := ⟨n - 1, by omega⟩
  refine ⟨_, fun ty => ?_, hide hs.1, hs.2⟩
  simp only [Builtin.clear_, Sem.run_bind]
  simp [run_underlying Saag.underlying41, run_zero5, zero_bytes]
  rw [show List.replicate (m + 1) (Value.int .u8 0) = (List.replicate (m + 1) 0).map (fun x => Value.int .u8 ((x : Nat) : Int)) by simp, hst]
  rfl

theorem run_clear_none (w : World) (ao : Option Addr) (cap : Nat) : ∀ ty, (Builtin.clear_ #[41] ty #[.slice ao 0 cap]).run Saag.prog w = .ok (.tuple #[]) w := by
  intro ty
  cases ao <;> simp [Builtin.clear_, run_underlying Saag.underlying41]

/-- What Move hands back and leaves. -/
def MvOut (e : Ending) (w w' : World) (g : Nat) (ob : Option Nat) (xs bs : List Nat) (t d s l : Nat) : Prop :=
  (Fits bs t d l ∧ Fits bs t s l ∧ e = .returned (.bool true) ∧ ASt w' g ob (splice xs (loA bs t + d) (sg xs (loA bs t + s) l)) bs t ∧ Chg w w' g ob) ∨
  (¬ (Fits bs t d l ∧ Fits bs t s l) ∧ e = .returned (.bool false) ∧ ASt w' g ob xs bs t ∧ Chg w w' g ob)

set_option maxRecDepth 10000 in
set_option maxHeartbeats 1000000 in
theorem move_any {w : World} {g : Nat} {ob : Option Nat} {xs bs : List Nat} {t : Nat} (d s l : Nat) (hd : d < 4294967296) (hs : s < 4294967296) (hl : l < 4294967296) (h : ASt w g ob xs bs t) :
    Calls Saag.prog 82 #[.pointer (some ⟨g, 0, none⟩), .int .u32 (d : Int), .int .u32 (s : Int), .int .u32 (l : Int)] w fun e w' => MvOut e w w' g ob xs bs t d s l := by
  have T1 := hide (part_any d l hd hl h)
  have T2 := hide (fun q => part_any s l hs hl (h.drewN q))
  have HS := hide h
  clear h
  go_enter Saag.func82, Saag.ntmps82
  go_wp2_with fail
  refine (unhide T1).mono ?_
  rintro e w' ⟨⟨hf, v, rfl, h1⟩ | ⟨hf, rfl⟩, q, rfl⟩
  · go_wp2_with fail
    refine (unhide T2 q).mono ?_
    rintro e w' ⟨⟨hf', v', rfl, h2⟩ | ⟨hf', rfl⟩, q', rfl⟩
    · have S1 := ((unhide HS).drewN q).drewN q'
      have B1 := bdrew (below_drewN w q) q'
      clear T1 T2 HS
      generalize (w.drewN q).drewN q' = W at *
      rcases h1 with ⟨h0, ao, rfl⟩ | ⟨h0, b, rfl, rfl⟩
      · subst h0
        rcases h2 with ⟨_, bo, rfl⟩ | ⟨h0, _⟩
        · have hrun := run_copy_none (P := Saag.prog) W 41 41 3 5 ao bo 0 0 0 0 Saag.underlying41 Saag.size5 rfl
          have e : splice xs (loA bs t + d) (sg xs (loA bs t + s) 0) = xs := by simp [sg, splice_nil]
          have HE := hide e
          have HS1 := hide S1
          have HC := hide (Chg.ofBelow B1 g ob)
          clear S1 B1 e
          go_wp2
          go_ret
          exact .inl ⟨hf, hf', rfl, by rw [unhide HE]; exact unhide HS1, unhide HC⟩
        · omega
      · rcases h2 with ⟨h0', _⟩ | ⟨_, b', hb', rfl⟩
        · omega
        · cases hb'
          have l1 := S1.fits_le hf
          have l2 := S1.fits_le hf'
          obtain ⟨W2, hrun, hblk, hupd⟩ := run_copy_bytes W 41 41 3 b (loA bs t + d) l l ⟨b, loA bs t + s, none⟩ l l xs (sg xs (loA bs t + s) l) Saag.underlying41 (S1.buf b rfl) (by rw [sg_len l2]; simp [Nat.min_def]) ((S1.buf b rfl).sg _ _ l2) (by rw [sg_len l2]; exact l1)
          rw [sg_len l2] at hrun
          have S2 := hide (S1.wrote rfl hupd (unhide hblk) (splice_len (by rw [sg_len l2]; exact l1)) (splice_dig S1.dig (sg_dig S1.dig _ _) _))
          have C2 := hide ((Chg.ofBelow B1 g (some b)).trans (Chg.ofUpd' hupd g))
          clear S1 B1 hblk hupd
          go_wp2
          go_ret
          exact .inl ⟨hf, hf', rfl, unhide S2, unhide C2⟩
    · have HS1 := hide (((unhide HS).drewN q).drewN q')
      have HC := hide (Chg.ofBelow (bdrew (below_drewN w q) q') g ob)
      clear T1 T2 HS
      generalize (w.drewN q).drewN q' = W at *
      go_wp2
      go_ret
      exact .inr ⟨fun h => hf' h.2, rfl, unhide HS1, unhide HC⟩
  · go_wp2_with fail
    refine (unhide T2 q).mono ?_
    rintro e w' ⟨ho, q', rfl⟩
    have HS1 := hide (((unhide HS).drewN q).drewN q')
    have HC := hide (Chg.ofBelow (bdrew (below_drewN w q) q') g ob)
    clear T1 T2 HS
    generalize (w.drewN q).drewN q' = W at *
    rcases ho with ⟨hf', v', rfl, h2⟩ | ⟨hf', rfl⟩
    · go_wp2
      go_ret
      exact .inr ⟨fun h => hf h.1, rfl, unhide HS1, unhide HC⟩
    · go_wp2
      go_ret
      exact .inr ⟨fun h => hf h.1, rfl, unhide HS1, unhide HC⟩

end Go.Proofs.Ygcsaa
