/-
  (*mmodel.Mem).Store32, Store8, Move, Write.
-/
import Derived.Test.YgcsaaArJ
namespace Go.Proofs.Ygcsaa
open Go.RowKit
set_option linter.unusedSimpArgs false
set_option linter.unusedVariables false

theorem Frs.lt {B : Nat} {w : World} {v : Value} {Fs : List Fr} (h : Frs B w v Fs) : ∀ f ∈ Fs, ∀ b, f.1 = some b → b < w.heap.size := fun f hf b e => ((h.ok f hf).blk b e).2.lt
theorem MOut.from {B m : Nat} {w w1 w2 : World} {Fs : List Fr} (h : MOut B w1 w2 m Fs) (k : Mch B w w1) : MOut B w w2 m Fs := by
  obtain ⟨v, h1, h2⟩ := h
  exact ⟨v, h1, k.trans h2⟩
theorem PutOut.from {e : Ending} {B m off : Nat} {w w1 w2 : World} {Fs : List Fr} {zs : List Nat} (h : PutOut e B w1 w2 m Fs off zs) (k : Mch B w w1) : PutOut e B w w2 m Fs off zs := by
  rcases h with ⟨h1, h2, h3⟩ | ⟨h1, h2, h3⟩
  · exact .inl ⟨h1, h2, h3.from k⟩
  · exact .inr ⟨h1, h2, h3.from k⟩

theorem put_ret {e : Ending} {B m off : Nat} {w w' : World} {Fs : List Fr} {zs : List Nat} (h : PutOut e B w w' m Fs off zs) : ∃ b : Bool, e = .returned (.bool b) := by
  rcases h with ⟨_, h, _⟩ | ⟨_, h, _⟩
  · exact ⟨_, h⟩
  · exact ⟨_, h⟩

set_option maxRecDepth 10000 in
set_option maxHeartbeats 1000000 in
theorem mstore32_any {B m : Nat} {w : World} {v : Value} {Fs : List Fr} (off : Nat) (ys : List Nat) (ho : off < 4294967296) (hy : ys.length = 32) (dy : M.Dig ys) (h : MSt B w m v Fs) :
    Calls Saag.prog 116 #[.pointer (some ⟨m, 0, none⟩), .int .u32 (off : Int), .agg (cellsOf ys)] w fun e w' => PutOut e B w w' m Fs off ys := by
  have hb := below_alloc w (.cells (cellsOf ys) 60)
  have T := hide (put_any off ys ho (by omega) (h.later hb) (bo := some ⟨w.heap.size, 0, none⟩) (zn := 32) (zcap := 32) ⟨_, _, _, rfl, hy, Nat.le_refl _, dy, row_box w ys 60⟩ (fun a e f hf e' => by cases e; have := h.fr.lt f hf _ e'; exact absurd this (Nat.lt_irrefl _)))
  have HC := hide (Mch.ofBelow h.hB hb)
  clear h hb
  go_enter Saag.func116, Saag.ntmps116
  go_wp2_with fail
  refine (unhide T).mono ?_
  rintro e w' hp
  obtain ⟨b, rfl⟩ := put_ret hp
  have HP := hide (hp.from (unhide HC))
  clear hp T HC
  go_wp2
  go_ret
  exact unhide HP

theorem row_one (w : World) (x : Nat) : Row (w.alloc (.cells #[.int .u8 (x : Int)] 5)) (some ⟨w.heap.size, 0, none⟩) [x] := by
  intro i hi
  obtain rfl : i = 0 := by simp at hi; omega
  refine ⟨_, _, rfl, ?_⟩
  rw [cell_of_row _ _ _ _ _ _ (heap_alloc_new w _)]
  rfl

set_option maxRecDepth 10000 in
set_option maxHeartbeats 1000000 in
theorem mstore8_any {B m : Nat} {w : World} {v : Value} {Fs : List Fr} (off x : Nat) (ho : off < 4294967296) (hx : x < 256) (h : MSt B w m v Fs) :
    Calls Saag.prog 117 #[.pointer (some ⟨m, 0, none⟩), .int .u32 (off : Int), .int .u8 (x : Int)] w fun e w' => PutOut e B w w' m Fs off [x] := by
  have hb := below_alloc w (.cells #[.int .u8 (x : Int)] 5)
  have T := hide (put_any off [x] ho (by simp) (h.later hb) (bo := some ⟨w.heap.size, 0, none⟩) (zn := 1) (zcap := 1) ⟨_, _, _, rfl, rfl, Nat.le_refl _, M.dig_one hx, row_one w x⟩ (fun a e f hf e' => by cases e; have := h.fr.lt f hf _ e'; exact absurd this (Nat.lt_irrefl _)))
  have HC := hide (Mch.ofBelow h.hB hb)
  clear h hb
  go_enter Saag.func117, Saag.ntmps117
  go_wp2_with fail
  refine (unhide T).mono ?_
  rintro e w' hp
  obtain ⟨b, rfl⟩ := put_ret hp
  have HP := hide (hp.from (unhide HC))
  clear hp T HC
  go_wp2
  go_ret
  exact unhide HP

/-- What Move hands back and leaves. -/
def MMvOut (e : Ending) (B : Nat) (w w' : World) (m : Nat) (Fs : List Fr) (d s l : Nat) : Prop :=
  (Has Fs d l ∧ Has Fs s l ∧ e = .returned (.bool true) ∧ MOut B w w' m (putF Fs d (sg (topB Fs) s l))) ∨ (¬ (Has Fs d l ∧ Has Fs s l) ∧ e = .returned (.bool false) ∧ MOut B w w' m Fs)

set_option maxRecDepth 10000 in
set_option maxHeartbeats 1000000 in
theorem mmove_any {B m : Nat} {w : World} {v : Value} {Fs : List Fr} (d s l : Nat) (hd : d < 4294967296) (hs : s < 4294967296) (hl : l < 4294967296) (h : MSt B w m v Fs) :
    Calls Saag.prog 118 #[.pointer (some ⟨m, 0, none⟩), .int .u32 (d : Int), .int .u32 (s : Int), .int .u32 (l : Int)] w fun e w' => MMvOut e B w w' m Fs d s l := by
  have T1 := hide (has_any d l hd hl h)
  have T2 := hide (fun q => has_any s l hs hl (h.drewN q))
  have HS := hide h
  have HB := hide h.hB
  clear h
  go_enter Saag.func118, Saag.ntmps118
  go_wp2_with fail
  refine (unhide T1).mono ?_
  rintro e w' ⟨⟨b1, rfl, h1⟩, q, rfl⟩
  cases b1 with
  | false =>
    have HC := hide (Mch.ofBelow (unhide HB) (below_drewN w q))
    have HSV := hide ((unhide HS).drewN q)
    have hn : Hid (¬ Has Fs d l) := hide (fun h => by have := h1.2 h; cases this)
    clear T1 T2 h1 HS
    go_wp2
    go_ret
    exact .inr ⟨fun h => unhide hn h.1, rfl, _, unhide HSV, unhide HC⟩
  | true =>
    have H1 := hide (h1.1 rfl)
    clear h1
    go_wp2_with fail
    refine (unhide T2 q).mono ?_
    rintro e w' ⟨⟨b2, rfl, h2⟩, q', rfl⟩
    cases b2 with
    | false =>
      have HC := hide (Mch.ofBelow (unhide HB) (bdrew (below_drewN w q) q'))
      have HSV := hide (((unhide HS).drewN q).drewN q')
      have hn : Hid (¬ Has Fs s l) := hide (fun h => by have := h2.2 h; cases this)
      clear T1 T2 h2 HS
      generalize (w.drewN q).drewN q' = W at *
      go_wp2
      go_ret
      exact .inr ⟨fun h => unhide hn h.2, rfl, _, unhide HSV, unhide HC⟩
    | true =>
      have H2 := hide (h2.1 rfl)
      have HC := hide (Mch.ofBelow (unhide HB) (bdrew (below_drewN w q) q'))
      have HSV := hide (((unhide HS).drewN q).drewN q')
      clear h2 T1 T2 HS
      generalize (w.drewN q).drewN q' = W at *
      go_wp2_with fail
      refine (mread_any s l hs hl (unhide HSV)).mono ?_
      rintro e w2 ⟨vr, rfl, hr, hb2⟩
      have hlen : (sg (topB Fs) s l).length = l := sg_len (by have := (unhide H2).2; rwa [← topB_len] at this)
      have hRd : ∃ bo zn zcap, vr = .slice bo zn zcap ∧ Rd w2 vr (sg (topB Fs) s l) ∧ (∀ a, bo = some a → W.heap.size ≤ a.block) := by
        by_cases h0 : l = 0
        · have hrm : readM Fs s l = none := by rw [readM, if_neg (fun h => h.2 h0)]
          rw [hrm] at hr
          have hr' : vr = .slice none 0 0 := hr
          have hnil : sg (topB Fs) s l = [] := List.eq_nil_of_length_eq_zero (by rw [hlen]; exact h0)
          refine ⟨none, 0, 0, hr', ?_, fun a e => by cases e⟩
          rw [hr', hnil]
          exact ⟨none, 0, 0, rfl, rfl, Nat.le_refl _, M.dig_replicate_zero 0, Row.nil _ _⟩
        · have hrm : readM Fs s l = some (sg (topB Fs) s l) := by rw [readM, if_pos ⟨unhide H2, h0⟩]
          rw [hrm] at hr
          obtain ⟨b, n, cap, hb, hv, hrd⟩ := hr
          exact ⟨_, _, _, hv, hrd, fun a e => by cases e; exact hb⟩
      obtain ⟨bo, zn, zcap, rfl, hrd, hap⟩ := hRd
      have T3 := hide (put_any d (sg (topB Fs) s l) hd (by rw [hlen]; exact hl) ((unhide HSV).later hb2) hrd (fun a e f hf e' => by
        have h1 := hap a e
        have h2 := (unhide HSV).fr.lt f hf _ e'
        omega))
      have HC2 := hide ((unhide HC).trans (Mch.ofBelow (unhide HSV).hB hb2))
      have Hlen := hide hlen
      clear hr hrd hap hlen HC HSV hb2
      go_wp2_with fail
      refine (unhide T3).mono ?_
      rintro e w3 hp
      have hp' := hp.from (unhide HC2)
      rcases hp' with ⟨h1, rfl, h3⟩ | ⟨h1, rfl, h3⟩
      · have H3 := hide h3
        clear hp h3 T3 h1
        go_wp2
        go_ret
        exact .inl ⟨unhide H1, unhide H2, rfl, unhide H3⟩
      · exact absurd (by rw [unhide Hlen]; exact unhide H1) h1

end Go.Proofs.Ygcsaa
