/-
  (*mem.Arena).Check.
-/
import Derived.Test.YgcsaaAr2
namespace Go.Proofs.Ygcsaa
open Go.RowKit
set_option linter.unusedSimpArgs false
set_option linter.unusedVariables false

/-- One frame's bases are in order. -/
def Step (bs : List Nat) (i : Nat) : Prop := bs.getD i 0 ≤ bs.getD (i + 1) 0 ∧ (bs.getD (i + 1) 0 - bs.getD i 0) % 32 = 0 ∧ bs.getD (i + 1) 0 - bs.getD i 0 ≤ 717280
/-- Clauses 1 and 2. -/
def Good2 (bs : List Nat) (t : Nat) : Prop := t ≤ 7 ∧ bs.getD 0 0 = 0 ∧ ∀ i, i < t → Step bs i
/-- What Check checks. -/
def Good (n : Nat) (bs : List Nat) (t : Nat) : Prop := Good2 bs t ∧ bs.getD t 0 ≤ n ∧ n ≤ 5020960
/-- The bases are u32s. -/
def U32s (bs : List Nat) : Prop := ∀ i, bs.getD i 0 < 4294967296

/-- The call hands back a bool that tells whether p. -/
def BoolOut (e : Ending) (p : Prop) : Prop := ∃ b : Bool, e = .returned (.bool b) ∧ (b = true ↔ p)

theorem ABox.drewN {w : World} {g : Nat} {bv : Value} {bs : List Nat} {t : Nat} (h : ABox w g bv bs t) (q : Nat) : ABox (w.drewN q) g bv bs t := ⟨h.blk, h.len⟩

set_option maxRecDepth 10000 in
set_option maxHeartbeats 400000 in
theorem check1_any {w : World} {g : Nat} {bv : Value} {bs : List Nat} {t : Nat} (h : ABox w g bv bs t) :
    Calls Saag.prog 126 #[.pointer (some ⟨g, 0, none⟩)] w fun e w' => e = .returned (.bool (decide (t ≤ 7))) ∧ w = w' := by
  have c9 := h.top
  have e : decide ((t : Int) ≤ 7) = decide (t ≤ 7) := by simp; omega
  go_enter Saag.func126, Saag.ntmps126
  go_wp2
  go_ret
  exact ⟨rfl, rfl⟩

set_option maxRecDepth 10000 in
set_option maxHeartbeats 1000000 in
theorem check2_any {w : World} {g : Nat} {bv : Value} {bs : List Nat} {t : Nat} (h : ABox w g bv bs t) (hu : U32s bs) (ht : t < 256) :
    Calls Saag.prog 108 #[.pointer (some ⟨g, 0, none⟩)] w fun e w' => BoolOut e (Good2 bs t) ∧ ∃ q, w' = w.drewN q := by
  have H := hide h
  have HU := hide hu
  clear hu
  go_enter Saag.func108, Saag.ntmps108
  go_wp2_with fail
  refine (check1_any h).mono ?_
  rintro e w' ⟨rfl, rfl⟩
  by_cases h7 : t ≤ 7
  · rw [decide_eq_true h7]
    have c0 := h.base 0 (by omega)
    clear h
    generalize hb0 : bs.getD 0 0 = b0 at *
    by_cases hz : b0 = 0
    · subst hz
      simp only [Nat.add_zero] at c0
      have c9 := (unhide H).top
      go_wp2
      go_loopw [3] (fun i wr => ∃ k q : Nat, k ≤ t ∧ i = .int .u8 k ∧ Hid (∀ j, j < k → Step bs j) ∧ wr = w.drewN q) (fun i _ => t - (intOf i).toNat)
      case atStart => exact ⟨0, 0, Nat.zero_le _, rfl, hide (fun j hj => absurd hj (by omega)), rfl⟩
      case round =>
        obtain ⟨k, q, hk, rfl, hz, rfl⟩ := hrel
        by_cases hkt : k < t
        · have hlt : (k : Int) < (t : Int) := by omega
          have ck := (unhide H).base k (by omega)
          have ck1 := (unhide H).base (k + 1) (by omega)
          have hwr : IntKind.u8.wrap ((k : Int) + 1) = ((k + 1 : Nat) : Int) := by rw [IntKind.wrap_u8]; omega
          have hb1 : (k : Int) < 8 := by omega
          have hb2 : ((k + 1 : Nat) : Int) < 8 := by omega
          have ux := unhide HU k
          have uy := unhide HU (k + 1)
          generalize hx : bs.getD k 0 = x at *
          generalize hy : bs.getD (k + 1) 0 = y at *
          go_wp2
          go_quiet (fail)
          by_cases hxy : y < x
          · have hxy' : (y : Int) < (x : Int) := by omega
            go_wp2
            go_ret
            exact ⟨⟨_, rfl, ⟨by simp, fun hg => absurd (hg.2.2 k hkt).1 (by rw [hx, hy]; omega)⟩⟩, _, by first | rfl | exact drewN_drewN _ _ _⟩
          · have hxy' : ¬ (y : Int) < (x : Int) := by omega
            obtain ⟨d, rfl⟩ : ∃ d, y = x + d := ⟨y - x, by omega⟩
            have hsub : IntKind.u32.wrap (((x + d : Nat) : Int) - (x : Int)) = (d : Int) := by rw [IntKind.wrap_u32]; omega
            have hsub' : IntKind.u32.wrap (d : Int) = (d : Int) := by rw [IntKind.wrap_u32]; omega
            go_wp2
            go_quiet (fail)
            have e4 : (x : Int) + (d : Int) - (x : Int) = (d : Int) := by omega
            rw [e4]
            have hst : Step bs k ↔ d % 32 = 0 ∧ d ≤ 717280 := by
              unfold Step
              rw [hx, hy, Nat.add_sub_cancel_left]
              exact ⟨fun h => h.2, fun h => ⟨by omega, h⟩⟩
            have Hst := hide hst
            have hmod : (d : Int).tmod 32 = ((d % 32 : Nat) : Int) := by rw [Int.tmod_eq_emod_of_nonneg (by omega)]; omega
            clear hst hx hy ck ck1 hsub uy hxy' hxy ux
            generalize hm : d % 32 = m at *
            by_cases hm0 : m = 0
            · subst hm0
              by_cases hd : 717280 < d
              · have hd' : (717280 : Int) < (d : Int) := by omega
                go_wp2
                go_ret
                exact ⟨⟨_, rfl, ⟨by simp, fun hg => absurd ((unhide Hst).1 (hg.2.2 k hkt)).2 (by omega)⟩⟩, _, by first | rfl | exact drewN_drewN _ _ _⟩
              · have hd' : ¬ (717280 : Int) < (d : Int) := by omega
                go_wp2
                go_roundw
                · refine ⟨k + 1, _, by omega, rfl, hide (fun j hj => by
                    by_cases hj' : j = k
                    · subst hj'; exact (unhide Hst).2 ⟨rfl, by omega⟩
                    · exact unhide hz j (by omega)), rfl⟩
                · simp only [intOf]; omega
            · have hm0' : (((m : Nat) : Int) == 0) = false := by simp; omega
              go_wp2
              go_ret
              exact ⟨⟨_, rfl, ⟨by simp, fun hg => absurd ((unhide Hst).1 (hg.2.2 k hkt)).1 hm0⟩⟩, _, by first | rfl | exact drewN_drewN _ _ _⟩
        · have hlt : ¬ (k : Int) < (t : Int) := by omega
          go_wp2
          go_ret
          exact ⟨⟨_, rfl, ⟨fun _ => ⟨h7, hb0, fun i hi => unhide hz i (by omega)⟩, fun _ => rfl⟩⟩, _, rfl⟩
    · have hz' : (((b0 : Nat) : Int) == 0) = false := by simp; omega
      simp only [Nat.add_zero] at c0
      go_wp2
      go_ret
      exact ⟨⟨_, rfl, ⟨by simp, fun hg => absurd (hb0 ▸ hg.2.1) hz⟩⟩, 0, rfl⟩
  · rw [decide_eq_false h7]
    clear h
    go_wp2
    go_ret
    exact ⟨⟨_, rfl, ⟨by simp, fun hg => absurd hg.1 h7⟩⟩, 0, rfl⟩

set_option maxRecDepth 10000 in
set_option maxHeartbeats 1000000 in
theorem check3_any {w : World} {g : Nat} {ao : Option Addr} {n cap : Nat} {bs : List Nat} {t : Nat} (h : ABox w g (.slice ao n cap) bs t) (hu : U32s bs) (ht : t < 256) (hn : n ≤ 140737488355328) :
    Calls Saag.prog 73 #[.pointer (some ⟨g, 0, none⟩)] w fun e w' => BoolOut e (Good n bs t) ∧ ∃ q, w' = w.drewN q := by
  have T := hide (fun q => check2_any (h.drewN q) hu ht)
  by_cases hg : Good2 bs t
  · have T' : Hid (∀ q, Calls Saag.prog 108 #[.pointer (some ⟨g, 0, none⟩)] (w.drewN q) fun e w' => e = .returned (.bool true) ∧ ∃ m, w' = w.drewN m) := hide (fun q => (unhide T q).mono (by
      rintro e w' ⟨⟨b, rfl, hb⟩, m, rfl⟩
      rw [hb.2 hg]
      exact ⟨rfl, _, drewN_drewN _ _ _⟩))
    have HG := hide hg
    have h7 := hg.1
    have c0 := h.buf
    have c9 := h.top
    have ct := h.base t (by omega)
    have hb1 : (t : Int) < 8 := by omega
    have ux := hu t
    have hg3 : Good n bs t ↔ bs.getD t 0 ≤ n ∧ n ≤ 5020960 := ⟨fun h => h.2, fun h => ⟨hg, h⟩⟩
    have HG3 := hide hg3
    clear hg3 hg T h hu HG
    generalize bs.getD t 0 = x at *
    have hw1 : IntKind.u64.wrap (x : Int) = (x : Int) := by rw [IntKind.wrap_u64]; omega
    have hw2 : IntKind.u64.wrap (n : Int) = (n : Int) := by rw [IntKind.wrap_u64]; omega
    by_cases h1 : x ≤ n
    · have h1' : (x : Int) ≤ (n : Int) := by omega
      by_cases h2 : n ≤ 5020960
      · have h2' : (n : Int) ≤ 5020960 := by omega
        go_enter Saag.func73, Saag.ntmps73
        go_wp2
        go_quiet ((go_at_call 108; exact unhide T' _))
        go_wp2
        go_ret
        exact ⟨⟨_, rfl, ⟨fun _ => (unhide HG3).2 ⟨h1, h2⟩, fun _ => rfl⟩⟩, _, rfl⟩
      · have h2' : decide ((n : Int) ≤ 5020960) = false := by simp; omega
        go_enter Saag.func73, Saag.ntmps73
        go_wp2
        go_quiet ((go_at_call 108; exact unhide T' _))
        go_wp2
        go_ret
        exact ⟨⟨_, rfl, ⟨by simp, fun hg => absurd ((unhide HG3).1 hg).2 h2⟩⟩, _, rfl⟩
    · have h1' : decide ((x : Int) ≤ (n : Int)) = false := by simp; omega
      go_enter Saag.func73, Saag.ntmps73
      go_wp2
      go_quiet ((go_at_call 108; exact unhide T' _))
      go_wp2
      go_ret
      exact ⟨⟨_, rfl, ⟨by simp, fun hg => absurd ((unhide HG3).1 hg).1 h1⟩⟩, _, rfl⟩
  · have T' : Hid (∀ q, Calls Saag.prog 108 #[.pointer (some ⟨g, 0, none⟩)] (w.drewN q) fun e w' => e = .returned (.bool false) ∧ ∃ m, w' = w.drewN m) := hide (fun q => (unhide T q).mono (by
      rintro e w' ⟨⟨b, rfl, hb⟩, m, rfl⟩
      refine ⟨?_, _, drewN_drewN _ _ _⟩
      cases b with
      | false => rfl
      | true => exact absurd (hb.1 rfl) hg))
    clear T h hu
    go_enter Saag.func73, Saag.ntmps73
    go_wp2
    go_quiet ((go_at_call 108; exact unhide T' _))
    go_wp2
    go_ret
    exact ⟨⟨_, rfl, ⟨by simp, fun h => absurd h.1 hg⟩⟩, _, rfl⟩

set_option maxRecDepth 10000 in
set_option maxHeartbeats 1000000 in
theorem check_any {w : World} {g : Nat} {ao : Option Addr} {n cap : Nat} {bs : List Nat} {t : Nat} (h : ABox w g (.slice ao n cap) bs t) (hu : U32s bs) (ht : t < 256) (hn : n ≤ 140737488355328) :
    Calls Saag.prog 29 #[.pointer (some ⟨g, 0, none⟩)] w fun e w' => BoolOut e (Good n bs t) ∧ ∃ q, w' = w.drewN q := by
  have T := hide (check3_any h hu ht hn)
  clear h hu
  go_enter Saag.func29, Saag.ntmps29
  go_wp2_with fail
  refine (unhide T).mono ?_
  rintro e w' ⟨⟨b, rfl, hb⟩, q, rfl⟩
  have HB := hide hb
  clear hb
  go_wp2
  go_ret
  exact ⟨⟨b, rfl, unhide HB⟩, q, rfl⟩

end Go.Proofs.Ygcsaa
