/-
  (*mem.Arena).top, part, Len.
-/
import Derived.Test.YgcsaaAr3
namespace Go.Proofs.Ygcsaa
open Go.RowKit
set_option linter.unusedSimpArgs false
set_option linter.unusedVariables false

/-- v is a slice of m bytes, from place k on, of the block ob; where m is nought, its address is whatever. -/
def Sub (ob : Option Nat) (k m : Nat) (v : Value) : Prop := (m = 0 ∧ ∃ ao, v = .slice ao 0 0) ∨ (0 < m ∧ ∃ b, ob = some b ∧ v = .slice (some ⟨b, k, none⟩) m m)

/-- The slice of n bytes at the head of a block, or nil. -/
def bufv (ob : Option Nat) (n : Nat) : Value := match ob with
  | some b => .slice (some ⟨b, 0, none⟩) n n
  | none => .slice none 0 0

theorem Good.step {n : Nat} {bs : List Nat} {t k : Nat} (h : Good n bs t) (hk : k < t) : bs.getD k 0 ≤ bs.getD (k + 1) 0 := (h.1.2.2 k hk).1
theorem good_mono {n : Nat} {bs : List Nat} {t : Nat} (h : Good n bs t) : ∀ j i, i ≤ j → j ≤ t → bs.getD i 0 ≤ bs.getD j 0 := by
  intro j
  induction j with
  | zero => intro i hi _; rw [Nat.le_zero.1 hi]; exact Nat.le_refl _
  | succ j ih =>
    intro i hi hj
    by_cases h' : i = j + 1
    · rw [h']; exact Nat.le_refl _
    · exact Nat.le_trans (ih i (by omega) (by omega)) (h.step (by omega))

set_option maxRecDepth 10000 in
set_option maxHeartbeats 1000000 in
theorem top_none {w : World} {g : Nat} {bv : Value} {bs : List Nat} (h : ABox w g bv bs 0) :
    Calls Saag.prog 109 #[.pointer (some ⟨g, 0, none⟩)] w fun e w' => e = .returned (.tuple #[.slice none 0 0, .bool false]) ∧ ∃ q, w' = w.drewN q := by
  have c9 := h.top
  clear h
  go_enter Saag.func109, Saag.ntmps109
  go_wp2
  go_ret2
  exact ⟨rfl, 0, rfl⟩

set_option maxRecDepth 10000 in
set_option maxHeartbeats 1000000 in
theorem top_some {w : World} {g : Nat} {ob : Option Nat} {n : Nat} {bs : List Nat} {t k : Nat} (h : ABox w g (bufv ob n) bs t) (hu : U32s bs) (hg : Good n bs t) (hk : t = k + 1) (hn : ob = none → n = 0) :
    Calls Saag.prog 109 #[.pointer (some ⟨g, 0, none⟩)] w fun e w' => (∃ v, e = .returned (.tuple #[v, .bool true]) ∧ Sub ob (bs.getD k 0) (bs.getD t 0 - bs.getD k 0) v) ∧ ∃ q, w' = w.drewN q := by
  have h7 := hg.1.1
  have c9 := h.top
  have c0 := h.buf
  have cl := h.base k (by omega)
  have ch := h.base t (by omega)
  have hb1 : (k : Int) < 8 := by omega
  have hb2 : (t : Int) < 8 := by omega
  have hwr : IntKind.u8.wrap ((t : Int) - 1) = (k : Int) := by rw [IntKind.wrap_u8]; omega
  have hz : ((t : Int) == 0) = false := by simp; omega
  have h6 : decide ((7 : Int) < (t : Int)) = false := by simp; omega
  have hlo := hg.step (k := k) (by omega)
  rw [← hk] at hlo
  have hhi := hg.2.1
  have hmx := hg.2.2
  have u1 := hu k
  have u2 := hu t
  clear h hg hu hk
  generalize bs.getD k 0 = lo at *
  generalize bs.getD t 0 = hi at *
  have i1 : ¬ (hi : Int) < (lo : Int) := by omega
  have hw1 : IntKind.u64.wrap (hi : Int) = (hi : Int) := by rw [IntKind.wrap_u64]; omega
  have hw2 : IntKind.u64.wrap (n : Int) = (n : Int) := by rw [IntKind.wrap_u64]; omega
  have i2 : decide ((n : Int) < (hi : Int)) = false := by simp; omega
  have i1' : decide ((hi : Int) < (lo : Int)) = false := by simp; omega
  cases ob with
  | none =>
    have := hn rfl
    subst this
    obtain rfl : hi = 0 := by omega
    obtain rfl : lo = 0 := by omega
    simp only [bufv] at *
    go_enter Saag.func109, Saag.ntmps109
    go_wp2
    go_quiet (fail)
    go_wp2
    go_quiet (fail)
    go_wp2
    go_ret2
    exact ⟨⟨_, rfl, .inl ⟨rfl, _, rfl⟩⟩, _, rfl⟩
  | some b =>
    simp only [bufv] at *
    have i3 : (lo : Int) ≤ (hi : Int) := by omega
    have i4 : (hi : Int) ≤ (n : Int) := by omega
    by_cases he : hi = lo
    · subst he
      go_enter Saag.func109, Saag.ntmps109
      go_wp2
      go_quiet (fail)
      go_wp2
      go_quiet (fail)
      go_wp2
      go_ret2
      exact ⟨⟨_, rfl, .inl ⟨Nat.sub_self _, _, rfl⟩⟩, _, rfl⟩
    · go_enter Saag.func109, Saag.ntmps109
      go_wp2
      go_quiet (fail)
      go_wp2
      go_quiet (fail)
      go_wp2
      go_ret2
      exact ⟨⟨_, rfl, .inr ⟨by omega, _, rfl, rfl⟩⟩, _, rfl⟩

set_option maxRecDepth 10000 in
set_option maxHeartbeats 1000000 in
theorem part_none {w : World} {g : Nat} {bv : Value} {bs : List Nat} (off n : Nat) (h : ABox w g bv bs 0) :
    Calls Saag.prog 110 #[.pointer (some ⟨g, 0, none⟩), .int .u32 (off : Int), .int .u32 (n : Int)] w fun e w' => e = .returned (.tuple #[.slice none 0 0, .bool false]) ∧ ∃ q, w' = w.drewN q := by
  have T := hide (top_none h)
  clear h
  go_enter Saag.func110, Saag.ntmps110
  go_wp2_with fail
  refine (unhide T).mono ?_
  rintro e w' ⟨rfl, q, rfl⟩
  go_wp2
  go_ret2
  exact ⟨rfl, q, rfl⟩

/-- What part hands back. -/
def PartOut (e : Ending) (ob : Option Nat) (lo m off l : Nat) : Prop :=
  (off + l ≤ m ∧ ∃ v, e = .returned (.tuple #[v, .bool true]) ∧ Sub ob (lo + off) l v) ∨ (¬ off + l ≤ m ∧ e = .returned (.tuple #[.slice none 0 0, .bool false]))

theorem slice_len {ao : Option Addr} {a b : Nat} (h : a = b) : Value.slice ao a a = .slice ao b b := by rw [h]

set_option maxRecDepth 10000 in
set_option maxHeartbeats 1000000 in
theorem part_some {w : World} {g : Nat} {ob : Option Nat} {n : Nat} {bs : List Nat} {t k : Nat} (off l : Nat) (ho : off < 4294967296) (hl : l < 4294967296) (h : ABox w g (bufv ob n) bs t) (hu : U32s bs) (hg : Good n bs t) (hk : t = k + 1) (hn : ob = none → n = 0) :
    Calls Saag.prog 110 #[.pointer (some ⟨g, 0, none⟩), .int .u32 (off : Int), .int .u32 (l : Int)] w fun e w' => PartOut e ob (bs.getD k 0) (bs.getD t 0 - bs.getD k 0) off l ∧ ∃ q, w' = w.drewN q := by
  have T := hide (top_some h hu hg hk hn)
  have hm2 : bs.getD t 0 - bs.getD k 0 ≤ 5020960 := by have := hg.2.1; have := hg.2.2; omega
  clear h hu hg hk hn
  generalize bs.getD t 0 - bs.getD k 0 = m at *
  generalize bs.getD k 0 = lo at *
  have hw1 : IntKind.u32.wrap (m : Int) = (m : Int) := by rw [IntKind.wrap_u32]; omega
  go_enter Saag.func110, Saag.ntmps110
  go_wp2_with fail
  refine (unhide T).mono ?_
  rintro e w' ⟨⟨v, rfl, hs⟩, q, rfl⟩
  rcases hs with ⟨rfl, ao, rfl⟩ | ⟨hm, b, rfl, rfl⟩
  · by_cases h1 : 0 < l
    · have h1' : (0 : Int) < (l : Int) := by omega
      go_wp2
      go_ret2
      exact ⟨.inr ⟨by omega, rfl⟩, q, rfl⟩
    · obtain rfl : l = 0 := by omega
      by_cases h2 : 0 < off
      · have h2' : (0 : Int) < (off : Int) := by omega
        go_wp2
        go_ret2
        exact ⟨.inr ⟨by omega, rfl⟩, q, rfl⟩
      · obtain rfl : off = 0 := by omega
        cases ao with
        | none =>
          go_wp2
          go_ret2
          exact ⟨.inl ⟨by omega, _, rfl, .inl ⟨rfl, _, rfl⟩⟩, q, rfl⟩
        | some a =>
          go_wp2
          go_ret2
          exact ⟨.inl ⟨by omega, _, rfl, .inl ⟨rfl, _, rfl⟩⟩, q, rfl⟩
  · by_cases h1 : m < l
    · have h1' : (m : Int) < (l : Int) := by omega
      go_wp2
      go_ret2
      exact ⟨.inr ⟨by omega, rfl⟩, q, rfl⟩
    · have h1' : decide ((m : Int) < (l : Int)) = false := by simp; omega
      have hw2 : IntKind.u32.wrap ((m : Int) - (l : Int)) = (m : Int) - (l : Int) := by rw [IntKind.wrap_u32]; omega
      by_cases h2 : m - l < off
      · have h2' : (m : Int) - (l : Int) < (off : Int) := by omega
        go_wp2
        go_ret2
        exact ⟨.inr ⟨by omega, rfl⟩, q, rfl⟩
      · have h2' : decide ((m : Int) - (l : Int) < (off : Int)) = false := by simp; omega
        have hw3 : IntKind.u32.wrap ((off : Int) + (l : Int)) = ((off + l : Nat) : Int) := by rw [IntKind.wrap_u32]; omega
        have i1 : (off : Int) ≤ ((off + l : Nat) : Int) := by omega
        have i2 : ((off + l : Nat) : Int) ≤ (m : Int) := by omega
        have i3 := hide (show off + l - off = l by omega)
        by_cases h0 : l = 0
        · subst h0
          go_wp2
          go_ret2
          exact ⟨.inl ⟨by omega, _, rfl, .inl ⟨rfl, _, rfl⟩⟩, q, rfl⟩
        · go_wp2
          go_ret2
          exact ⟨.inl ⟨by omega, _, rfl, .inr ⟨by omega, _, rfl, slice_len (unhide i3)⟩⟩, q, rfl⟩

set_option maxRecDepth 10000 in
set_option maxHeartbeats 1000000 in
theorem len_none {w : World} {g : Nat} {bv : Value} {bs : List Nat} (h : ABox w g bv bs 0) :
    Calls Saag.prog 77 #[.pointer (some ⟨g, 0, none⟩)] w fun e w' => e = .returned (.int .u32 0) ∧ ∃ q, w' = w.drewN q := by
  have T := hide (top_none h)
  clear h
  go_enter Saag.func77, Saag.ntmps77
  go_wp2_with fail
  refine (unhide T).mono ?_
  rintro e w' ⟨rfl, q, rfl⟩
  go_wp2
  go_ret
  exact ⟨rfl, q, rfl⟩

set_option maxRecDepth 10000 in
set_option maxHeartbeats 1000000 in
theorem len_some {w : World} {g : Nat} {ob : Option Nat} {n : Nat} {bs : List Nat} {t k : Nat} (h : ABox w g (bufv ob n) bs t) (hu : U32s bs) (hg : Good n bs t) (hk : t = k + 1) (hn : ob = none → n = 0) :
    Calls Saag.prog 77 #[.pointer (some ⟨g, 0, none⟩)] w fun e w' => e = .returned (.int .u32 ((bs.getD t 0 - bs.getD k 0 : Nat) : Int)) ∧ ∃ q, w' = w.drewN q := by
  have T := hide (top_some h hu hg hk hn)
  have hm2 : bs.getD t 0 - bs.getD k 0 ≤ 5020960 := by have := hg.2.1; have := hg.2.2; omega
  clear h hu hg hk hn
  generalize bs.getD t 0 - bs.getD k 0 = m at *
  generalize bs.getD k 0 = lo at *
  have hw1 : IntKind.u32.wrap (m : Int) = (m : Int) := by rw [IntKind.wrap_u32]; omega
  go_enter Saag.func77, Saag.ntmps77
  go_wp2_with fail
  refine (unhide T).mono ?_
  rintro e w' ⟨⟨v, rfl, hs⟩, q, rfl⟩
  rcases hs with ⟨rfl, ao, rfl⟩ | ⟨hm, b, rfl, rfl⟩
  · go_wp2
    go_ret
    exact ⟨rfl, q, rfl⟩
  · go_wp2
    go_ret
    exact ⟨rfl, q, rfl⟩

end Go.Proofs.Ygcsaa
