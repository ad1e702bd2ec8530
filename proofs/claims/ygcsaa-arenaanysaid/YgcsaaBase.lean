/-
  What a nat.Nat reads as in memory; blocks of bytes that a call makes.
-/
import Derived.Test.YgcsaaRows
import Derived.Test.YgcsaaMath
import Derived.WalkKit
import Derived.WalkLawsBesides
import Derived.WalkSpells
import Derived.Below
import Derived.Deep.QuietTactic
import Derived.BigQuiet
import Derived.Laws.CopyOwn
namespace Go.Proofs.Ygcsaa
open Go.RowKit
set_option linter.unusedSimpArgs false
set_option linter.unusedVariables false

theorem Saag.info5 : (Saag.prog.info? 5).map (fun i => (i.zero, i.size, i.bytes)) = some (some (.int .u8 0), 1, 1) := by kernel_rfl
theorem Saag.size5 : (Saag.prog.info? 5).map (·.size) = some 1 := by kernel_rfl

theorem hide {p : Prop} (h : p) : Hid p := h
theorem unhide {p : Prop} (h : Hid p) : p := h

theorem addr_plain (b o i : Nat) : (⟨b, o, none⟩ : Addr).add i = ⟨b, o + i, none⟩ := by unfold Addr.add; split <;> simp_all

/-- From the address ao on the bytes xs lie in w. -/
def Row (w : World) (ao : Option Addr) (xs : List Nat) : Prop :=
  ∀ i, i < xs.length → ∃ b off, ao = some ⟨b, off, none⟩ ∧ w.cell? ⟨b, off + i, none⟩ = some (.int .u8 ((xs.getD i 0 : Nat) : Int))

theorem Row.take {w : World} {ao : Option Addr} {xs : List Nat} (h : Row w ao xs) (k : Nat) : Row w ao (xs.take k) := by
  intro i hi
  have hi' : i < xs.length ∧ i < k := by simp at hi; omega
  obtain ⟨b, off, h1, h2⟩ := h i hi'.1
  refine ⟨b, off, h1, ?_⟩
  rw [h2]
  simp [List.getD_eq_getElem?_getD, List.getElem?_take, hi'.2]

theorem Row.below {w w' : World} {ao : Option Addr} {xs : List Nat} {B : Nat} (h : Row w ao xs) (hb : Below B w w') (hB : w.heap.size ≤ B) : Row w' ao xs := by
  intro i hi
  obtain ⟨b, off, h1, h2⟩ := h i hi
  refine ⟨b, off, h1, ?_⟩
  rw [hb.cell (p := ⟨b, off + i, none⟩) (Nat.lt_of_lt_of_le (World.block_lt_of_cell? w _ h2) hB)]
  exact h2

theorem Row.nil (w : World) (ao : Option Addr) : Row w ao [] := fun i hi => absurd hi (by simp)

/-- Block g of w holds the bytes xs, and may be written. -/
def Blk (w : World) (g : Nat) (xs : List Nat) : Prop := w.heap[g]? = some (.cells (xs.map fun x => Value.int .u8 ((x : Nat) : Int)).toArray 5 (0, 0))

theorem Blk.cell {w : World} {g : Nat} {xs : List Nat} (h : Blk w g xs) (i : Nat) (hi : i < xs.length) : w.cell? ⟨g, i, none⟩ = some (.int .u8 ((xs.getD i 0 : Nat) : Int)) := by
  rw [cell_of_row w g i _ _ _ h]
  simp [hi, List.getD_eq_getElem?_getD]

theorem Blk.frozen {w : World} {g : Nat} {xs : List Nat} (h : Blk w g xs) (i : Nat) : w.frozen? ⟨g, i, none⟩ = false := frozen_of_row w g i _ _ h

theorem Blk.lt {w : World} {g : Nat} {xs : List Nat} (h : Blk w g xs) : g < w.heap.size := (Array.getElem?_eq_some_iff.1 h).1

theorem Blk.set {w : World} {g : Nat} {xs : List Nat} (h : Blk w g xs) (i v : Nat) {x : Int} (hx : x = ((v : Nat) : Int)) : Blk (w.setCell ⟨g, i, none⟩ (.int .u8 x)) g (xs.set i v) := by
  subst hx
  unfold Blk
  rw [heap_setCell_same w g i _ _ _ h]
  congr 2
  rw [List.setIfInBounds_toArray, List.map_set]

theorem Blk.other {w : World} {g : Nat} {xs : List Nat} (h : Blk w g xs) {a : Addr} (ha : g ≠ a.block) (v : Value) : Blk (w.setCell a v) g xs := by
  unfold Blk
  rw [heap_setCell_other w a g v ha]
  exact h

theorem Blk.below {w w' : World} {g B : Nat} {xs : List Nat} (h : Blk w g xs) (hb : Below B w w') (hB : g < B) : Blk w' g xs := by
  unfold Blk
  rw [hb.block g hB]
  exact h

theorem Blk.row {w : World} {g : Nat} {xs : List Nat} (h : Blk w g xs) : Row w (some ⟨g, 0, none⟩) xs := by
  intro i hi
  exact ⟨g, 0, rfl, by rw [Nat.zero_add]; exact h.cell i hi⟩

/-- Block g alone has been written. -/
structure Upd (w w' : World) (g : Nat) : Prop where
  os : w'.os = w.os
  tape : w'.tape = w.tape
  output : w'.output = w.output
  size : w'.heap.size = w.heap.size
  block : ∀ k, k ≠ g → w'.heap[k]? = w.heap[k]?

theorem Upd.refl (w : World) (g : Nat) : Upd w w g := ⟨rfl, rfl, rfl, rfl, fun _ _ => rfl⟩
theorem Upd.trans {a b c : World} {g : Nat} (h : Upd a b g) (k : Upd b c g) : Upd a c g :=
  ⟨k.os.trans h.os, k.tape.trans h.tape, k.output.trans h.output, k.size.trans h.size, fun i hi => (k.block i hi).trans (h.block i hi)⟩
theorem Upd.setCell (w : World) (a : Addr) (v : Value) : Upd w (w.setCell a v) a.block :=
  ⟨rfl, rfl, rfl, by simp [World.setCell], fun k hk => heap_setCell_other w a k v hk⟩
theorem Upd.setRow (w : World) (g : Nat) (cs : Array Value) : Upd w (w.setRow g cs) g :=
  ⟨rfl, rfl, rfl, by simp, fun k hk => setRow_other w g k cs hk⟩
theorem Upd.drewN (w : World) (n g : Nat) : Upd w (w.drewN n) g := ⟨rfl, rfl, rfl, rfl, fun _ _ => rfl⟩

theorem Upd.below {B g : Nat} {a w w' : World} (h : Below B a w) (u : Upd w w' g) (hB : B ≤ g) : Below B a w' :=
  h.trans ⟨u.os, u.tape, u.output, by rw [u.size]; exact Nat.le_refl _, fun k hk => u.block k (by omega)⟩

theorem Blk.upd {w w' : World} {g h : Nat} {xs : List Nat} (b : Blk w g xs) (u : Upd w w' h) (hne : g ≠ h) : Blk w' g xs := by
  unfold Blk
  rw [u.block g hne]
  exact b

/-- A copy of the bytes cs into a block of the call's own, from place 'off' on. -/
theorem run_copy_bytes (w : World) (dT sT ty : TypeId) (g off dLen dCap : Nat) (ad : Addr) (sLen sCap : Nat) (cur cs : List Nat) (hu : Saag.prog.underlying dT = some (.slice 5))
    (hblk : Blk w g cur) (hn : cs.length = Nat.min sLen dLen) (hr : Row w (some ad) cs) (hfit : off + cs.length ≤ cur.length) :
    ∃ w', (Builtin.copy_ #[dT, sT] ty #[.slice (some ⟨g, off, none⟩) dLen dCap, .slice (some ad) sLen sCap]).run Saag.prog w = .ok (.int .i64 (cs.length : Int)) w' ∧
      Hid (Blk w' g (splice cur off cs)) ∧ Upd w w' g := by
  have hsrc : ∀ j v, (cs.map fun x => Value.int .u8 ((x : Nat) : Int))[j]? = some v → w.cell? (ad.add j) = some v := by
    intro j v hj
    have hjl : j < cs.length := by
      have := (List.getElem?_eq_some_iff.1 hj).1
      simpa using this
    obtain ⟨b, o, h1, h2⟩ := hr j hjl
    cases h1
    have e : v = .int .u8 ((cs.getD j 0 : Nat) : Int) := by
      simp [hjl, List.getD_eq_getElem?_getD] at hj ⊢
      exact hj.symm
    rw [e, ← h2, addr_plain]
  have h := run_copy_row (P := Saag.prog) w dT sT ty 5 g off dLen dCap ad sLen sCap _ 5 (cs.map fun x => Value.int .u8 ((x : Nat) : Int)) hu Saag.size5 hblk (by simpa using hn) hsrc (by simpa using hfit)
    (by intro v hv; simp at hv; obtain ⟨x, _, rfl⟩ := hv; rfl)
  rw [List.length_map] at h
  refine ⟨_, h, ?_, Upd.setRow _ _ _⟩
  · show Blk _ _ _
    unfold Blk
    rw [setRow_heap w g _ _ 5 _ hblk]
    simp [splice]

/-- The slice value v reads in w as the bytes xs. -/
def Rd (w : World) (v : Value) (xs : List Nat) : Prop := ∃ ao n cap, v = .slice ao n cap ∧ xs.length = n ∧ n ≤ cap ∧ M.Dig xs ∧ Row w ao xs

/-- The slice value v reads in w as the number N, in a hundred digits at most. -/
def Num (w : World) (v : Value) (N : Nat) : Prop := ∃ xs, Rd w v xs ∧ M.val xs = N ∧ xs.length ≤ 100

/-- The slice value v reads in w as the number N, without a zero digit at its top; nought is nil. -/
def Nrm (w : World) (v : Value) (N : Nat) : Prop := ∃ xs, Rd w v xs ∧ M.val xs = N ∧ M.Nrml xs ∧ (xs = [] → v = .slice none 0 0)

theorem Rd.below {w w' : World} {v : Value} {xs : List Nat} {B : Nat} (h : Rd w v xs) (hb : Below B w w') (hB : w.heap.size ≤ B) : Rd w' v xs := by
  obtain ⟨ao, n, cap, h1, h2, h3, h4, h5⟩ := h
  exact ⟨ao, n, cap, h1, h2, h3, h4, h5.below hb hB⟩

theorem Num.below {w w' : World} {v : Value} {N B : Nat} (h : Num w v N) (hb : Below B w w') (hB : w.heap.size ≤ B) : Num w' v N := by
  obtain ⟨xs, h1, h2⟩ := h
  exact ⟨xs, h1.below hb hB, h2⟩

theorem Nrm.below {w w' : World} {v : Value} {N B : Nat} (h : Nrm w v N) (hb : Below B w w') (hB : w.heap.size ≤ B) : Nrm w' v N := by
  obtain ⟨xs, h1, h2⟩ := h
  exact ⟨xs, h1.below hb hB, h2⟩

theorem Num.later {w w' : World} {v : Value} {N : Nat} (h : Num w v N) (hb : Below w.heap.size w w') : Num w' v N := h.below hb (Nat.le_refl _)
theorem Nrm.later {w w' : World} {v : Value} {N : Nat} (h : Nrm w v N) (hb : Below w.heap.size w w') : Nrm w' v N := h.below hb (Nat.le_refl _)

theorem Num.nil (w : World) : Num w (.slice none 0 0) 0 := ⟨[], ⟨none, 0, 0, rfl, rfl, Nat.le_refl _, by intro x hx; simp at hx, Row.nil w none⟩, rfl, by simp⟩
theorem Nrm.nil (w : World) : Nrm w (.slice none 0 0) 0 := ⟨[], ⟨none, 0, 0, rfl, rfl, Nat.le_refl _, by intro x hx; simp at hx, Row.nil w none⟩, rfl, rfl, fun _ => rfl⟩

/-- A normal number below 256^k has at most k digits. -/
theorem nrml_len {xs : List Nat} (n : M.Nrml xs) {k : Nat} (h : M.val xs < 256 ^ k) : xs.length ≤ k := by
  by_cases hx : xs = []
  · subst hx; simp
  · have h1 := M.val_ge n hx
    have h2 : 256 ^ (xs.length - 1) < 256 ^ k := Nat.lt_of_le_of_lt h1 h
    have h3 := (Nat.pow_lt_pow_iff_right (a := 256) (by omega)).1 h2
    omega

theorem Nrm.num {w : World} {v : Value} {N : Nat} (h : Nrm w v N) (hN : N < 256 ^ 100) : Num w v N := by
  obtain ⟨xs, h1, h2, h3, _⟩ := h
  exact ⟨xs, h1, h2, nrml_len h3 (by rw [h2]; exact hN)⟩

/-- What clip hands back. -/
theorem nrm_clip {w : World} {ao : Option Addr} {xs : List Nat} (hd : M.Dig xs) (hr : Row w ao xs) :
    Nrm w (if (M.tr xs).length = 0 then .slice none 0 0 else .slice ao (M.tr xs).length (M.tr xs).length) (M.val xs) := by
  by_cases h0 : (M.tr xs).length = 0
  · rw [if_pos h0]
    have h1 : M.tr xs = [] := List.eq_nil_of_length_eq_zero h0
    have h2 : M.val xs = 0 := by rw [← M.val_tr, h1]; rfl
    rw [h2]
    exact Nrm.nil w
  · rw [if_neg h0]
    refine ⟨M.tr xs, ⟨ao, _, _, rfl, rfl, Nat.le_refl _, M.dig_tr hd, ?_⟩, M.val_tr xs, M.nrml_tr xs, fun h => absurd (by rw [h]; rfl) h0⟩
    rw [M.tr_take]
    exact hr.take _


theorem made_bytes (n : Nat) : madeCells (Value.int .u8 0).cells n = ((List.replicate n 0).map fun x => Value.int .u8 ((x : Nat) : Int)).toArray := by
  apply Array.ext'
  show (madeCells #[Value.int .u8 0] n).toList = _
  rw [toList_madeCells_one, List.map_replicate]
  rfl

/-- 'make' of n bytes: a new block of noughts. -/
theorem wpList_make_bytes (w : World) {ops : Array Oper} {rest : List Oper} {o : Oper} {a : Act} {Q : Exit → Act → World → Prop}
    (hg : o.guard = none) (l c : Operand) (t : TypeId) (hop : o.op = Op.makeSlice t l c) (h1 : Saag.prog.underlying t = some (.slice 5))
    (kl kc : IntKind) (L C : Int) (n : Nat) (hl : a.eval l = .int kl L) (hc : a.eval c = .int kc C) (hL : L = (n : Int)) (hC : C = (n : Int)) (b2 : n ≤ 100000000)
    (hK : ∀ w', Hid (Blk w' w.heap.size (List.replicate n 0)) → Hid (w'.heap.size = w.heap.size + 1) → Below w.heap.size w w' → wpList Saag.prog ops Q rest (a.put o.dst (.slice (some ⟨w.heap.size, 0, none⟩) n n)) w') :
    wpList Saag.prog ops Q (o :: rest) a w := by
  refine wpList_plain hg fun K hK' => ?_
  obtain ⟨i, hi, hz, hs, hb⟩ := info_parts Saag.info5
  subst hL
  subst hC
  have hrun := run_make (P := Saag.prog) w t 5 i (.int .u8 0) h1 hi hz kl kc n n (by omega) (Int.le_refl _) (by rw [hb]; omega) (by omega)
  simp only [Int.toNat_natCast, hs, Nat.mul_one] at hrun
  unfold Oper.wp
  simp [execOp, hop, hl, hc, hrun, Result.andThen]
  refine hK' _ _ (hK _ ?_ ?_ ?_)
  · show Blk _ _ _
    unfold Blk
    rw [heap_alloc_new, made_bytes]
  · show _ = _
    simp
  · exact (Below.refl _ _).alloc (Nat.le_refl _) _

end Go.Proofs.Ygcsaa
