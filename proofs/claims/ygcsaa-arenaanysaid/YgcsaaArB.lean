/-
  (*mem.Arena).Grow.
-/
import Derived.Test.YgcsaaArA
import Derived.Lib.AppendZerosOnto
namespace Go.Proofs.Ygcsaa
open Go.RowKit
set_option linter.unusedSimpArgs false
set_option linter.unusedVariables false

/-- v reads as the bytes, out of a block of bytes. -/
def RdT (w : World) (v : Value) (xs : List Nat) : Prop := Rd w v xs ∧ ∀ a n c, v = .slice (some a) n c → ∃ cs, w.heap[a.block]? = some (Obj.cells cs 5 (0, 0))

/-- What a method leaves: the Arena's box reads so. -/
structure APost (w : World) (g : Nat) (xs bs : List Nat) (t : Nat) : Prop where
  box : ∃ bv, ABox w g bv bs t ∧ RdT w bv xs
  u32 : U32s bs
  good : Good xs.length bs t

theorem ASt.rd {w : World} {g : Nat} {ob : Option Nat} {xs bs : List Nat} {t : Nat} (h : ASt w g ob xs bs t) : Rd w (bufv ob xs.length) xs := by
  cases hob : ob with
  | none => rw [h.nl hob]; exact ⟨none, 0, 0, rfl, rfl, Nat.le_refl _, M.dig_replicate_zero 0, Row.nil w none⟩
  | some b => exact ⟨_, _, _, rfl, rfl, Nat.le_refl _, h.dig, (h.buf b hob).row⟩
theorem ASt.post {w : World} {g : Nat} {ob : Option Nat} {xs bs : List Nat} {t : Nat} (h : ASt w g ob xs bs t) : APost w g xs bs t := ⟨⟨_, h.box, h.rd, fun a n c e => by
  cases hob : ob with
  | none => rw [hob] at e; cases e
  | some b => rw [hob] at e; cases e; exact ⟨_, h.buf b hob⟩⟩, h.u32, h.good⟩

theorem rep_cells (n : Nat) : Builtin.zeroCells (Value.int .u8 0).cells n = ((List.replicate n 0).map fun x => Value.int .u8 ((x : Nat) : Int)).toArray := by
  apply Array.ext'
  rw [zero_bytes]

theorem size_nextcap {need cap : Nat} (h : cap < need) (hn : need ≤ 100000000) : Builtin.nextslicecap need cap ≤ 281474976710656 := by
  have := growslice_fits (bytes := 1) h (by omega)
  omega

/-- 'append(buf, make([]byte, k)...)' where buf is full. -/
theorem run_append_zeros (W : World) (ob : Option Nat) (xs : List Nat) (k : Nat) (h0 : 0 < k) (hn : xs.length + k ≤ 100000000) (hd : M.Dig xs) (nl : ob = none → xs = []) (hb : ∀ b, ob = some b → Blk W b xs) :
    ∃ cap w', (∀ ty, (Builtin.append_ #[41, 3] ty #[bufv ob xs.length, .int .i64 (k : Int)]).run Saag.prog W = .ok (.slice (some ⟨W.heap.size, 0, none⟩) (xs.length + k) cap) w') ∧
      Hid (RdT w' (.slice (some ⟨W.heap.size, 0, none⟩) (xs.length + k) cap) (xs ++ List.replicate k 0)) ∧ Below W.heap.size W w' := by
  obtain ⟨i, hi, hz, hs, hby⟩ := info_parts Saag.info5
  have key : ∀ (base : Option Addr), (Builtin.firstCells i.size xs.length (.slice base xs.length xs.length)).run Saag.prog W.drew = .ok ((xs.map fun x => Value.int .u8 ((x : Nat) : Int))).toArray W.drew →
      ∃ cap w', (∀ ty, (Builtin.append_ #[41, 3] ty #[.slice base xs.length xs.length, .int .i64 (k : Int)]).run Saag.prog W = .ok (.slice (some ⟨W.heap.size, 0, none⟩) (xs.length + k) cap) w') ∧
      Hid (RdT w' (.slice (some ⟨W.heap.size, 0, none⟩) (xs.length + k) cap) (xs ++ List.replicate k 0)) ∧ Below W.heap.size W w' := by
    intro base hold
    refine ⟨_, _, fun ty => Lib.run_append_grow_zeros (P := Saag.prog) W 41 3 ty 5 i (.int .u8 0) .i64 .i64 Saag.underlying41 Saag.underlying3 hi hz base xs.length xs.length _ hold k h0 (by omega) (by omega) (by omega) (by rw [hby]; omega) (by rw [hby, Nat.mul_one]; exact size_nextcap (by omega) hn), ?_, ?_⟩
    · refine hide ⟨⟨_, _, _, rfl, by simp, grownCap_ge W _ _ _, M.dig_append hd (M.dig_replicate_zero k), ?_⟩, fun a n c e => by cases e; exact ⟨_, heap_alloc_new W.drew _⟩⟩
      intro j hj
      refine ⟨W.heap.size, 0, rfl, ?_⟩
      show (W.drew.alloc _).cell? ⟨W.drew.heap.size, 0 + j, none⟩ = _
      rw [cell_of_row _ _ _ _ _ _ (heap_alloc_new W.drew _), rep_cells, rep_cells]
      simp only [List.append_toArray, List.getElem?_toArray, Nat.zero_add]
      rw [List.getElem?_append_left (by simp at hj ⊢; omega), ← List.map_append]
      simp only [List.getElem?_map, List.getD_eq_getElem?_getD, List.getElem?_eq_getElem hj, Option.map_some, Option.getD_some]
    · exact bstep (below_drewN W 1) (below_alloc _ _)
  cases hob : ob with
  | none =>
    have hx := nl hob
    subst hx
    exact key none (by simp [Builtin.firstCells])
  | some b =>
    refine key _ ?_
    have hK := hb b hob
    rw [hs]
    exact run_firstCells_some (P := Saag.prog) W.drew 1 xs.length ⟨b, 0, none⟩ xs.length xs.length _ (by simp) (fun j u hj => by
      have hj' : j < xs.length := by
        have := (List.getElem?_eq_some_iff.1 hj).1
        simpa using this
      rw [addr_plain, Nat.zero_add]
      show W.cell? _ = _
      rw [hK.cell j hj']
      simp [hj', List.getD_eq_getElem?_getD] at hj ⊢
      exact hj)

end Go.Proofs.Ygcsaa
