/-
  An Arena that passes Check; part, Load32, Read on it.
-/
import Derived.Test.YgcsaaAr5
import Derived.Laws.Cover3
import Derived.Laws.ResultCell
namespace Go.Proofs.Ygcsaa
open Go.RowKit
set_option linter.unusedSimpArgs false
set_option linter.unusedVariables false

/-- l places of xs, from place o on. -/
def sg (xs : List Nat) (o l : Nat) : List Nat := (xs.drop o).take l
theorem sg_len {xs : List Nat} {o l : Nat} (h : o + l ≤ xs.length) : (sg xs o l).length = l := by simp [sg]; omega
theorem sg_dig {xs : List Nat} (h : M.Dig xs) (o l : Nat) : M.Dig (sg xs o l) := fun x hx => h x (List.mem_of_mem_drop (List.mem_of_mem_take hx))
theorem sg_getD {xs : List Nat} {o l i : Nat} (h : o + l ≤ xs.length) (hi : i < l) : (sg xs o l).getD i 0 = xs.getD (o + i) 0 := by
  simp [sg, List.getD_eq_getElem?_getD, List.getElem?_take, hi]

/-- An Arena that passes Check: its box g, its buffer's block (nil: none), the bytes, the bases, the top. -/
structure ASt (w : World) (g : Nat) (ob : Option Nat) (xs bs : List Nat) (t : Nat) : Prop where
  box : ABox w g (bufv ob xs.length) bs t
  nl : ob = none → xs = []
  buf : ∀ b, ob = some b → Blk w b xs
  u32 : U32s bs
  good : Good xs.length bs t
  dig : M.Dig xs

/-- Where the top frame begins, and its length. -/
def loA (bs : List Nat) (t : Nat) : Nat := bs.getD (t - 1) 0
def mA (bs : List Nat) (t : Nat) : Nat := bs.getD t 0 - bs.getD (t - 1) 0
def Fits (bs : List Nat) (t off l : Nat) : Prop := t ≠ 0 ∧ off + l ≤ mA bs t

theorem ASt.top_le {w : World} {g : Nat} {ob : Option Nat} {xs bs : List Nat} {t : Nat} (h : ASt w g ob xs bs t) : loA bs t + mA bs t ≤ xs.length := by
  have h1 := h.good.2.1
  have h2 := good_mono h.good t (t - 1) (by omega) (Nat.le_refl _)
  unfold loA mA
  omega
theorem ASt.fits_le {w : World} {g : Nat} {ob : Option Nat} {xs bs : List Nat} {t off l : Nat} (h : ASt w g ob xs bs t) (hf : Fits bs t off l) : loA bs t + off + l ≤ xs.length := by
  have := h.top_le
  have := hf.2
  omega
theorem ASt.drewN {w : World} {g : Nat} {ob : Option Nat} {xs bs : List Nat} {t : Nat} (h : ASt w g ob xs bs t) (q : Nat) : ASt (w.drewN q) g ob xs bs t :=
  ⟨h.box.drewN q, h.nl, h.buf, h.u32, h.good, h.dig⟩
theorem ASt.later {w w' : World} {g : Nat} {ob : Option Nat} {xs bs : List Nat} {t : Nat} (h : ASt w g ob xs bs t) (hb : Below w.heap.size w w') : ASt w' g ob xs bs t :=
  ⟨h.box.later hb, h.nl, fun b e => (h.buf b e).below hb (h.buf b e).lt, h.u32, h.good, h.dig⟩

/-- What part hands back of such an Arena. -/
def PartOf (e : Ending) (ob : Option Nat) (bs : List Nat) (t off l : Nat) : Prop :=
  (Fits bs t off l ∧ ∃ v, e = .returned (.tuple #[v, .bool true]) ∧ Sub ob (loA bs t + off) l v) ∨ (¬ Fits bs t off l ∧ e = .returned (.tuple #[.slice none 0 0, .bool false]))

theorem part_any {w : World} {g : Nat} {ob : Option Nat} {xs bs : List Nat} {t : Nat} (off l : Nat) (ho : off < 4294967296) (hl : l < 4294967296) (h : ASt w g ob xs bs t) :
    Calls Saag.prog 110 #[.pointer (some ⟨g, 0, none⟩), .int .u32 (off : Int), .int .u32 (l : Int)] w fun e w' => PartOf e ob bs t off l ∧ ∃ q, w' = w.drewN q := by
  cases t with
  | zero =>
    refine (part_none off l h.box).mono ?_
    rintro e w' ⟨rfl, h⟩
    exact ⟨.inr ⟨fun hf => hf.1 rfl, rfl⟩, h⟩
  | succ k =>
    refine (part_some off l ho hl h.box h.u32 h.good rfl (fun e => by rw [h.nl e]; rfl)).mono ?_
    rintro e w' ⟨h | h, hq⟩
    · exact ⟨.inl ⟨⟨by omega, h.1⟩, h.2⟩, hq⟩
    · exact ⟨.inr ⟨fun hf => h.1 hf.2, h.2⟩, hq⟩

/-- A [32]byte loaded out of the middle of a block of bytes. -/
theorem wpList_loadmid60 {ops : Array Oper} {rest : List Oper} {o : Oper} {a : Act} {w : World} {Q : Exit → Act → World → Prop} (hg : o.guard = none) (x : Operand) (ho : o.op = .load 60 x) (b k : Nat) (hx : a.eval x = .pointer (some ⟨b, k, none⟩))
    (xs : List Nat) (hb : Blk w b xs) (hl : k + 32 ≤ xs.length) (h : wpList Saag.prog ops Q rest (a.put o.dst (.agg (cellsOf (sg xs k 32)))) w) : wpList Saag.prog ops Q (o :: rest) a w := by
  refine wpList_load_mid hg 60 x ho b k hx ((sg xs k 32).map fun x => Value.int .u8 ((x : Nat) : Int)) _ ?_ Saag.underlying60 rfl (by rw [Saag.info60, List.length_map, sg_len hl]) h
  intro j v hj
  have hj' : j < 32 := by
    have := (List.getElem?_eq_some_iff.1 hj).1
    rw [List.length_map, sg_len hl] at this
    exact this
  rw [hb.cell (k + j) (by omega), ← sg_getD hl hj']
  have hj2 : j < (sg xs k 32).length := by rw [sg_len hl]; exact hj'
  simp [hj2] at hj
  rw [← hj]
  simp [List.getD_eq_getElem?_getD, hj2]

theorem Bx.upd {w w' : World} {g h : Nat} {xs : List Nat} (b : Bx w g xs) (u : Upd w w' h) (hne : g ≠ h) : Bx w' g xs := by unfold Bx; rw [u.block g hne]; exact b
theorem Bx.drewN {w : World} {g : Nat} {xs : List Nat} (b : Bx w g xs) (q : Nat) : Bx (w.drewN q) g xs := b

/-- A [32]byte stored over another. -/
theorem wpList_store60g {ops : Array Oper} {rest : List Oper} {o : Oper} {a : Act} {w : World} {Q : Exit → Act → World → Prop} (hg : o.guard = none) (x y : Operand) (ho : o.op = .store 60 x y) (g : Nat) (e1 : a.eval x = .pointer (some ⟨g, 0, none⟩))
    {xs : List Nat} (e2 : a.eval y = .agg (cellsOf xs)) (hl : xs.length = 32) {ys : List Nat} (hb : Bx w g ys) (hl' : ys.length = 32)
    (h : ∀ w', Bx w' g xs → Upd w w' g → wpList Saag.prog ops Q rest (a.put o.dst undef) w') : wpList Saag.prog ops Q (o :: rest) a w := by
  refine wpList_store_row hg 60 x y ho g (cellsOf xs) e1 e2 60 (cellsOf ys) hb (by rw [Saag.info60, cellsOf_size, hl]) (by rw [cellsOf_size, cellsOf_size, hl, hl']) (cellsOf_one xs) (h _ ?_ (Upd.setRow _ _ _))
  unfold Bx
  rw [setRow_heap w g _ _ 60 _ hb]

theorem ret60 {fn : Func} {p u : Tmp} (h : fn.results = #[.cell p 60, .tmp u]) (tmps : Array Value) (w : World) (g : Nat) {xs : List Nat} (hp : tmps.getD p undef = .pointer (some ⟨g, 0, none⟩)) (hb : Bx w g xs) (hl : xs.length = 32) :
    (results fn tmps).run Saag.prog w = .ok (.tuple #[.agg (cellsOf xs), tmps.getD u undef]) w := by
  rw [results_cell_tmp h, hp]
  simp [asAddr, Result.andThen, run_loadVar_row w g 60 60 (cellsOf xs) (0, 0) _ hb Saag.underlying60 rfl (by rw [Saag.info60, cellsOf_size, hl])]

/-- What Load32 hands back. -/
def LoadOf (e : Ending) (xs bs : List Nat) (t off : Nat) : Prop :=
  (Fits bs t off 32 ∧ e = .returned (.tuple #[.agg (cellsOf (sg xs (loA bs t + off) 32)), .bool true])) ∨ (¬ Fits bs t off 32 ∧ e = .returned (.tuple #[.agg (cellsOf Z32), .bool false]))

set_option maxRecDepth 10000 in
set_option maxHeartbeats 1000000 in
theorem load32_any {w : World} {g : Nat} {ob : Option Nat} {xs bs : List Nat} {t : Nat} (off : Nat) (ho : off < 4294967296) (h : ASt w g ob xs bs t) :
    Calls Saag.prog 78 #[.pointer (some ⟨g, 0, none⟩), .int .u32 (off : Int)] w fun e w' => LoadOf e xs bs t off ∧ Below w.heap.size w w' := by
  have hB0 := below_alloc w (.cells (cellsOf Z32) 60)
  have S1 := h.later hB0
  have T := hide (part_any off 32 ho (by omega) S1)
  have X1 := hide (Bx.new w Z32)
  have HS := hide S1
  have HB0 := hide hB0
  clear S1 hB0 h
  go_enter Saag.func78, Saag.ntmps78
  go_wp2_with (refine wpList_alloc60 rfl rfl ?_)
  refine (unhide T).mono ?_
  rintro e w' ⟨⟨hf, v, rfl, hs⟩ | ⟨hf, rfl⟩, q, rfl⟩
  · have hle := (unhide HS).fits_le hf
    rcases hs with ⟨h0, _⟩ | ⟨_, b, rfl, rfl⟩
    · cases h0
    have hat : ∀ w, (Instr.arrayAt 60 (.slice (some ⟨b, loA bs t + off, none⟩) 32 32)).run Saag.prog w = .ok (.pointer (some ⟨b, loA bs t + off, none⟩)) w := fun w => run_arrayAt w 60 5 32 _ 32 32 Saag.underlying60 (Nat.le_refl _)
    have K1 : Blk ((w.alloc (Obj.cells (cellsOf Z32) 60)).drewN q) b xs := ((unhide HS).buf b rfl)
    have X2 : Bx ((w.alloc (Obj.cells (cellsOf Z32) 60)).drewN q) w.heap.size Z32 := (unhide X1)
    have KK := hide K1
    have XX := hide X2
    have HBq : Hid (Below w.heap.size w ((w.alloc (Obj.cells (cellsOf Z32) 60)).drewN q)) := hide (bdrew (unhide HB0) q)
    generalize (w.alloc (Obj.cells (cellsOf Z32) 60)).drewN q = W at *
    clear K1 X2 T HS X1 HB0
    go_wp2_with (first | refine wpList_loadmid60 rfl _ rfl _ _ rfl xs (unhide KK) hle ?_ | (refine wpList_store60g rfl _ _ rfl _ rfl rfl (sg_len hle) (unhide XX) Z32_len ?_; intro w2 E1 u2))
    refine bodyPost_ret (ret60 rfl _ _ _ rfl E1 (sg_len hle)) rfl ?_
    exact ⟨.inl ⟨hf, rfl⟩, u2.below (unhide HBq) (Nat.le_refl _)⟩
  · have X2 : Bx ((w.alloc (Obj.cells (cellsOf Z32) 60)).drewN q) w.heap.size Z32 := (unhide X1)
    have XX := hide X2
    have HBq : Hid (Below w.heap.size w ((w.alloc (Obj.cells (cellsOf Z32) 60)).drewN q)) := hide (bdrew (unhide HB0) q)
    generalize (w.alloc (Obj.cells (cellsOf Z32) 60)).drewN q = W at *
    clear X2 T HS X1 HB0
    go_wp2_with (first | refine wpList_zero60 rfl rfl ?_ | (refine wpList_store60g rfl _ _ rfl _ rfl rfl Z32_len (unhide XX) Z32_len ?_; intro w2 E1 u2))
    refine bodyPost_ret (ret60 rfl _ _ _ rfl E1 Z32_len) rfl ?_
    exact ⟨.inr ⟨hf, rfl⟩, u2.below (unhide HBq) (Nat.le_refl _)⟩

end Go.Proofs.Ygcsaa
