/-
  What playArena and playMem share: the walk's posts, whatever memory lies behind.
-/
import Derived.Test.YgcsaaArR
namespace Go.Proofs.Ygcsaa
open Go.RowKit
set_option linter.unusedSimpArgs false
set_option linter.unusedVariables false

/-! ### The word of an answer stored -/
def setL : List Value → Nat → List Value → List Value
  | C, _, [] => C
  | C, o, v :: r => setL (C.set o v) (o + 1) r

theorem setL_mid : ∀ (vs pre mid post : List Value), mid.length = vs.length → setL (pre ++ (mid ++ post)) pre.length vs = pre ++ (vs ++ post) := by
  intro vs
  induction vs with
  | nil =>
    intro pre mid post h
    have : mid = [] := List.length_eq_zero_iff.1 h
    subst this
    rfl
  | cons v vs ih =>
    intro pre mid post h
    cases mid with
    | nil => simp at h
    | cons m mid =>
      have h' : mid.length = vs.length := by simpa using h
      have e := ih (pre ++ [v]) mid post h'
      have e1 : (pre ++ (m :: mid ++ post)).set pre.length v = pre ++ [v] ++ (mid ++ post) := by
        rw [List.set_append_right _ _ (Nat.le_refl _)]
        simp
      rw [setL, e1]
      rw [List.length_append, List.length_singleton] at e
      rw [e]
      simp

theorem heap_setCells (b : Nat) {ty : TypeId} : ∀ (vs : List Value) (o : Nat) (w : World) (C : List Value), w.heap[b]? = some (.cells C.toArray ty (0, 0)) →
    (w.setCells b o vs).heap[b]? = some (.cells (setL C o vs).toArray ty (0, 0)) ∧ Upd w (w.setCells b o vs) b := by
  intro vs
  induction vs with
  | nil => intro o w C h; exact ⟨h, Upd.refl _ _⟩
  | cons v vs ih =>
    intro o w C h
    have h1 : (w.setCell ⟨b, o, none⟩ v).heap[b]? = some (.cells (C.set o v).toArray ty (0, 0)) := by
      rw [heap_setCell_same w b o _ _ _ h]
      simp
    have h2 := ih (o + 1) _ _ h1
    exact ⟨h2.1, (Upd.setCell w ⟨b, o, none⟩ v).trans h2.2⟩

theorem NBox.setWord {w : World} {g size : Nat} {ok : Bool} {word : List Nat} {rv : Value} (h : NBox w g ok size word rv) (ys : List Nat) (hl : ys.length = 32) :
    NBox (w.setCells g 2 (cellsOf ys).toList) g ok size ys rv ∧ Upd w (w.setCells g 2 (cellsOf ys).toList) g := by
  have h1 := heap_setCells g (cellsOf ys).toList 2 w _ h.blk
  have e := setL_mid (cellsOf ys).toList [Value.bool ok, Value.int .u32 (size : Int)] (word.map fun x => Value.int .u8 ((x : Nat) : Int)) [rv] (by simp [cellsOf, h.len, hl])
  refine ⟨⟨?_, hl⟩, h1.2⟩
  rw [h1.1]
  simp only [List.length_cons, List.length_nil, List.cons_append, List.nil_append, Nat.reduceAdd] at e
  rw [e]
  rfl

theorem wpList_storeW {ops : Array Oper} {rest : List Oper} {o : Oper} {a : Act} {w : World} {Q : Exit → Act → World → Prop} (hg : o.guard = none) (x y : Operand) (ho : o.op = .store 60 x y) (g : Nat) (e1 : a.eval x = .pointer (some ⟨g, 2, none⟩))
    {ys : List Nat} (e2 : a.eval y = .agg (cellsOf ys)) (hl : ys.length = 32) {ok : Bool} {size : Nat} {word : List Nat} {rv : Value} (hb : NBox w g ok size word rv)
    (h : ∀ w', NBox w' g ok size ys rv → Upd w w' g → wpList Saag.prog ops Q rest (a.put o.dst undef) w') : wpList Saag.prog ops Q (o :: rest) a w := by
  have hw := hb.setWord ys hl
  refine wpList_store_mid hg 60 x y ho g 2 (cellsOf ys) e1 e2 (fun j hj => ⟨?_, hb.frozen _⟩) (by rw [Saag.info60, cellsOf_size, hl]) (cellsOf_one ys) (h _ hw.1 hw.2)
  rw [cellsOf_size, hl] at hj
  exact hb.range.isSome j (by rw [List.length_map, hb.len]; exact hj)

theorem RdF.upd {B k : Nat} {w w' : World} {v : Value} {ro : Option (List Nat)} (h : RdF B w v ro) (u : Upd w w' k) (hk : k < B) : RdF B w' v ro := by
  cases ro with
  | none => exact h
  | some l =>
    obtain ⟨b, n, cap, hb, rfl, hr⟩ := h
    exact ⟨b, n, cap, hb, rfl, hr.upd u (fun a e => by cases e; show b ≠ k; omega)⟩

theorem RdF.mono {B B' : Nat} {w : World} {v : Value} {ro : Option (List Nat)} (h : RdF B w v ro) (hb : B' ≤ B) : RdF B' w v ro := by
  cases ro with
  | none => exact h
  | some l =>
    obtain ⟨b, n, cap, h1, h2, h3⟩ := h
    exact ⟨b, n, cap, Nat.le_trans hb h1, h2, h3⟩

/-! ### The posts -/
/-- Below B nothing has turned, and no answer and no operation has. -/
structure Kp (B : Nat) (W w1 : World) : Prop where
  bel : Below B W w1
  box : ∀ {r size : Nat} {ok : Bool} {word : List Nat} {rv : Value}, NBox W r ok size word rv → NBox w1 r ok size word rv
  op : ∀ {o k a b n f : Nat}, OBox W o k a b n f → OBox w1 o k a b n f

/-- F is kept when an answer turns, and when blocks are laid. -/
structure F83 (F : World → List (List Nat) → Prop) : Prop where
  upd : ∀ {w w' : World} {r size : Nat} {ok : Bool} {word : List Nat} {rv : Value} {L : List (List Nat)}, F w L → NBox w r ok size word rv → Upd w w' r → F w' L
  later : ∀ {w w' : World} {L : List (List Nat)}, F w L → Below w.heap.size w w' → F w' L

theorem OBox.upd {w w' : World} {g k a b n f r size : Nat} {ok : Bool} {word : List Nat} {rv : Value} (h : OBox w g k a b n f) (x : NBox w r ok size word rv) (u : Upd w w' r) : OBox w' g k a b n f := by
  unfold OBox at *
  rw [u.block g ?_]
  · exact h
  · intro e
    have h1 := x.blk
    rw [← e, h] at h1
    simp at h1

/-- A method that answers a bool. -/
def GB (e : Ending) (B : Nat) (W w1 : World) (F : World → List (List Nat) → Prop) (R : MR) : Prop := ∃ ok L, e = .returned (.bool ok) ∧ Kp B W w1 ∧ F w1 L ∧ R = ⟨ok, 0, Z32, none, L⟩
/-- Len. -/
def GN (e : Ending) (B : Nat) (W w1 : World) (F : World → List (List Nat) → Prop) (R : MR) : Prop := ∃ (n : Nat) (L : _), e = .returned (.int .u32 (n : Int)) ∧ Kp B W w1 ∧ F w1 L ∧ R = ⟨false, n, Z32, none, L⟩
/-- Load32. -/
def GL (e : Ending) (B : Nat) (W w1 : World) (F : World → List (List Nat) → Prop) (R : MR) : Prop := ∃ word ok L, word.length = 32 ∧ e = .returned (.tuple #[.agg (cellsOf word), .bool ok]) ∧ Kp B W w1 ∧ F w1 L ∧ R = ⟨ok, 0, word, none, L⟩
/-- Read. -/
def GR (e : Ending) (B : Nat) (W w1 : World) (F : World → List (List Nat) → Prop) (R : MR) : Prop := ∃ rv ro L, e = .returned rv ∧ RdF W.heap.size w1 rv ro ∧ Kp B W w1 ∧ F w1 L ∧ R = ⟨false, 0, Z32, ro, L⟩

/-- Below B nothing has turned, and none of the answers that stood. -/
structure Kq (B : Nat) (w w' : World) : Prop where
  bel : Below B w w'
  box : ∀ {r size : Nat} {ok : Bool} {word : List Nat} {rv : Value}, NBox w r ok size word rv → NBox w' r ok size word rv

theorem Kq.start {B : Nat} {w W : World} (h : Below w.heap.size w W) (hB : B ≤ w.heap.size) : Kq B w W := ⟨h.mono hB, fun n => n.later h⟩
theorem Kq.step {B : Nat} {w W w1 : World} (h : Kq B w W) (k : Kp B W w1) : Kq B w w1 := ⟨h.bel.trans k.bel, fun n => k.box (h.box n)⟩
theorem Kq.later {B : Nat} {w W w1 : World} (h : Kq B w W) (hb : Below W.heap.size W w1) (hB : B ≤ w.heap.size) : Kq B w w1 := ⟨h.bel.trans (hb.mono (by have := h.bel.size; omega)), fun n => (h.box n).later hb⟩
theorem Kq.upd {B r : Nat} {w w1 w2 : World} (h : Kq B w w1) (u : Upd w1 w2 r) (hr : w.heap.size ≤ r) (hB : B ≤ w.heap.size) : Kq B w w2 :=
  ⟨u.below h.bel (by omega), fun n => (h.box n).upd u (by have := n.lt; omega)⟩

/-- What a play hands back and leaves. -/
def PG (e : Ending) (B : Nat) (w w' : World) (F : World → List (List Nat) → Prop) (R : MR) : Prop := ∃ rv, e = .returned (.agg (anCells R.ok R.size R.word rv)) ∧ RdF w.heap.size w' rv R.ro ∧ F w' R.L ∧ Kq B w w'

/-! ### The arena behind -/
def FA (g : Nat) (w : World) (L : List (List Nat)) : Prop := ∃ xs bs t, APost w g xs bs t ∧ absF xs bs t = L

theorem APost.later {w w' : World} {g : Nat} {xs bs : List Nat} {t : Nat} (h : APost w g xs bs t) (hb : Below w.heap.size w w') : APost w' g xs bs t := by
  obtain ⟨bv, h1, h2, h3⟩ := h.box
  refine ⟨⟨bv, h1.later hb, h2.later hb, fun a n c e => ?_⟩, h.u32, h.good⟩
  obtain ⟨cs, hc⟩ := h3 a n c e
  exact ⟨cs, by rw [hb.block _ (Array.getElem?_eq_some_iff.1 hc).1]; exact hc⟩

theorem FA.f83 (g : Nat) : F83 (FA g) := by
  constructor
  · intro w w' r size ok word rv L h n u
    obtain ⟨xs, bs, t, h1, h2⟩ := h
    exact ⟨xs, bs, t, h1.upd n u, h2⟩
  · intro w w' L h hb
    obtain ⟨xs, bs, t, h1, h2⟩ := h
    exact ⟨xs, bs, t, h1.later hb, h2⟩

theorem OBox.chg {W W1 : World} {o g k a b n f : Nat} {xs bs : List Nat} {ob : Option Nat} {t : Nat} (h : OBox W o k a b n f) (S : ASt W g ob xs bs t) (c : Chg W W1 g ob) : OBox W1 o k a b n f := by
  have hl := h.lt
  unfold OBox at *
  rw [c.block o hl ?_ ?_]
  · exact h
  · intro e
    rw [e, S.box.blk] at h
    simp at h
  · intro e
    have h2 := S.buf o e
    unfold Blk at h2
    rw [h2] at h
    simp at h

theorem Kp.chg {B g : Nat} {W W1 : World} {ob : Option Nat} {xs bs : List Nat} {t : Nat} (S : ASt W g ob xs bs t) (c : Chg W W1 g ob) (hB : B ≤ W.heap.size) (hg : B ≤ g) (ho : ∀ b, ob = some b → B ≤ b) : Kp B W W1 :=
  ⟨c.below hB hg ho, fun h => h.chg S c, fun h => h.chg S c⟩
theorem Kp.later {B : Nat} {W W1 : World} (h : Below W.heap.size W W1) (hB : B ≤ W.heap.size) : Kp B W W1 := ⟨h.mono hB, fun n => n.later h, fun n => n.later h⟩

section
variable {W : World} {B g : Nat} {ob : Option Nat} {xs bs : List Nat} {t : Nat}

theorem ga_3 (S : ASt W g ob xs bs t) (hB : B ≤ W.heap.size) (a b n f : Nat) (ss : List Nat) (fr : Nat) : Calls Saag.prog 77 #[.pointer (some ⟨g, 0, none⟩)] W fun e w1 => GN e B W w1 (FA g) (mSpec 3 a b n f ss fr (absF xs bs t)) := by
  cases t with
  | zero =>
    refine (len_none S.box).mono ?_
    rintro e w1 ⟨rfl, q, rfl⟩
    exact ⟨0, _, rfl, Kp.later (below_drewN W q) hB, ⟨_, _, _, (S.drewN q).post, rfl⟩, rfl⟩
  | succ k =>
    refine (len_some S.box S.u32 S.good rfl (fun e => by rw [S.nl e]; rfl)).mono ?_
    rintro e w1 ⟨rfl, q, rfl⟩
    refine ⟨_, _, rfl, Kp.later (below_drewN W q) hB, ⟨_, _, _, (S.drewN q).post, rfl⟩, ?_⟩
    have hm := good_mono S.good (k + 1) k (by omega) (Nat.le_refl _)
    have hn := S.good.2.1
    have h1 : (topOf (absF xs bs (k + 1))).length = bs.getD (k + 1) 0 - bs.getD k 0 := by rw [absF_top, sg_len (by omega)]
    rw [← h1]
    rfl

theorem ga_4 (S : ASt W g ob xs bs t) (hB : B ≤ W.heap.size) (a b n f : Nat) (ss : List Nat) (fr : Nat) (ha : a < 4294967296) : Calls Saag.prog 78 #[.pointer (some ⟨g, 0, none⟩), .int .u32 (a : Int)] W fun e w1 => GL e B W w1 (FA g) (mSpec 4 a b n f ss fr (absF xs bs t)) := by
  refine (load32_any a ha S).mono ?_
  have hm : mSpec 4 a b n f ss fr (absF xs bs t) = if HasL (absF xs bs t) a 32 then ⟨true, 0, sg (topOf (absF xs bs t)) a 32, none, absF xs bs t⟩ else ⟨false, 0, Z32, none, absF xs bs t⟩ := rfl
  rw [hm]
  rintro e w1 ⟨⟨h1, rfl⟩ | ⟨h1, rfl⟩, hb⟩
  · refine ⟨_, true, _, sg_len (S.fits_le h1), rfl, Kp.later hb hB, ⟨_, _, _, (S.later hb).post, rfl⟩, ?_⟩
    rw [if_pos ((fits_has S.good).1 h1), fits_sg S.good h1]
  · refine ⟨_, false, _, Z32_len, rfl, Kp.later hb hB, ⟨_, _, _, (S.later hb).post, rfl⟩, ?_⟩
    rw [if_neg (fun h => h1 ((fits_has S.good).2 h))]

theorem ga_8 (S : ASt W g ob xs bs t) (hB : B ≤ W.heap.size) (a b n f : Nat) (ss : List Nat) (fr : Nat) (ha : a < 4294967296) (hn : n < 4294967296) : Calls Saag.prog 83 #[.pointer (some ⟨g, 0, none⟩), .int .u32 (a : Int), .int .u32 (n : Int)] W fun e w1 => GR e B W w1 (FA g) (mSpec 8 a b n f ss fr (absF xs bs t)) := by
  refine (read_any a n ha hn S).mono ?_
  rintro e w1 ⟨v, rfl, h1, hb⟩
  refine ⟨v, _, _, rfl, h1, Kp.later hb hB, ⟨_, _, _, (S.later hb).post, rfl⟩, ?_⟩
  have hm : mSpec 8 a b n f ss fr (absF xs bs t) = ⟨false, 0, Z32, if HasL (absF xs bs t) a n ∧ n ≠ 0 then some (sg (topOf (absF xs bs t)) a n) else none, absF xs bs t⟩ := rfl
  rw [hm]
  congr 1
  unfold readA
  by_cases h : Fits bs t a n ∧ n ≠ 0
  · rw [if_pos h, if_pos ⟨(fits_has S.good).1 h.1, h.2⟩, fits_sg S.good h.1]
  · rw [if_neg h, if_neg (fun h' => h ⟨(fits_has S.good).2 h'.1, h'.2⟩)]

theorem am_gb (S : ASt W g ob xs bs t) (hB : B ≤ W.heap.size) (hg : B ≤ g) (ho : ∀ b, ob = some b → B ≤ b) {R : MR} {c : FuncId} {args : Array Value} (h : Calls Saag.prog c args W fun e w1 => AM e W w1 g ob R) : Calls Saag.prog c args W fun e w1 => GB e B W w1 (FA g) R := by
  refine h.mono ?_
  rintro e w1 ⟨ok, xs', bs', t', rfl, hp, hc, hR⟩
  exact ⟨ok, _, rfl, Kp.chg S hc hB hg ho, ⟨_, _, _, hp, rfl⟩, hR⟩

theorem ga_5 (S : ASt W g ob xs bs t) (hB : B ≤ W.heap.size) (hg : B ≤ g) (ho : ∀ b, ob = some b → B ≤ b) (a b n f : Nat) (ss : List Nat) (fr : Nat) (ha : a < 4294967296) : Calls Saag.prog 79 #[.pointer (some ⟨g, 0, none⟩), .int .u32 (a : Int), .agg (cellsOf (fil f 32))] W fun e w1 => GB e B W w1 (FA g) (mSpec 5 a b n f ss fr (absF xs bs t)) :=
  am_gb S hB hg ho (am_put S (k := 5) (R := mSpec 5 a b n f ss fr (absF xs bs t)) _ (fun _ _ h => h) rfl (store32_any a (fil f 32) ha (fil_len f 32) (fil_dig f 32) S))
end

end Go.Proofs.Ygcsaa
