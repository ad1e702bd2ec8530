/-
  law.playArena: what each method leaves, against mSpec.
-/
import Derived.Test.YgcsaaArT
namespace Go.Proofs.Ygcsaa
open Go.RowKit
set_option linter.unusedSimpArgs false
set_option linter.unusedVariables false

/-- The three boxes that playArena and playMem lay first. -/
structure PW (w W : World) (k a b n f : Nat) : Prop where
  op : OBox W w.heap.size k a b n f
  r8 : NBox W (w.heap.size + 1) false 0 Z32 (.slice none 0 0)
  r : NBox W (w.heap.size + 1 + 1) false 0 Z32 (.slice none 0 0)
  bel : Below w.heap.size w W

theorem playW (w : World) (k a b n f : Nat) : PW w (((w.alloc (.cells (opCells k a b n f) 80)).alloc (.cells (anCells false 0 Z32 (.slice none 0 0)) 83)).alloc (.cells (anCells false 0 Z32 (.slice none 0 0)) 83)) k a b n f := by
  refine ⟨((OBox.new w k a b n f).later (below_alloc _ _)).later (below_alloc _ _), ?_, ?_, bstep (bstep (below_alloc _ _) (below_alloc _ _)) (below_alloc _ _)⟩
  · have := (NBox.new (w.alloc (.cells (opCells k a b n f) 80)) false 0 Z32 (.slice none 0 0) Z32_len).later (below_alloc _ (.cells (anCells false 0 Z32 (.slice none 0 0)) 83))
    simpa using this
  · have := NBox.new ((w.alloc (.cells (opCells k a b n f) 80)).alloc (.cells (anCells false 0 Z32 (.slice none 0 0)) 83)) false 0 Z32 (.slice none 0 0) Z32_len
    simpa using this

theorem NBox.chg {W W1 : World} {r g size : Nat} {ok : Bool} {word xs bs : List Nat} {rv : Value} {ob : Option Nat} {t : Nat} (h : NBox W r ok size word rv) (S : ASt W g ob xs bs t) (c : Chg W W1 g ob) : NBox W1 r ok size word rv :=
  ⟨by
    rw [c.block r h.lt ?_ ?_]
    · exact h.blk
    · intro e
      have h1 := h.blk
      rw [e, S.box.blk] at h1
      simp at h1
    · intro e
      have h1 := h.blk
      have h2 := S.buf r e
      unfold Blk at h2
      rw [h2] at h1
      simp at h1, h.len⟩

theorem APost.upd {w w' : World} {g r size : Nat} {ok : Bool} {word xs bs : List Nat} {rv : Value} {t : Nat} (h : APost w g xs bs t) (n : NBox w r ok size word rv) (u : Upd w w' r) : APost w' g xs bs t := by
  obtain ⟨bv, hb, hr⟩ := h.box
  have hg : g ≠ r := fun e => by
    have h1 := n.blk
    rw [← e, hb.blk] at h1
    simp at h1
  refine ⟨⟨bv, hb.upd u hg, ?_⟩, h.u32, h.good⟩
  obtain ⟨ao, m, c, rfl, _⟩ := id hr.1
  refine hr.upd u (fun a e e' => ?_)
  obtain ⟨cs, hc⟩ := hr.2 a m c (by rw [e])
  have h1 := n.blk
  rw [← e', hc] at h1
  simp at h1

/-- What playArena hands back and leaves. -/
def PA (e : Ending) (B : Nat) (w w' : World) (g : Nat) (R : MR) : Prop :=
  ∃ rv xs bs t, e = .returned (.agg (anCells R.ok R.size R.word rv)) ∧ RdO w' rv R.ro ∧ APost w' g xs bs t ∧ absF xs bs t = R.L ∧ Below B w w'

/-- What a method of Arena that answers a bool hands back and leaves. -/
def AM (e : Ending) (W w1 : World) (g : Nat) (ob : Option Nat) (R : MR) : Prop := ∃ ok xs bs t, e = .returned (.bool ok) ∧ APost w1 g xs bs t ∧ Chg W w1 g ob ∧ R = ⟨ok, 0, Z32, none, absF xs bs t⟩

theorem pa_below {B g : Nat} {w W W1 : World} {ob : Option Nat} (hw : Below w.heap.size w W) (c : Chg W W1 g ob) (hB : B ≤ w.heap.size) (hg : B ≤ g) (ho : ∀ b, ob = some b → B ≤ b) : Below B w W1 :=
  (hw.mono hB).trans (c.below (Nat.le_trans hB hw.size) hg ho)

section
variable {W : World} {g : Nat} {ob : Option Nat} {xs bs : List Nat} {t : Nat}

theorem am_0 (S : ASt W g ob xs bs t) (a b n f : Nat) (ss : List Nat) (fr : Nat) : Calls Saag.prog 74 #[.pointer (some ⟨g, 0, none⟩)] W fun e w1 => AM e W w1 g ob (mSpec 0 a b n f ss fr (absF xs bs t)) := by
  have h7 := S.good.1.1
  by_cases ht : t < 7
  · have hr : mSpec 0 a b n f ss fr (absF xs bs t) = ⟨true, 0, Z32, none, absF xs (bs.set (t + 1) (bs.getD t 0)) (t + 1)⟩ := by
      simp only [mSpec, if_true, absF_len, ht]
      rw [absF_enter S.good S.box.len ht]
    rw [hr]
    refine (enter_some S.box (by omega)).mono ?_
    rintro e w1 ⟨rfl, hb, hu⟩
    have hU : U32s (bs.set (t + 1) (bs.getD t 0)) := u32_set S.u32 (S.u32 t) (by rw [S.box.len]; omega)
    have S1 : ASt w1 g ob xs (bs.set (t + 1) (bs.getD t 0)) (t + 1) := ⟨hb, S.nl, fun b e => (S.buf b e).upd hu (Ne.symm (S.box.ne_blk (S.buf b e))), hU, good_enter S.good S.box.len ht, S.dig⟩
    exact ⟨true, _, _, _, rfl, S1.post, Chg.ofUpd hu ob, rfl⟩
  · obtain rfl : t = 7 := by omega
    have hr : mSpec 0 a b n f ss fr (absF xs bs 7) = ⟨false, 0, Z32, none, absF xs bs 7⟩ := by
      simp [mSpec, absF_len]
    rw [hr]
    refine (enter_full S.box).mono ?_
    rintro e w1 ⟨rfl, rfl⟩
    exact ⟨false, _, _, _, rfl, S.post, Chg.refl _ _ _, rfl⟩

theorem am_1 (S : ASt W g ob xs bs t) (a b n f : Nat) (ss : List Nat) (fr : Nat) : Calls Saag.prog 75 #[.pointer (some ⟨g, 0, none⟩)] W fun e w1 => AM e W w1 g ob (mSpec 1 a b n f ss fr (absF xs bs t)) := by
  cases t with
  | zero =>
    refine (leave_none S.box).mono ?_
    rintro e w1 ⟨rfl, rfl⟩
    exact ⟨false, _, _, _, rfl, S.post, Chg.refl _ _ _, rfl⟩
  | succ k =>
    have hr : mSpec 1 a b n f ss fr (absF xs bs (k + 1)) = ⟨true, 0, Z32, none, absF xs bs k⟩ := by
      simp [mSpec, absF_succ]
    rw [hr]
    refine (leave_some S.box S.good.1.1 rfl).mono ?_
    rintro e w1 ⟨rfl, hb, hu⟩
    have S1 : ASt w1 g ob xs bs k := ⟨hb, S.nl, fun b e => (S.buf b e).upd hu (Ne.symm (S.box.ne_blk (S.buf b e))), S.u32, good_leave S.good, S.dig⟩
    exact ⟨true, _, _, _, rfl, S1.post, Chg.ofUpd hu ob, rfl⟩

theorem am_2 (S : ASt W g ob xs bs t) (a b n f : Nat) (ss : List Nat) (fr : Nat) (ha : a < 4294967296) : Calls Saag.prog 76 #[.pointer (some ⟨g, 0, none⟩), .int .u32 (a : Int)] W fun e w1 => AM e W w1 g ob (mSpec 2 a b n f ss fr (absF xs bs t)) := by
  refine (grow_any a ha S).mono ?_
  have hne : absF xs bs t ≠ [] ↔ t ≠ 0 := by rw [← List.length_pos_iff, absF_len]; omega
  have htop : t ≠ 0 → (topOf (absF xs bs t)).length = mA bs t ∧ ∃ k, t = k + 1 := fun h => by
    obtain ⟨k, rfl⟩ : ∃ k, t = k + 1 := ⟨t - 1, by omega⟩
    have hm := good_mono S.good (k + 1) k (by omega) (Nat.le_refl _)
    have hn := S.good.2.1
    refine ⟨?_, k, rfl⟩
    rw [absF_top, sg_len (by omega)]
    rfl
  rintro e w1 ⟨hc, ⟨h1, rfl, hp⟩ | ⟨h1, h2, rfl, hp⟩ | ⟨h1, h2, rfl, hp⟩⟩
  · refine ⟨false, _, _, _, rfl, hp, hc, ?_⟩
    have : ¬ (absF xs bs t ≠ [] ∧ a ≤ 22415) := fun h => h1 ⟨hne.1 h.1, h.2⟩
    simp only [mSpec, if_neg (show (2 : Nat) ≠ 0 by omega), if_neg (show (2 : Nat) ≠ 1 by omega), if_true]
    rw [if_pos this]
  · refine ⟨true, _, _, _, rfl, hp, hc, ?_⟩
    have : ¬ ¬ (absF xs bs t ≠ [] ∧ a ≤ 22415) := fun h => h ⟨hne.2 h1.1, h1.2⟩
    simp only [mSpec, if_neg (show (2 : Nat) ≠ 0 by omega), if_neg (show (2 : Nat) ≠ 1 by omega), if_true]
    rw [if_neg this, if_pos (by rw [(htop h1.1).1]; exact h2)]
  · refine ⟨true, _, _, _, rfl, hp, hc, ?_⟩
    have : ¬ ¬ (absF xs bs t ≠ [] ∧ a ≤ 22415) := fun h => h ⟨hne.2 h1.1, h1.2⟩
    simp only [mSpec, if_neg (show (2 : Nat) ≠ 0 by omega), if_neg (show (2 : Nat) ≠ 1 by omega), if_true]
    rw [if_neg this, if_neg (by rw [(htop h1.1).1]; omega)]
    obtain ⟨k, hk⟩ := (htop h1.1).2
    subst hk
    congr 1
    exact (absF_grow S.good S.box.len rfl h2).symm

theorem am_put (S : ASt W g ob xs bs t) (P : Ending → World → Prop) {off : Nat} {ys : List Nat} {k : Nat} (hd : ∀ e w1, P e w1 → WrOut e W w1 g ob xs bs t off ys) {R : MR} (hR : R = mPut (absF xs bs t) off ys) {m : FuncId} {args : Array Value} (h : Calls Saag.prog m args W P) : Calls Saag.prog m args W fun e w1 => AM e W w1 g ob R := by
  refine h.mono ?_
  intro e w1 hp
  rcases hd e w1 hp with ⟨h1, rfl, h2, h3⟩ | ⟨h1, rfl, h2, h3⟩
  · exact ⟨true, _, _, _, rfl, h2.post, h3, by rw [hR, mPut_fits S.good h1]⟩
  · exact ⟨false, _, _, _, rfl, h2.post, h3, by rw [hR, mPut_not S.good h1]⟩

theorem am_7 (S : ASt W g ob xs bs t) (a b n f : Nat) (ss : List Nat) (fr : Nat) (ha : a < 4294967296) (hb : b < 4294967296) (hn : n < 4294967296) : Calls Saag.prog 82 #[.pointer (some ⟨g, 0, none⟩), .int .u32 (a : Int), .int .u32 (b : Int), .int .u32 (n : Int)] W fun e w1 => AM e W w1 g ob (mSpec 7 a b n f ss fr (absF xs bs t)) := by
  refine (move_any a b n ha hb hn S).mono ?_
  have hm : mSpec 7 a b n f ss fr (absF xs bs t) = if HasL (absF xs bs t) a n ∧ HasL (absF xs bs t) b n then ⟨true, 0, Z32, none, putL (absF xs bs t) a (sg (topOf (absF xs bs t)) b n)⟩ else ⟨false, 0, Z32, none, absF xs bs t⟩ := rfl
  rw [hm]
  rintro e w1 (⟨h1, h2, rfl, h3, h4⟩ | ⟨h1, rfl, h3, h4⟩)
  · refine ⟨true, _, _, _, rfl, h3.post, h4, ?_⟩
    rw [if_pos ⟨(fits_has S.good).1 h1, (fits_has S.good).1 h2⟩, fits_sg S.good h2]
    congr 1
    exact (fits_put S.good (by rw [sg_len (S.fits_le h2)]; exact h1)).symm
  · refine ⟨false, _, _, _, rfl, h3.post, h4, ?_⟩
    rw [if_neg (fun h => h1 ⟨(fits_has S.good).2 h.1, (fits_has S.good).2 h.2⟩)]

theorem am_10 (S : ASt W g ob xs bs t) (a b n f : Nat) (ss : List Nat) (fr : Nat) : Calls Saag.prog 29 #[.pointer (some ⟨g, 0, none⟩)] W fun e w1 => AM e W w1 g ob (mSpec 10 a b n f ss fr (absF xs bs t)) := by
  have hbv : ∃ ao c, bufv ob xs.length = .slice ao xs.length c := by
    cases hob : ob with
    | none => exact ⟨none, 0, by rw [S.nl hob]; rfl⟩
    | some b => exact ⟨_, _, rfl⟩
  obtain ⟨ao, c, hv⟩ := hbv
  have hbox := S.box
  rw [hv] at hbox
  refine (check_any hbox S.u32 (by have := S.good.1.1; omega) (by have := S.good.2.2; omega)).mono ?_
  rintro e w1 ⟨⟨ok, rfl, hb⟩, q, rfl⟩
  obtain rfl : ok = true := hb.2 S.good
  exact ⟨true, _, _, _, rfl, (S.drewN q).post, Chg.ofBelow (below_drewN W q) g ob, rfl⟩

end

end Go.Proofs.Ygcsaa
