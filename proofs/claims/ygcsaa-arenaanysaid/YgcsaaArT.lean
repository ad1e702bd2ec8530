/-
  What an operation does to the frames, said once: mSpec.
-/
import Derived.Test.YgcsaaArS
namespace Go.Proofs.Ygcsaa
open Go.RowKit
set_option linter.unusedSimpArgs false
set_option linter.unusedVariables false

/-- An answer, and the frames behind it. -/
structure MR where
  ok : Bool
  size : Nat
  word : List Nat
  ro : Option (List Nat)
  L : List (List Nat)

/-- l bytes from off lie in the top frame. -/
abbrev HasL (L : List (List Nat)) (off l : Nat) : Prop := L ≠ [] ∧ off + l ≤ (topOf L).length

/-- ys laid at off, if it fits. -/
def mPut (L : List (List Nat)) (off : Nat) (ys : List Nat) : MR := if HasL L off ys.length then ⟨true, 0, Z32, none, putL L off ys⟩ else ⟨false, 0, Z32, none, L⟩

/-- One operation on the frames. -/
def mSpec (k a b n f : Nat) (ss : List Nat) (fr : Nat) (L : List (List Nat)) : MR :=
  if k = 0 then (if L.length < 7 then ⟨true, 0, Z32, none, L ++ [[]]⟩ else ⟨false, 0, Z32, none, L⟩)
  else if k = 1 then (if L = [] then ⟨false, 0, Z32, none, L⟩ else ⟨true, 0, Z32, none, L.dropLast⟩)
  else if k = 2 then (if ¬ (L ≠ [] ∧ a ≤ 22415) then ⟨false, 0, Z32, none, L⟩ else if 32 * a ≤ (topOf L).length then ⟨true, 0, Z32, none, L⟩ else ⟨true, 0, Z32, none, growL L (32 * a)⟩)
  else if k = 3 then ⟨false, (topOf L).length, Z32, none, L⟩
  else if k = 4 then (if HasL L a 32 then ⟨true, 0, sg (topOf L) a 32, none, L⟩ else ⟨false, 0, Z32, none, L⟩)
  else if k = 5 then mPut L a (fil f 32)
  else if k = 6 then mPut L a [f]
  else if k = 7 then (if HasL L a n ∧ HasL L b n then ⟨true, 0, Z32, none, putL L a (sg (topOf L) b n)⟩ else ⟨false, 0, Z32, none, L⟩)
  else if k = 8 then ⟨false, 0, Z32, if HasL L a n ∧ n ≠ 0 then some (sg (topOf L) a n) else none, L⟩
  else if k = 9 then mPut L a (wr ss fr n)
  else if k = 10 then ⟨true, 0, Z32, none, L⟩
  else ⟨false, 0, Z32, none, L⟩

/-- The top frame of what an arena means. -/
theorem absF_top {xs bs : List Nat} {k : Nat} : topOf (absF xs bs (k + 1)) = sg xs (bs.getD k 0) (bs.getD (k + 1) 0 - bs.getD k 0) := by rw [absF_succ, topOf_app]

theorem fits_has {xs bs : List Nat} {t off l : Nat} (hg : Good xs.length bs t) : Fits bs t off l ↔ HasL (absF xs bs t) off l := by
  cases t with
  | zero => simp [Fits, HasL, absF]
  | succ k =>
    have hm := good_mono hg (k + 1) k (by omega) (Nat.le_refl _)
    have hn := hg.2.1
    have h1 : (topOf (absF xs bs (k + 1))).length = bs.getD (k + 1) 0 - bs.getD k 0 := by rw [absF_top, sg_len (by omega)]
    have h2 : absF xs bs (k + 1) ≠ [] := by rw [absF_succ]; simp
    unfold Fits HasL mA
    rw [h1]
    simp [h2]

theorem sg_sg {xs : List Nat} {o l o' l' : Nat} (h : o + l ≤ xs.length) (h' : o' + l' ≤ l) : sg (sg xs o l) o' l' = sg xs (o + o') l' := by
  have s1 := sg_len h
  refine ext_getD (by rw [sg_len (by omega), sg_len (by omega)]) (fun i hi => ?_)
  rw [sg_len (by omega)] at hi
  rw [sg_getD (by omega) hi, sg_getD h (by omega), sg_getD (by omega) hi]
  congr 1
  omega

theorem fits_sg {xs bs : List Nat} {t off l : Nat} (hg : Good xs.length bs t) (hf : Fits bs t off l) : sg (topOf (absF xs bs t)) off l = sg xs (loA bs t + off) l := by
  cases t with
  | zero => exact absurd rfl hf.1
  | succ k =>
    have hm := good_mono hg (k + 1) k (by omega) (Nat.le_refl _)
    have hn := hg.2.1
    have h2 := hf.2
    unfold mA at h2
    simp only [Nat.add_sub_cancel] at h2
    rw [absF_top, sg_sg (by omega) h2]
    rfl

theorem fits_put {xs bs ys : List Nat} {t off : Nat} (hg : Good xs.length bs t) (hf : Fits bs t off ys.length) : absF (splice xs (loA bs t + off) ys) bs t = putL (absF xs bs t) off ys := by
  cases t with
  | zero => exact absurd rfl hf.1
  | succ k => exact absF_put hg rfl hf.2

theorem mPut_fits {xs bs ys : List Nat} {t off : Nat} (hg : Good xs.length bs t) (hf : Fits bs t off ys.length) : mPut (absF xs bs t) off ys = ⟨true, 0, Z32, none, absF (splice xs (loA bs t + off) ys) bs t⟩ := by
  rw [mPut, if_pos ((fits_has hg).1 hf), fits_put hg hf]
theorem mPut_not {xs bs ys : List Nat} {t off : Nat} (hg : Good xs.length bs t) (hf : ¬ Fits bs t off ys.length) : mPut (absF xs bs t) off ys = ⟨false, 0, Z32, none, absF xs bs t⟩ := by
  rw [mPut, if_neg (fun h => hf ((fits_has hg).2 h))]

theorem has_hasL (Fs : List Fr) (off l : Nat) : Has Fs off l ↔ HasL (Fs.map (·.2)) off l := by
  rcases fr_cases Fs with rfl | ⟨Gs, f, rfl⟩
  · simp [Has, HasL]
  · unfold Has HasL
    rw [topL_app, List.map_append, List.map_cons, List.map_nil, topOf_app]
    simp
theorem topB_map (Fs : List Fr) : topOf (Fs.map (·.2)) = topB Fs := by
  rcases fr_cases Fs with rfl | ⟨Gs, f, rfl⟩
  · rfl
  · rw [topB_app, List.map_append, List.map_cons, List.map_nil, topOf_app]
theorem putF_map (Fs : List Fr) (off : Nat) (ys : List Nat) : (putF Fs off ys).map (·.2) = putL (Fs.map (·.2)) off ys := by
  rcases fr_cases Fs with rfl | ⟨Gs, f, rfl⟩
  · rfl
  · rw [putF_app, List.map_append, List.map_append, List.map_cons, List.map_nil, List.map_cons, List.map_nil, putL_app]

end Go.Proofs.Ygcsaa
