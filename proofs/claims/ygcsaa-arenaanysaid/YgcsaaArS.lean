/-
  The plain law of ArenaAny: what the methods do to the buffer and the bases is what the model does to the frames.
-/
import Derived.Test.YgcsaaArQ
namespace Go.Proofs.Ygcsaa
open Go.RowKit
set_option linter.unusedSimpArgs false
set_option linter.unusedVariables false

theorem ext_getD {xs ys : List Nat} (hl : xs.length = ys.length) (h : ∀ i, i < xs.length → xs.getD i 0 = ys.getD i 0) : xs = ys := by
  apply List.ext_getElem hl
  intro i h1 h2
  have := h i h1
  rwa [M.getD_lt _ _ h1, M.getD_lt _ _ h2] at this

theorem app_getD (a b : List Nat) (i : Nat) : (a ++ b).getD i 0 = if i < a.length then a.getD i 0 else b.getD (i - a.length) 0 := by
  simp only [List.getD_eq_getElem?_getD]
  split
  · rw [List.getElem?_append_left ‹_›]
  · rw [List.getElem?_append_right (by omega)]
theorem rep_getD (n i : Nat) : (List.replicate n 0).getD i 0 = 0 := by
  simp only [List.getD_eq_getElem?_getD, List.getElem?_replicate]
  split <;> rfl

theorem splice_getD {xs ys : List Nat} {o : Nat} (h : o + ys.length ≤ xs.length) (i : Nat) : (splice xs o ys).getD i 0 = if o ≤ i ∧ i < o + ys.length then ys.getD (i - o) 0 else xs.getD i 0 := by
  simp only [splice, List.getD_eq_getElem?_getD]
  have h1 : (xs.take o).length = o := by simp; omega
  by_cases hi : i < o
  · rw [List.getElem?_append_left (by omega), if_neg (by omega), List.getElem?_take, if_pos hi]
  · rw [List.getElem?_append_right (by omega), h1]
    by_cases hj : i - o < ys.length
    · rw [List.getElem?_append_left hj, if_pos (by omega)]
    · rw [List.getElem?_append_right (by omega), if_neg (by omega), List.getElem?_drop]
      congr 2
      omega

/-- What lies outside the places that are written reads as before. -/
theorem sg_congr {xs ys : List Nat} {o l : Nat} (h1 : o + l ≤ xs.length) (h2 : o + l ≤ ys.length) (h : ∀ i, o ≤ i → i < o + l → xs.getD i 0 = ys.getD i 0) : sg xs o l = sg ys o l := by
  refine ext_getD (by rw [sg_len h1, sg_len h2]) (fun i hi => ?_)
  rw [sg_len h1] at hi
  rw [sg_getD h1 hi, sg_getD h2 hi]
  exact h _ (by omega) (by omega)

/-- The top frame's bytes, of a list of frames' bytes. -/
def topOf (L : List (List Nat)) : List Nat := (L.getLast?).getD []
theorem topOf_app (L : List (List Nat)) (f : List Nat) : topOf (L ++ [f]) = f := by simp [topOf]
/-- ys laid at off in the top frame. -/
def putL (L : List (List Nat)) (off : Nat) (ys : List Nat) : List (List Nat) := L.dropLast ++ (match L.getLast? with
  | none => []
  | some f => [splice f off ys])
theorem putL_app (L : List (List Nat)) (f : List Nat) (off : Nat) (ys : List Nat) : putL (L ++ [f]) off ys = L ++ [splice f off ys] := by simp [putL]

theorem absF_len (xs bs : List Nat) (t : Nat) : (absF xs bs t).length = t := by simp [absF]

/-- Two arenas that agree on the frames below k mean the same frames there. -/
theorem absF_congr {xs ys bs cs : List Nat} {n t : Nat} (k : Nat) (hk : k ≤ t) (hg : Good n bs t) (hx : bs.getD k 0 ≤ xs.length) (hy : bs.getD k 0 ≤ ys.length) (hb : ∀ i, i ≤ k → cs.getD i 0 = bs.getD i 0) (h : ∀ i, i < bs.getD k 0 → ys.getD i 0 = xs.getD i 0) : absF ys cs k = absF xs bs k := by
  unfold absF
  apply List.map_congr_left
  intro i hi
  have hi' : i < k := by simpa using hi
  rw [hb i (by omega), hb (i + 1) (by omega)]
  have m1 := good_mono hg k (i + 1) (by omega) hk
  have m2 := good_mono hg (i + 1) i (by omega) (by omega)
  exact sg_congr (by omega) (by omega) (fun j h1 h2 => h j (by omega))

/-- A write into the top frame. -/
theorem absF_put {xs bs ys : List Nat} {t k off : Nat} (hg : Good xs.length bs t) (hk : t = k + 1) (hf : off + ys.length ≤ bs.getD t 0 - bs.getD k 0) : absF (splice xs (bs.getD k 0 + off) ys) bs t = putL (absF xs bs t) off ys := by
  subst hk
  have hm := good_mono hg (k + 1) k (by omega) (Nat.le_refl _)
  have hn := hg.2.1
  have hsp : bs.getD k 0 + off + ys.length ≤ xs.length := by omega
  have hl := splice_len hsp
  rw [absF_succ, absF_succ, putL_app]
  congr 1
  · exact absF_congr (n := xs.length) (t := k + 1) k (by omega) hg (by omega) (by omega) (fun _ _ => rfl) (fun i hi => by rw [splice_getD hsp, if_neg (by omega)])
  · congr 1
    have h1 : bs.getD k 0 + (bs.getD (k + 1) 0 - bs.getD k 0) ≤ xs.length := by omega
    have h2 : off + ys.length ≤ (sg xs (bs.getD k 0) (bs.getD (k + 1) 0 - bs.getD k 0)).length := by rw [sg_len h1]; exact hf
    refine ext_getD (by rw [sg_len (by omega), splice_len h2, sg_len h1]) (fun i hi => ?_)
    rw [sg_len (by omega)] at hi
    rw [sg_getD (by omega) hi, splice_getD hsp, splice_getD h2, sg_getD h1 hi]
    by_cases hc : off ≤ i ∧ i < off + ys.length
    · rw [if_pos (by omega), if_pos hc]
      congr 1
      omega
    · rw [if_neg (by omega), if_neg hc]

/-- One more frame, with no bytes. -/
theorem absF_enter {xs bs : List Nat} {t : Nat} (hg : Good xs.length bs t) (hl : bs.length = 8) (ht : t < 7) : absF xs (bs.set (t + 1) (bs.getD t 0)) (t + 1) = absF xs bs t ++ [[]] := by
  rw [absF_succ]
  congr 1
  · exact absF_congr (n := xs.length) (t := t) t (Nat.le_refl _) hg hg.2.1 hg.2.1 (fun i hi => by rw [getD_set _ _ _ _ (by omega), if_neg (by omega)]) (fun _ _ => rfl)
  · rw [getD_set _ _ _ _ (by omega), getD_set _ _ _ _ (by omega), if_pos rfl, if_neg (by omega), Nat.sub_self]
    simp [sg]

theorem good_enter {n : Nat} {bs : List Nat} {t : Nat} (hg : Good n bs t) (hl : bs.length = 8) (ht : t < 7) : Good n (bs.set (t + 1) (bs.getD t 0)) (t + 1) := by
  refine ⟨⟨by omega, ?_, ?_⟩, ?_, hg.2.2⟩
  · rw [getD_set _ _ _ _ (by omega), if_neg (by omega)]; exact hg.1.2.1
  · intro i hi
    unfold Step
    rw [getD_set _ _ _ _ (by omega), getD_set _ _ _ _ (by omega), if_neg (by omega)]
    by_cases hit : i = t
    · subst hit; rw [if_pos rfl]; omega
    · rw [if_neg (by omega)]; exact hg.1.2.2 i (by omega)
  · rw [getD_set _ _ _ _ (by omega), if_pos rfl]; exact hg.2.1

theorem good_leave {n : Nat} {bs : List Nat} {k : Nat} (hg : Good n bs (k + 1)) : Good n bs k :=
  ⟨⟨by have := hg.1.1; omega, hg.1.2.1, fun i hi => hg.1.2.2 i (by omega)⟩, Nat.le_trans (hg.step (by omega)) hg.2.1, hg.2.2⟩

/-- The top frame lengthened. -/
theorem absF_grow {xs bs : List Nat} {t k ww : Nat} (hg : Good xs.length bs t) (hl : bs.length = 8) (hk : t = k + 1) (hw : bs.getD t 0 - bs.getD k 0 < ww) :
    absF (growX xs (bs.getD k 0 + (bs.getD t 0 - bs.getD k 0)) (ww - (bs.getD t 0 - bs.getD k 0))) (bs.set t (bs.getD k 0 + ww)) t = growL (absF xs bs t) ww := by
  subst hk
  have h7 := hg.1.1
  have hm := good_mono hg (k + 1) k (by omega) (Nat.le_refl _)
  have hn := hg.2.1
  obtain ⟨lo, hlo⟩ : ∃ lo, lo = bs.getD k 0 := ⟨_, rfl⟩
  obtain ⟨hi, hhi⟩ : ∃ hi, hi = bs.getD (k + 1) 0 := ⟨_, rfl⟩
  have e0 : bs.getD k 0 + (bs.getD (k + 1) 0 - bs.getD k 0) = hi := by omega
  rw [e0]
  obtain ⟨mo, hmo⟩ : ∃ mo, mo = ww - (bs.getD (k + 1) 0 - bs.getD k 0) := ⟨_, rfl⟩
  rw [← hmo]
  have gl : (growX xs hi mo).length = max xs.length (hi + mo) := growX_len xs hi mo (by omega)
  have gd : ∀ i, i < hi + mo → (growX xs hi mo).getD i 0 = if i < hi then xs.getD i 0 else 0 := by
    intro i hi'
    unfold growX
    split
    · rename_i hc
      rw [splice_getD (by simpa using hc)]
      by_cases hj : i < hi
      · rw [if_neg (by omega), if_pos hj]
      · rw [if_pos (by simp; omega), if_neg hj]
        simp [List.getD_eq_getElem?_getD, List.getElem?_replicate]
        split <;> rfl
    · have hlt : (xs.take hi).length = hi := by simp; omega
      simp only [List.getD_eq_getElem?_getD]
      by_cases hj : i < hi
      · rw [List.getElem?_append_left (by omega), if_pos hj, List.getElem?_take, if_pos hj]
      · rw [List.getElem?_append_right (by omega), if_neg hj, List.getElem?_replicate]
        split <;> rfl
  rw [absF_succ, absF_succ, growL_app]
  congr 1
  · exact absF_congr (n := xs.length) (t := k + 1) k (by omega) hg (by omega) (by omega) (fun i hi => by rw [getD_set _ _ _ _ (by omega), if_neg (by omega)]) (fun i hi' => by rw [gd i (by omega), if_pos (by omega)])
  · congr 1
    rw [getD_set _ _ _ _ (by omega), getD_set _ _ _ _ (by omega), if_pos rfl, if_neg (by omega)]
    have e1 : bs.getD k 0 + ww - bs.getD k 0 = ww := by omega
    rw [e1]
    have h1 : bs.getD k 0 + (bs.getD (k + 1) 0 - bs.getD k 0) ≤ xs.length := by omega
    have s1 := sg_len h1
    have s2 : (sg (growX xs hi mo) (bs.getD k 0) ww).length = ww := sg_len (by omega)
    refine ext_getD (by rw [s2, List.length_append, List.length_replicate, s1]; omega) (fun i hi' => ?_)
    rw [s2] at hi'
    rw [sg_getD (by omega) hi', gd _ (by omega)]
    rw [app_getD, s1, rep_getD]
    by_cases hj : i < bs.getD (k + 1) 0 - bs.getD k 0
    · rw [if_pos (by omega), if_pos hj, sg_getD h1 hj]
    · rw [if_neg (by omega), if_neg hj]

end Go.Proofs.Ygcsaa
