/-
  (*mem.Arena).Read, Store8, Store32.
-/
import Derived.Test.YgcsaaAr6
namespace Go.Proofs.Ygcsaa
open Go.RowKit
set_option linter.unusedSimpArgs false
set_option linter.unusedVariables false

/-- Of the blocks that stood, none but g and ob has turned. -/
structure Chg (w w' : World) (g : Nat) (ob : Option Nat) : Prop where
  os : w'.os = w.os
  tape : w'.tape = w.tape
  output : w'.output = w.output
  size : w.heap.size ≤ w'.heap.size
  block : ∀ k, k < w.heap.size → k ≠ g → ob ≠ some k → w'.heap[k]? = w.heap[k]?

theorem Chg.refl (w : World) (g : Nat) (ob : Option Nat) : Chg w w g ob := ⟨rfl, rfl, rfl, Nat.le_refl _, fun _ _ _ _ => rfl⟩
theorem Chg.trans {a b c : World} {g : Nat} {ob : Option Nat} (h : Chg a b g ob) (k : Chg b c g ob) : Chg a c g ob :=
  ⟨k.os.trans h.os, k.tape.trans h.tape, k.output.trans h.output, Nat.le_trans h.size k.size, fun i hi h1 h2 => (k.block i (Nat.lt_of_lt_of_le hi h.size) h1 h2).trans (h.block i hi h1 h2)⟩
theorem Chg.ofBelow {w w' : World} (h : Below w.heap.size w w') (g : Nat) (ob : Option Nat) : Chg w w' g ob := ⟨h.os, h.tape, h.output, h.size, fun k hk _ _ => h.block k hk⟩
theorem Chg.ofUpd {w w' : World} {g : Nat} (h : Upd w w' g) (ob : Option Nat) : Chg w w' g ob := ⟨h.os, h.tape, h.output, by rw [h.size]; exact Nat.le_refl _, fun k _ hk _ => h.block k hk⟩
theorem Chg.ofUpd' {w w' : World} {b : Nat} (h : Upd w w' b) (g : Nat) : Chg w w' g (some b) := ⟨h.os, h.tape, h.output, by rw [h.size]; exact Nat.le_refl _, fun k _ _ hk => h.block k (fun e => hk (by rw [e]))⟩
theorem Chg.below {w w' : World} {g B : Nat} {ob : Option Nat} (h : Chg w w' g ob) (hB : B ≤ w.heap.size) (hg : B ≤ g) (ho : ∀ b, ob = some b → B ≤ b) : Below B w w' :=
  ⟨h.os, h.tape, h.output, h.size, fun k hk => h.block k (by omega) (by omega) (fun e => by have := ho k e; omega)⟩

/-- v is nil, or it reads as the bytes and is not nil. -/
def RdO (w : World) (v : Value) (ro : Option (List Nat)) : Prop := match ro with
  | none => v = .slice none 0 0
  | some l => ∃ a n cap, v = .slice (some a) n cap ∧ Rd w v l

/-- v is nil, or it reads as the bytes, in a block from B on. -/
def RdF (B : Nat) (w : World) (v : Value) (ro : Option (List Nat)) : Prop := match ro with
  | none => v = .slice none 0 0
  | some l => ∃ b n cap, B ≤ b ∧ v = .slice (some ⟨b, 0, none⟩) n cap ∧ Rd w v l
theorem RdF.rdo {B : Nat} {w : World} {v : Value} {ro : Option (List Nat)} (h : RdF B w v ro) : RdO w v ro := by
  cases ro with
  | none => exact h
  | some l =>
    obtain ⟨b, n, cap, _, h1, h2⟩ := h
    exact ⟨_, n, cap, h1, h2⟩

theorem ABox.ne_blk {w : World} {g b : Nat} {bv : Value} {bs xs : List Nat} {t : Nat} (h : ABox w g bv bs t) (k : Blk w b xs) : g ≠ b := by
  intro e
  subst e
  have h1 := h.blk
  unfold Blk at k
  rw [h1] at k
  simp at k

theorem ASt.wrote {w w' : World} {g b : Nat} {ob : Option Nat} {xs ys bs : List Nat} {t : Nat} (h : ASt w g ob xs bs t) (hb : ob = some b) (u : Upd w w' b) (k : Blk w' b ys) (hl : ys.length = xs.length) (hd : M.Dig ys) : ASt w' g ob ys bs t :=
  ⟨by rw [hl]; exact h.box.upd u (h.box.ne_blk (h.buf b hb)), fun e => (by rw [hb] at e; cases e), fun c e => (by rw [hb] at e; cases e; exact k), h.u32, by rw [hl]; exact h.good, hd⟩

theorem splice_len {xs ys : List Nat} {o : Nat} (h : o + ys.length ≤ xs.length) : (splice xs o ys).length = xs.length := by simp [splice]; omega
theorem splice_dig {xs ys : List Nat} (hx : M.Dig xs) (hy : M.Dig ys) (o : Nat) : M.Dig (splice xs o ys) := by
  intro x h
  simp only [splice, List.mem_append] at h
  rcases h with h | h | h
  · exact hx x (List.mem_of_mem_take h)
  · exact hy x h
  · exact hx x (List.mem_of_mem_drop h)
theorem splice_one {xs : List Nat} {o v : Nat} (h : o < xs.length) : splice xs o [v] = xs.set o v := by
  simp [splice, List.set_eq_take_append_cons_drop, h]
theorem splice_nil (xs : List Nat) (o : Nat) : splice xs o [] = xs := by simp [splice]

/-- What Read reads. -/
def readA (xs bs : List Nat) (t off l : Nat) : Option (List Nat) := @ite _ (Fits bs t off l ∧ l ≠ 0) (inferInstanceAs (Decidable ((t ≠ 0 ∧ off + l ≤ mA bs t) ∧ l ≠ 0))) (some (sg xs (loA bs t + off) l)) none

theorem Blk.sg {w : World} {b : Nat} {xs : List Nat} (h : Blk w b xs) (o l : Nat) (hl : o + l ≤ xs.length) : Row w (some ⟨b, o, none⟩) (sg xs o l) := by
  intro i hi
  rw [sg_len hl] at hi
  exact ⟨b, o, rfl, by rw [sg_getD hl hi]; exact h.cell (o + i) (by omega)⟩

set_option maxRecDepth 10000 in
set_option maxHeartbeats 1000000 in
theorem read_any {w : World} {g : Nat} {ob : Option Nat} {xs bs : List Nat} {t : Nat} (off l : Nat) (ho : off < 4294967296) (hl : l < 4294967296) (h : ASt w g ob xs bs t) :
    Calls Saag.prog 83 #[.pointer (some ⟨g, 0, none⟩), .int .u32 (off : Int), .int .u32 (l : Int)] w fun e w' => ∃ v, e = .returned v ∧ RdF w.heap.size w' v (readA xs bs t off l) ∧ Below w.heap.size w w' := by
  have T := hide (part_any off l ho hl h)
  have HS := hide h
  clear h
  go_enter Saag.func83, Saag.ntmps83
  go_wp2_with fail
  refine (unhide T).mono ?_
  rintro e w' ⟨⟨hf, v, rfl, hs⟩ | ⟨hf, rfl⟩, q, rfl⟩
  · have hle := (unhide HS).fits_le hf
    rcases hs with ⟨h0, ao, rfl⟩ | ⟨h0, b, rfl, rfl⟩
    · subst h0
      have hr : readA xs bs t off 0 = none := by rw [readA, if_neg (by simp)]
      have HR := hide hr
      clear T HS hr
      go_wp2
      go_ret
      exact ⟨_, rfl, by rw [unhide HR]; rfl, below_drewN _ _⟩
    · have hr : readA xs bs t off l = some (sg xs (loA bs t + off) l) := by rw [readA, if_pos ⟨hf, by omega⟩]
      have HR := hide hr
      clear hr
      have K1 : Blk (w.drewN q) b xs := ((unhide HS).buf b rfl)
      have hd := sg_dig (unhide HS).dig (loA bs t + off) l
      have HBq := hide (below_drewN w q)
      generalize w.drewN q = W at *
      have hz : ((l : Int) == 0) = false := by simp; omega
      have hlen := sg_len hle
      have HR' : readA xs bs t off l = some (sg xs (loA bs t + off) l) := unhide HR
      clear HR
      generalize hys : sg xs (loA bs t + off) l = ys at *
      have HR := hide HR'
      clear HR'
      have hcp := fun w1 (hblk : Hid (Blk w1 W.heap.size (List.replicate l 0))) (hbel : Below W.heap.size W w1) => run_copy_bytes w1 41 41 3 W.heap.size 0 l l ⟨b, loA bs t + off, none⟩ l l (List.replicate l 0) ys Saag.underlying41 hblk (by rw [hlen]; simp [Nat.min_def]) ((hys ▸ K1.sg _ _ hle : Row W _ ys).below hbel (Nat.le_refl _)) (by simp [hlen])
      rw [hlen] at hcp
      have Hcp := hide hcp
      have Hlen := hide hlen
      have Hm : l ≤ 140737488355328 := by omega
      clear hcp hlen T HS K1 hle hys
      go_wp2_with (at_make; refine wpList_make_big _ rfl _ _ 41 rfl Saag.underlying41 _ _ _ _ l rfl rfl rfl rfl Hm ?_; intro w1 hblk hsz hbel; obtain ⟨w2, hrun, hblk2, hupd⟩ := unhide Hcp w1 hblk hbel)
      go_ret
      have hb2 : Below W.heap.size W w2 := hupd.below hbel (Nat.le_refl _)
      refine ⟨_, rfl, ?_, ?_⟩
      rw [unhide HR]
      refine ⟨_, _, _, (unhide HBq).size, rfl, _, _, _, rfl, unhide Hlen, Nat.le_refl _, hd, ?_⟩
      · have e : splice (List.replicate l 0) 0 ys = ys := by simp [splice, unhide Hlen]
        rw [e] at hblk2
        exact (unhide hblk2).row
      · exact bstep (unhide HBq) hb2
  · have hr : readA xs bs t off l = none := by rw [readA, if_neg (fun h => hf h.1)]
    have HR := hide hr
    clear T HS hr
    go_wp2
    go_ret
    exact ⟨_, rfl, by rw [unhide HR]; rfl, below_drewN _ _⟩

end Go.Proofs.Ygcsaa
