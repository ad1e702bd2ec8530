import Derived.Test.YgcsaaTrim
namespace Go.Proofs.Ygcsaa
open Go.RowKit
set_option linter.unusedSimpArgs false
set_option linter.unusedVariables false

set_option maxHeartbeats 400000 in
theorem clip_any (ao : Option Addr) (n cap : Nat) (xs : List Nat) (w : World) (hn : xs.length = n) (hcap : n ≤ cap) (hmax : n ≤ 100000) (hd : M.Dig xs) (hr : Row w ao xs) :
    Calls Saag.prog 67 #[.slice ao n cap] w fun e w' => ∃ v, e = .returned v ∧ Nrm w v (M.val xs) ∧ w = w' := by
  have HN := nrm_clip hd hr
  go_enter Saag.func67, Saag.ntmps67
  go_wp2_with fail
  refine (trim_any ao n cap xs w hn hcap hmax hd hr).mono ?_
  rintro e w' ⟨rfl, rfl⟩
  have hle : (M.tr xs).length ≤ 100000 := by have := M.tr_len xs; omega
  generalize hk : (M.tr xs).length = k at *
  clear hk
  by_cases h0 : k = 0
  · subst h0
    go_wp2
    go_ret
    exact ⟨_, rfl, HN, rfl⟩
  · rw [if_neg h0] at HN
    have h1 : (((k : Nat) : Int) == 0) = false := by simp; omega
    go_wp2
    go_ret
    refine ⟨_, rfl, HN, rfl⟩

/-- What Norm hands back: nil for nought; else a block of its own. -/
def NormOut (w w' : World) (v : Value) (ys : List Nat) : Prop :=
  (ys = [] ∧ v = .slice none 0 0 ∧ w = w') ∨ (ys ≠ [] ∧ v = .slice (some ⟨w.heap.size, 0, none⟩) ys.length ys.length ∧ Blk w' w.heap.size ys ∧ Below w.heap.size w w')

set_option maxRecDepth 10000 in
set_option maxHeartbeats 400000 in
theorem norm_any (ao : Option Addr) (n cap : Nat) (xs : List Nat) (w : World) (hn : xs.length = n) (hcap : n ≤ cap) (hmax : n ≤ 100000) (hd : M.Dig xs) (hr : Row w ao xs) :
    Calls Saag.prog 91 #[.slice ao n cap] w fun e w' => ∃ v, e = .returned v ∧ NormOut w w' v (M.tr xs) := by
  go_enter Saag.func91, Saag.ntmps91
  go_wp2_with fail
  refine (trim_any ao n cap xs w hn hcap hmax hd hr).mono ?_
  rintro e w' ⟨rfl, rfl⟩
  have hle : (M.tr xs).length ≤ 100000 := by have := M.tr_len xs; omega
  have hr' : Row w ao (M.tr xs) := by rw [M.tr_take]; exact hr.take _
  generalize hk : (M.tr xs).length = k at *
  have Hk := hide hk
  clear hk hn
  by_cases h0 : k = 0
  · subst h0
    go_wp2
    go_ret
    exact ⟨_, rfl, .inl ⟨List.eq_nil_of_length_eq_zero (unhide Hk), rfl, rfl⟩⟩
  · have h1 : (((k : Nat) : Int) == 0) = false := by simp; omega
    obtain ⟨b, off, rfl, hc⟩ := hr' 0 (by rw [unhide Hk]; omega)
    clear hc
    have hcp := fun w1 (hblk : Hid (Blk w1 w.heap.size (List.replicate k 0))) (hbel : Below w.heap.size w w1) => run_copy_bytes w1 42 42 3 w.heap.size 0 k k ⟨b, off, none⟩ k k (List.replicate k 0) (M.tr xs) Saag.underlying42 hblk (by rw [unhide Hk]; simp [Nat.min_def]) (hr'.below hbel (Nat.le_refl _)) (by rw [unhide Hk]; simp)
    rw [unhide Hk] at hcp
    have Hcp := hide hcp
    clear hcp
    go_wp2_with (at_make; refine wpList_make_bytes _ rfl _ _ 42 rfl Saag.underlying42 _ _ _ _ k rfl rfl rfl rfl (by omega) ?_; intro w1 hblk hsz hbel; obtain ⟨w2, hrun, hblk2, hupd⟩ := unhide Hcp w1 hblk hbel)
    go_ret
    refine ⟨_, rfl, .inr ⟨fun h => h0 (by rw [← unhide Hk, h]; rfl), by rw [unhide Hk]; rfl, ?_, hupd.below hbel (Nat.le_refl _)⟩⟩
    have e : splice (List.replicate k 0) 0 (M.tr xs) = M.tr xs := by simp [splice, unhide Hk]
    rw [← e]
    exact hblk2

end Go.Proofs.Ygcsaa
