import Derived.Test.YgcsaaNum
import Derived.Laws.BytesArg
namespace Go.Proofs.Ygcsaa
open Go.RowKit
set_option linter.unusedSimpArgs false
set_option linter.unusedVariables false

/-- string(b) for the bytes xs. -/
def bstr (xs : List Nat) : ByteArray := (xs.map fun x => ((x : Nat) : Int)).foldl (fun r n => r.push (UInt8.ofNat n.toNat)) ByteArray.empty

theorem push_toList (r : ByteArray) (b : UInt8) : (r.push b).data.toList = r.data.toList ++ [b] := by
  simp [ByteArray.push]

theorem fold_toList (l : List Int) : ∀ r : ByteArray, (l.foldl (fun r n => r.push (UInt8.ofNat n.toNat)) r).data.toList = r.data.toList ++ l.map (fun n => UInt8.ofNat n.toNat) := by
  induction l with
  | nil => intro r; simp
  | cons n l ih => intro r; rw [List.foldl_cons, ih, push_toList]; simp

theorem bstr_data (xs : List Nat) : (bstr xs).data.toList = xs.map UInt8.ofNat := by
  unfold bstr
  rw [fold_toList]
  simp

theorem ofNat_inj {a b : Nat} (ha : a < 256) (hb : b < 256) (h : UInt8.ofNat a = UInt8.ofNat b) : a = b := by
  have := congrArg UInt8.toNat h
  simp at this
  omega

theorem map_ofNat_inj : ∀ (xs ys : List Nat), M.Dig xs → M.Dig ys → xs.map UInt8.ofNat = ys.map UInt8.ofNat → xs = ys := by
  intro xs
  induction xs with
  | nil => intro ys _ _ h; cases ys with
    | nil => rfl
    | cons a b => simp at h
  | cons x xs ih =>
    intro ys hx hy h
    cases ys with
    | nil => simp at h
    | cons y ys =>
      simp only [List.map_cons, List.cons.injEq] at h
      rw [ofNat_inj (hx x (by simp)) (hy y (by simp)) h.1, ih ys (fun z hz => hx z (by simp [hz])) (fun z hz => hy z (by simp [hz])) h.2]

theorem bstr_beq {xs ys : List Nat} (hx : M.Dig xs) (hy : M.Dig ys) : ((bstr xs).toList == (bstr ys).toList) = decide (xs = ys) := by
  rw [Bool.eq_iff_iff]
  simp only [beq_iff_eq, decide_eq_true_eq]
  constructor
  · intro h
    apply map_ofNat_inj xs ys hx hy
    rw [← bstr_data, ← bstr_data]
    rw [← ByteArray.toList_eq, ← ByteArray.toList_eq, h]
  · intro h; rw [h]

theorem run_string (w : World) (ao : Option Addr) (n cap : Nat) (xs : List Nat) (hn : xs.length = n) (hr : Row w ao xs) (s : TypeId) (hs : Saag.prog.underlying s = some (.slice 5)) :
    (convert s 9 (.slice ao n cap)).run Saag.prog w = .ok (.string (bstr xs)) w := by
  rw [run_convert_bytes_string w s 9 5 ao n cap hs Saag.underlying5 Saag.underlying9]
  cases ao with
  | none =>
    have hx : xs = [] := by
      cases xs with
      | nil => rfl
      | cons a b => obtain ⟨_, _, h, _⟩ := hr 0 (by simp); cases h
    subst hx
    rfl
  | some a =>
    have hsrc : ∀ j v, ((xs.map fun x => ((x : Nat) : Int)).map (Value.int .u8))[j]? = some v → w.cell? (a.add j) = some v := by
      intro j v hj
      have hjl : j < xs.length := by
        have := (List.getElem?_eq_some_iff.1 hj).1
        simpa using this
      obtain ⟨b, o, h1, h2⟩ := hr j hjl
      cases h1
      have e : v = .int .u8 ((xs.getD j 0 : Nat) : Int) := by
        simp [hjl, List.getD_eq_getElem?_getD] at hj ⊢
        exact hj.symm
      rw [e, ← h2, addr_plain]
    have hl := run_loadCells_list (P := Saag.prog) w a _ hsrc
    have e : (List.map (Value.int .u8) (List.map (fun x => ((x : Nat) : Int)) xs)).length = n := by simp [hn]
    rw [e] at hl
    exact run_bytesToString w a n cap _ hl

set_option maxRecDepth 10000 in
set_option maxHeartbeats 400000 in
theorem equalBytes_any {va vb : Value} {xs ys : List Nat} {w : World} (ha : Rd w va xs) (hb : Rd w vb ys) :
    Calls Saag.prog 51 #[va, vb] w fun e w' => e = .returned (.bool (decide (xs = ys))) ∧ w = w' := by
  obtain ⟨ao, n, cap, rfl, h1, h2, h3, h4⟩ := ha
  obtain ⟨bo, m, cap', rfl, k1, k2, k3, k4⟩ := hb
  have c1 := run_string w ao n cap xs h1 h4 41 Saag.underlying41
  have c2 := run_string w bo m cap' ys k1 k4 41 Saag.underlying41
  have HB := hide (bstr_beq h3 k3)
  clear h1 k1
  go_enter Saag.func51, Saag.ntmps51
  go_wp2
  go_ret
  exact ⟨by rw [← unhide HB]; rfl, rfl⟩

theorem equalBytes_nrm {va vb : Value} {A B : Nat} {w : World} (ha : Nrm w va A) (hb : Nrm w vb B) :
    Calls Saag.prog 51 #[va, vb] w fun e w' => e = .returned (.bool (decide (A = B))) ∧ w = w' := by
  obtain ⟨xs, h1, h2, h3, h4⟩ := ha
  obtain ⟨ys, k1, k2, k3, k4⟩ := hb
  refine (equalBytes_any h1 k1).mono ?_
  rintro e w' ⟨rfl, rfl⟩
  refine ⟨?_, rfl⟩
  have hd1 : M.Dig xs := by obtain ⟨_, _, _, _, _, _, h, _⟩ := h1; exact h
  have hd2 : M.Dig ys := by obtain ⟨_, _, _, _, _, _, h, _⟩ := k1; exact h
  have e : (xs = ys) ↔ (A = B) := by
    constructor
    · intro h; rw [← h2, ← k2, h]
    · intro h; exact M.val_inj hd1 hd2 h3 k3 (by rw [h2, k2, h])
  rw [decide_eq_decide.2 e]

end Go.Proofs.Ygcsaa
