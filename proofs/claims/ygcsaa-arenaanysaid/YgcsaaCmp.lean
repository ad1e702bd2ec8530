import Derived.Test.YgcsaaClip
namespace Go.Proofs.Ygcsaa
open Go.RowKit
set_option linter.unusedSimpArgs false
set_option linter.unusedVariables false

/-- Cmp's answer. -/
def cmpI (A B : Nat) : Int := if A < B then -1 else if B < A then 1 else 0

theorem cmpI_lt {A B : Nat} (h : A < B) : cmpI A B = -1 := by simp [cmpI, h]
theorem cmpI_gt {A B : Nat} (h : B < A) : cmpI A B = 1 := by
  have : ¬ A < B := by omega
  simp [cmpI, h, this]
theorem cmpI_eq {A B : Nat} (h : A = B) : cmpI A B = 0 := by subst h; simp [cmpI]

theorem len_lt_val {a b : List Nat} (da : M.Dig a) (nb : M.Nrml b) (h : a.length < b.length) : M.val a < M.val b := by
  have h1 := M.val_lt da
  have h2 := M.val_ge nb (fun e => by rw [e] at h; simp at h)
  have h3 : 256 ^ a.length ≤ 256 ^ (b.length - 1) := Nat.pow_le_pow_right (by omega) (by omega)
  omega

theorem digit_lt_val {a b : List Nat} (da : M.Dig a) (k : Nat) (hk : k < a.length) (hl : a.length = b.length) (he : ∀ j, k < j → a.getD j 0 = b.getD j 0) (hlt : a.getD k 0 < b.getD k 0) : M.val a < M.val b := by
  have h1 := M.val_split a (k + 1) (by omega)
  have h2 := M.val_split b (k + 1) (by omega)
  have h3 : a.drop (k + 1) = b.drop (k + 1) := by
    apply List.ext_getElem?
    intro i
    rw [List.getElem?_drop, List.getElem?_drop]
    have h := he (k + 1 + i) (by omega)
    by_cases hi : k + 1 + i < a.length
    · rw [M.getD_lt _ _ hi, M.getD_lt _ _ (by omega)] at h
      rw [List.getElem?_eq_getElem hi, List.getElem?_eq_getElem (by omega), h]
    · rw [List.getElem?_eq_none (by omega), List.getElem?_eq_none (by omega)]
  rw [h3] at h1
  have h4 := M.val_take_succ a k
  have h5 := M.val_take_succ b k
  have h6 := M.val_lt (M.dig_take da k)
  rw [List.length_take, Nat.min_eq_left (by omega)] at h6
  have h7 : 256 ^ k * (a.getD k 0 + 1) ≤ 256 ^ k * b.getD k 0 := Nat.mul_le_mul_left _ hlt
  rw [Nat.mul_add] at h7
  omega

theorem eq_val {a b : List Nat} (hl : a.length = b.length) (he : ∀ j, a.getD j 0 = b.getD j 0) : M.val a = M.val b := by
  have : a = b := by
    apply List.ext_getElem hl
    intro i h1 h2
    have h := he i
    rwa [M.getD_lt _ _ h1, M.getD_lt _ _ h2] at h
  rw [this]

theorem drewN_drewN (w : World) (a b : Nat) : (w.drewN a).drewN b = w.drewN (a + b) := by
  simp [World.drewN, Nat.add_assoc]

theorem ret_i8 {a b : Int} (h : a = b) : Ending.returned (.int .i8 a) = .returned (.int .i8 b) := by rw [h]

theorem Row.drewN {w : World} {ao : Option Addr} {xs : List Nat} (h : Row w ao xs) (q : Nat) : Row (w.drewN q) ao xs := h

set_option maxRecDepth 10000 in
set_option maxHeartbeats 400000 in
theorem cmp_any (ao bo : Option Addr) (n m cap cap' : Nat) (xs ys : List Nat) (w : World) (hn : xs.length = n) (hm : ys.length = m) (hcap : n ≤ cap) (hcap' : m ≤ cap') (hmax : n ≤ 100000) (hmax' : m ≤ 100000)
    (hd : M.Dig xs) (hd' : M.Dig ys) (hr : Row w ao xs) (hr' : Row w bo ys) :
    Calls Saag.prog 24 #[.slice ao n cap, .slice bo m cap'] w fun e w' => e = .returned (.int .i8 (cmpI (M.val xs) (M.val ys))) ∧ ∃ q, w' = w.drewN q := by
  have va := M.val_tr xs
  have vb := M.val_tr ys
  have na := M.nrml_tr xs
  have nb := M.nrml_tr ys
  have da := M.dig_tr hd
  have db := M.dig_tr hd'
  have la := M.tr_len xs
  have lb := M.tr_len ys
  have ra : Row w ao (M.tr xs) := by rw [M.tr_take]; exact hr.take _
  have rb : Row w bo (M.tr ys) := by rw [M.tr_take]; exact hr'.take _
  have T1 := hide (trim_any ao n cap xs w hn hcap hmax hd hr)
  have T2 := hide (trim_any bo m cap' ys w hm hcap' hmax' hd' hr')
  rw [← va, ← vb]
  generalize M.tr xs = as1 at *
  generalize M.tr ys = bs1 at *
  clear va vb hr hr' hd hd'
  subst hn
  subst hm
  have hla : as1.length ≤ 100000 := by omega
  have hlb : bs1.length ≤ 100000 := by omega
  clear la lb hmax hmax' hcap hcap'
  generalize xs.length = n at *
  generalize ys.length = m at *
  have Hlt : Hid (as1.length < bs1.length → M.val as1 < M.val bs1) := fun h => len_lt_val da nb h
  have Hgt : Hid (bs1.length < as1.length → M.val bs1 < M.val as1) := fun h => len_lt_val db na h
  have Hdl : Hid (∀ k, k < as1.length → as1.length = bs1.length → (∀ j, k < j → as1.getD j 0 = bs1.getD j 0) → as1.getD k 0 < bs1.getD k 0 → M.val as1 < M.val bs1) := fun k h1 h2 h3 h4 => digit_lt_val da k h1 h2 h3 h4
  have Hdg : Hid (∀ k, k < as1.length → as1.length = bs1.length → (∀ j, k < j → as1.getD j 0 = bs1.getD j 0) → bs1.getD k 0 < as1.getD k 0 → M.val bs1 < M.val as1) := fun k h1 h2 h3 h4 => digit_lt_val db k (by omega) h2.symm (fun j hj => (h3 j hj).symm) h4
  have Hde : Hid (as1.length = bs1.length → (∀ j, as1.getD j 0 = bs1.getD j 0) → M.val as1 = M.val bs1) := fun h1 h2 => eq_val h1 h2
  clear na nb
  generalize hA : M.val as1 = A at *
  generalize hB : M.val bs1 = B at *
  clear hA hB
  go_enter Saag.func24, Saag.ntmps24
  go_wp2_with fail
  refine (unhide T1).mono ?_
  rintro e w' ⟨rfl, rfl⟩
  go_wp2_with fail
  refine (unhide T2).mono ?_
  rintro e w' ⟨rfl, rfl⟩
  clear T1 T2
  generalize hk1 : as1.length = k1 at *
  generalize hk2 : bs1.length = k2 at *
  have Hk1 := hide hk1
  have Hk2 := hide hk2
  clear hk1 hk2
  by_cases hc1 : k1 < k2
  · have hh := hide (cmpI_lt (unhide Hlt hc1))
    clear Hlt Hgt Hdl Hdg Hde
    go_wp2
    go_ret
    exact ⟨ret_i8 (unhide hh).symm, 0, rfl⟩
  by_cases hc2 : k2 < k1
  · have hh := hide (cmpI_gt (unhide Hgt hc2))
    clear Hlt Hgt Hdl Hdg Hde
    go_wp2
    go_ret
    exact ⟨ret_i8 (unhide hh).symm, 0, rfl⟩
  have hc3 : k2 = k1 := by omega
  subst hc3
  clear Hlt Hgt hc1 hc2
  go_wp2
  go_loopw [5] (fun i wr => ∃ k q : Nat, k ≤ k2 ∧ i = .int .i64 k ∧ Hid (∀ j, k ≤ j → as1.getD j 0 = bs1.getD j 0) ∧ wr = w.drewN q) (fun i _ => (intOf i).toNat)
  case atStart => exact ⟨k2, 0, Nat.le_refl _, rfl, hide (fun j hj => by rw [M.getD_ge _ _ (by rw [unhide Hk1]; exact hj), M.getD_ge _ _ (by rw [unhide Hk2]; exact hj)]), rfl⟩
  case round =>
    obtain ⟨k, q, hk, rfl, hz, rfl⟩ := hrel
    by_cases hk0 : k = 0
    · subst hk0
      have hh := hide (cmpI_eq (unhide Hde (by first | rfl | trivial) (fun j => unhide hz j (Nat.zero_le _))))
      clear Hdl Hdg Hde hz
      go_wp2
      go_ret
      exact ⟨ret_i8 (unhide hh).symm, q, rfl⟩
    · obtain ⟨k, rfl⟩ : ∃ j, k = j + 1 := ⟨k - 1, by omega⟩
      obtain ⟨b, off, rfl, hca⟩ := ra k (by rw [unhide Hk1]; omega)
      obtain ⟨b', off', rfl, hcb⟩ := rb k (by rw [unhide Hk2]; omega)
      have hwr : IntKind.i64.wrap (k : Int) = (k : Int) := by rw [IntKind.wrap_i64]; omega
      have hb1 : (k : Int) < (k2 : Int) := by omega
      have xa := M.dig_getD da k
      have xb := M.dig_getD db k
      by_cases h1 : as1.getD k 0 < bs1.getD k 0
      · have hh := hide (cmpI_lt (unhide Hdl k (by omega) (by first | rfl | trivial) (fun j hj => unhide hz j (by omega)) h1))
        clear Hdl Hdg Hde hz
        generalize as1.getD k 0 = x at *
        generalize bs1.getD k 0 = y at *
        go_wp2
        go_quiet (fail)
        go_wp2
        go_ret
        exact ⟨ret_i8 (unhide hh).symm, _, drewN_drewN _ _ _⟩
      · by_cases h2 : bs1.getD k 0 < as1.getD k 0
        · have hh := hide (cmpI_gt (unhide Hdg k (by omega) (by first | rfl | trivial) (fun j hj => unhide hz j (by omega)) h2))
          clear Hdl Hdg Hde hz
          generalize as1.getD k 0 = x at *
          generalize bs1.getD k 0 = y at *
          go_wp2
          go_quiet (fail)
          go_wp2
          go_quiet (fail)
          go_wp2
          go_ret
          exact ⟨ret_i8 (unhide hh).symm, _, by rw [drewN_drewN, drewN_drewN]⟩
        · have hz' : Hid (∀ j, k ≤ j → as1.getD j 0 = bs1.getD j 0) := by
            intro j hj
            by_cases e : j = k
            · subst e; omega
            · exact unhide hz j (by omega)
          clear Hdl Hdg Hde hz
          generalize as1.getD k 0 = x at *
          generalize bs1.getD k 0 = y at *
          go_wp2
          go_quiet (fail)
          go_wp2
          go_quiet (fail)
          go_wp2
          go_roundw
          case rel => exact ⟨k, _, by omega, by go_num, hz', rfl⟩
          case measure => simp [intOf]

end Go.Proofs.Ygcsaa
