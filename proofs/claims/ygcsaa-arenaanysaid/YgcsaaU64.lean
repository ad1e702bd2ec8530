import Derived.Test.YgcsaaClip
namespace Go.Proofs.Ygcsaa
open Go.RowKit
set_option linter.unusedSimpArgs false
set_option linter.unusedVariables false

/-- The bytes from place k on, as a number: what U64 has gathered. -/
theorem val_drop_step (xs : List Nat) (k : Nat) (hk : k < xs.length) : M.val (xs.drop k) = xs.getD k 0 + 256 * M.val (xs.drop (k + 1)) := by
  rw [List.drop_eq_getElem_cons hk, M.getD_lt _ _ hk]
  rfl

theorem val_drop_lt (xs : List Nat) (k : Nat) (hd : M.Dig xs) (hl : xs.length ≤ 8) (hk : k < xs.length) : M.val (xs.drop (k + 1)) < 72057594037927936 := by
  have h : M.Dig (xs.drop (k + 1)) := fun x hx => hd x (List.mem_of_mem_drop hx)
  have h1 := M.val_lt h
  have h2 : 256 ^ (xs.drop (k + 1)).length ≤ 256 ^ 7 := Nat.pow_le_pow_right (by omega) (by rw [List.length_drop]; omega)
  have h3 : (256 : Nat) ^ 7 = 72057594037927936 := by decide
  omega

set_option maxRecDepth 10000 in
set_option maxHeartbeats 400000 in
theorem u64_any (ao : Option Addr) (n cap : Nat) (xs : List Nat) (w : World) (hn : xs.length = n) (hcap : n ≤ cap) (hmax : n ≤ 100000) (hd : M.Dig xs) (hr : Row w ao xs) :
    Calls Saag.prog 107 #[.slice ao n cap] w fun e w' => e = .returned (.tuple #[.int .u64 (if M.val xs < 256 ^ 8 then (M.val xs : Int) else 0), .bool (decide (M.val xs < 256 ^ 8))]) ∧ w = w' := by
  have va := M.val_tr xs
  have na := M.nrml_tr xs
  have da := M.dig_tr hd
  have la := M.tr_len xs
  have ra : Row w ao (M.tr xs) := by rw [M.tr_take]; exact hr.take _
  have T1 := hide (trim_any ao n cap xs w hn hcap hmax hd hr)
  rw [← va]
  generalize M.tr xs = as1 at *
  clear va hr hd
  subst hn
  have hla : as1.length ≤ 100000 := by omega
  clear la hmax hcap
  generalize xs.length = n at *
  by_cases h8 : as1.length ≤ 8
  · have hlt : M.val as1 < 256 ^ 8 := Nat.lt_of_lt_of_le (M.val_lt da) (Nat.pow_le_pow_right (by omega) h8)
    rw [if_pos hlt, decide_eq_true hlt]
    clear hlt na
    have Hst := hide (fun k hk => val_drop_step as1 k hk)
    have Hlt := hide (fun k hk => val_drop_lt as1 k da h8 hk)
    go_enter Saag.func107, Saag.ntmps107
    go_wp2_with fail
    refine (unhide T1).mono ?_
    rintro e w' ⟨rfl, rfl⟩
    clear T1
    generalize hk1 : as1.length = k1 at *
    have Hk1 := hide hk1
    clear hk1
    go_wp2
    go_loop [4, 5] (fun x i => ∃ k v : Nat, k ≤ k1 ∧ i = .int .i64 k ∧ x = .int .u64 v ∧ Hid (v = M.val (as1.drop k))) (fun _ i => (intOf i).toNat)
    case atStart => exact ⟨k1, 0, Nat.le_refl _, rfl, rfl, by rw [List.drop_eq_nil_of_le (by rw [unhide Hk1]; exact Nat.le_refl _)]; exact hide rfl⟩
    case round =>
      obtain ⟨k, v, hk, rfl, rfl, hv⟩ := hrel
      by_cases hk0 : k = 0
      · subst hk0
        go_wp2
        go_ret2
        refine ⟨?_, rfl⟩
        rw [unhide hv]
        rfl
      · obtain ⟨k, rfl⟩ : ∃ j, k = j + 1 := ⟨k - 1, by omega⟩
        obtain ⟨b, off, rfl, hca⟩ := ra k (by rw [unhide Hk1]; omega)
        have hx := M.dig_getD da k
        have hs := unhide Hst k (by omega)
        have hl := unhide Hlt k (by omega)
        rw [← unhide hv] at hs hl
        have hs' := hide hs
        clear hs Hst Hlt
        generalize as1.getD k 0 = x at *
        have hor : bits .or .u64 ((v : Int) * 256) (x : Int) = (v : Int) * 256 + x := by
          have h1 := u64_or_nat (v * 256) x (by omega) (by omega)
          rw [nat_join 8 (v * 256) x (by omega) (by omega)] at h1
          simpa using h1
        go_wp2
        go_round
        case rel => exact ⟨k, v * 256 + x, by omega, by go_num, by go_num, by rw [unhide hs']; show v * 256 + x = _; omega⟩
        case measure => simp [intOf]
  · have hge : ¬ M.val as1 < 256 ^ 8 := by
      have h1 := M.val_ge na (fun e => h8 (by rw [e]; simp))
      have h2 : 256 ^ 8 ≤ 256 ^ (as1.length - 1) := Nat.pow_le_pow_right (by omega) (by omega)
      omega
    rw [if_neg hge, decide_eq_false hge]
    clear hge na
    go_enter Saag.func107, Saag.ntmps107
    go_wp2_with fail
    refine (unhide T1).mono ?_
    rintro e w' ⟨rfl, rfl⟩
    clear T1
    go_wp2
    go_ret2
    exact ⟨rfl, rfl⟩
end Go.Proofs.Ygcsaa
