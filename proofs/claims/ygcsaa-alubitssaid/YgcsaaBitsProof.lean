/-
  'Rows.AluBitsSaid' proved.
-/
import Derived.Test.YgcsaaOpen
import Derived.Test.YgcsaaBitsTop
namespace Go.Proofs.Ygcsaa.AluBitsDone
open Go.ChangeShapes Go.WideShapes Go.ChangeAt Go.RowKit
set_option linter.unusedSimpArgs false
set_option linter.unusedVariables false

set_option maxRecDepth 100000 in
theorem lifted (os : Os) (started : os.Started) (H : Type) (enc : TypeId × Value → H) :
    ReturnsInHanded {} Saag.checked os 8 .any (Rows.aluBitsSpec.pre6 enc Saag.prog Saag.f8 Rows.aluBitsRow.domain false) (Rows.aluBitsSpec.post enc Saag.prog Saag.f8 false true false false) := by
  refine returnsInHanded_of_change (C := Saag.checked) own started (by kernel_rfl) Saag.func8
    (ChangeSpec.witness6 (enc := enc) (C := Saag.checked) false ⟨#[], #[.int .u8 0, .agg (Array.replicate 32 (.int .u8 0)), .agg (Array.replicate 32 (.int .u8 0)), .int .u8 0], []⟩ 8 (by kernel_rfl) (by kernel_rfl) (by kernel_rfl) (by kernel_rfl)) ?_
  intro W base args ds gs before hval0 hW hcnd _
  have hval : ∀ (j : Nat) t v, Saag.f8.params[j]? = some t → args[j]? = some v → Value.okWide Saag.prog W .any base t v := hval0
  have hW' := hW
  obtain ⟨p, q, hA0, hV, rfl, hfz, hnd⟩ := hW
  have hA : DataW.TrodAll enc Saag.prog W 0 (fun _ => true) true Saag.f8.params.toList args.toList ds p := hA0
  rw [Saag.params8] at hA hval
  obtain ⟨v0, vs0, d0, ds0, p0, q0, hargs, rfl, rfl, h0, r0⟩ := trodAll_cons hA
  obtain ⟨v1, vs1, d1, ds1, p1, q1, rfl, rfl, rfl, h1, r1⟩ := trodAll_cons r0
  obtain ⟨v2, vs2, d2, ds2, p2, q2, rfl, rfl, rfl, h2, r2⟩ := trodAll_cons r1
  obtain ⟨v3, vs3, d3, ds3, p3, q3, rfl, rfl, rfl, h3, r3⟩ := trodAll_cons r2
  obtain ⟨rfl, rfl, rfl⟩ := trodAll_nil r3
  obtain rfl : args = #[v0, v1, v2, v3] := by cases args; simp_all
  obtain ⟨rfl, rfl⟩ := trodVars_none hV
  obtain ⟨o0, rfl, rfl, rfl, wo0⟩ := open_int Saag.underlying5 (hval 0 5 v0 rfl rfl) h0
  obtain ⟨b0, c0⟩ := byte_of_wf wo0
  obtain ⟨o0, rfl⟩ := Int.eq_ofNat_of_zero_le b0
  have k1 := h1
  have lt1 : ∀ x ∈ p1, x.block < W.heap.size := by obtain ⟨m, hm⟩ := k1; exact DataW.trod_lt m _ _ _ hm
  obtain ⟨xs1, e1, l1, g1⟩ := open_word (hval 1 60 v1 rfl rfl) h1
  have k2 := h2
  have lt2 : ∀ x ∈ p2, x.block < W.heap.size := by obtain ⟨m, hm⟩ := k2; exact DataW.trod_lt m _ _ _ hm
  obtain ⟨xs2, e2, l2, g2⟩ := open_word (hval 2 60 v2 rfl rfl) h2
  obtain ⟨o3, rfl, rfl, rfl, wo3⟩ := open_int Saag.underlying5 (hval 3 5 v3 rfl rfl) h3
  obtain ⟨b3, c3⟩ := byte_of_wf wo3
  obtain ⟨o3, rfl⟩ := Int.eq_ofNat_of_zero_le b3
  clear hA0 hval0
  subst e1
  subst e2
  refine (aluBits_any o0 xs1 xs2 o3 (by omega) W l1 l2 g1 g2).mono fun e W' ⟨he, bel⟩ => ?_
  subst he
  exact ⟨_, rfl, _, _, _, [], _, [], hW', trodAll_mk1 (shut_bool Saag.underlying4 _), (trodAll_cons_mk (shut_int Saag.underlying5 wo0) (trodAll_cons_mk (Below.trod laidOut (by kernel_rfl) (of_decide_eq_true (by kernel_rfl)) k1 bel lt1) (trodAll_cons_mk (Below.trod laidOut (by kernel_rfl) (of_decide_eq_true (by kernel_rfl)) k2 bel lt2) (trodAll_cons_mk (shut_int Saag.underlying5 wo3) trodAll_mk0)))), rfl, bel.frame _, fun h => by cases h⟩

theorem over : Rows.aluBitsRow.holds Saag.pinned (OpenSpec.ofChange Rows.aluBitsSpec) :=
  OpenClaim.holds_of_wide 8 Saag.f8 rfl rfl rfl rfl rfl rfl rfl ⟨rfl, rfl, rfl, rfl, rfl⟩ rfl rfl rfl rfl rfl (by kernel_rfl) Saag.func8 (by kernel_rfl)
    (of_decide_eq_true (by kernel_rfl)) (by unfold Func.isWrapper; first | (rw [if_pos (by decide +kernel)]; kernel_rfl) | (rw [if_neg (by decide +kernel)]; exact ⟨rfl, rfl⟩))
    (fun os started H enc _ => lifted os started H enc)

end Go.Proofs.Ygcsaa.AluBitsDone

namespace Go.Proofs.Ygcsaa
theorem aluBits_proved : Rows.AluBitsSaid := AluBitsDone.over
end Go.Proofs.Ygcsaa
