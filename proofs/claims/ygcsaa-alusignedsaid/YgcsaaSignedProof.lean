/-
  'Rows.AluSignedSaid' proved.
-/
import Derived.Test.YgcsaaOpen
import Derived.Test.YgcsaaSignedT
namespace Go.Proofs.Ygcsaa.AluSignedDone
open Go.ChangeShapes Go.WideShapes Go.ChangeAt Go.RowKit
set_option linter.unusedSimpArgs false
set_option linter.unusedVariables false

set_option maxRecDepth 100000 in
theorem lifted (os : Os) (started : os.Started) (H : Type) (enc : TypeId × Value → H) :
    ReturnsInHanded {} Saag.checked os 6 .any (Rows.aluSignedSpec.pre6 enc Saag.prog Saag.f6 Rows.aluSignedRow.domain false) (Rows.aluSignedSpec.post enc Saag.prog Saag.f6 false true false false) := by
  refine returnsInHanded_of_change (C := Saag.checked) own started (by kernel_rfl) Saag.func6
    (ChangeSpec.witness6 (enc := enc) (C := Saag.checked) false ⟨#[], #[.agg (Array.replicate 32 (.int .u8 0)), .agg (Array.replicate 32 (.int .u8 0))], []⟩ 8 (by kernel_rfl) (by kernel_rfl) (by kernel_rfl) (by kernel_rfl)) ?_
  intro W base args ds gs before hval0 hW hcnd _
  have hval : ∀ (j : Nat) t v, Saag.f6.params[j]? = some t → args[j]? = some v → Value.okWide Saag.prog W .any base t v := hval0
  have hW' := hW
  obtain ⟨p, q, hA0, hV, rfl, hfz, hnd⟩ := hW
  have hA : DataW.TrodAll enc Saag.prog W 0 (fun _ => true) true Saag.f6.params.toList args.toList ds p := hA0
  rw [Saag.params6] at hA hval
  obtain ⟨v0, vs0, d0, ds0, p0, q0, hargs, rfl, rfl, h0, r0⟩ := trodAll_cons hA
  obtain ⟨v1, vs1, d1, ds1, p1, q1, rfl, rfl, rfl, h1, r1⟩ := trodAll_cons r0
  obtain ⟨rfl, rfl, rfl⟩ := trodAll_nil r1
  obtain rfl : args = #[v0, v1] := by cases args; simp_all
  obtain ⟨rfl, rfl⟩ := trodVars_none hV
  have k0 := h0
  have lt0 : ∀ x ∈ p0, x.block < W.heap.size := by obtain ⟨m, hm⟩ := k0; exact DataW.trod_lt m _ _ _ hm
  obtain ⟨xs0, e0, l0, g0⟩ := open_word (hval 0 60 v0 rfl rfl) h0
  have k1 := h1
  have lt1 : ∀ x ∈ p1, x.block < W.heap.size := by obtain ⟨m, hm⟩ := k1; exact DataW.trod_lt m _ _ _ hm
  obtain ⟨xs1, e1, l1, g1⟩ := open_word (hval 1 60 v1 rfl rfl) h1
  clear hA0 hval0
  subst e0
  subst e1
  refine (aluSigned_any xs0 xs1 W l0 l1 g0 g1).mono fun e W' ⟨he, bel⟩ => ?_
  subst he
  exact ⟨_, rfl, _, _, _, [], _, [], hW', trodAll_mk1 (shut_bool Saag.underlying4 _), (trodAll_cons_mk (Below.trod laidOut (by kernel_rfl) (of_decide_eq_true (by kernel_rfl)) k0 bel lt0) (trodAll_cons_mk (Below.trod laidOut (by kernel_rfl) (of_decide_eq_true (by kernel_rfl)) k1 bel lt1) trodAll_mk0)), rfl, bel.frame _, fun h => by cases h⟩

theorem over : Rows.aluSignedRow.holds Saag.pinned (OpenSpec.ofChange Rows.aluSignedSpec) :=
  OpenClaim.holds_of_wide 6 Saag.f6 rfl rfl rfl rfl rfl rfl rfl ⟨rfl, rfl, rfl, rfl, rfl⟩ rfl rfl rfl rfl rfl (by kernel_rfl) Saag.func6 (by kernel_rfl)
    (of_decide_eq_true (by kernel_rfl)) (by unfold Func.isWrapper; first | (rw [if_pos (by decide +kernel)]; kernel_rfl) | (rw [if_neg (by decide +kernel)]; exact ⟨rfl, rfl⟩))
    (fun os started H enc _ => lifted os started H enc)

end Go.Proofs.Ygcsaa.AluSignedDone

namespace Go.Proofs.Ygcsaa
theorem aluSigned_proved : Rows.AluSignedSaid := AluSignedDone.over
end Go.Proofs.Ygcsaa
