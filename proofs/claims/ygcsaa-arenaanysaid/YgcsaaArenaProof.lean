/-
  'Rows.ArenaAnySaid' proved.
-/
import Derived.Test.YgcsaaAn3
namespace Go.Proofs.Ygcsaa.ArenaAnyDone
open Go.ChangeShapes Go.WideShapes Go.ChangeAt Go.RowKit
set_option linter.unusedSimpArgs false
set_option linter.unusedVariables false

set_option maxRecDepth 100000 in
theorem lifted (os : Os) (started : os.Started) (H : Type) (enc : TypeId × Value → H) :
    ReturnsInHanded {} Saag.checked os 9 .any (Rows.arenaAnySpec.pre6 enc Saag.prog Saag.f9 Rows.arenaAnyRow.domain false) (Rows.arenaAnySpec.post enc Saag.prog Saag.f9 false true false false) := by
  refine returnsInHanded_of_change_sized (C := Saag.checked) own started (by kernel_rfl) Saag.func9
    (ChangeSpec.witness6 (enc := enc) (C := Saag.checked) false ⟨#[], #[.agg #[.slice none 0 0, .int .u32 0, .int .u32 0, .int .u32 0, .int .u32 0, .int .u32 0, .int .u32 0, .int .u32 0, .int .u32 0, .int .u8 0], .agg #[.int .u8 0, .int .u32 0, .int .u32 0, .int .u32 0, .int .u8 0], .slice none 0 0, .int .u64 0], []⟩ 8 (by kernel_rfl) (by kernel_rfl) (by kernel_rfl) (by kernel_rfl)) ?_
  intro W base args ds gs before hval0 hW hcnd hsz0 _
  have hval : ∀ (j : Nat) t v, Saag.f9.params[j]? = some t → args[j]? = some v → Value.okWide Saag.prog W .any base t v := hval0
  have hW' := hW
  obtain ⟨p, q, hA0, hV, rfl, hfz, hnd⟩ := hW
  have hA : DataW.TrodAll enc Saag.prog W 0 (fun _ => true) true Saag.f9.params.toList args.toList ds p := hA0
  rw [Saag.params9] at hA hval
  obtain ⟨v0, vs0, d0, ds0, p0, q0, hargs, rfl, rfl, h0, r0⟩ := trodAll_cons hA
  obtain ⟨v1, vs1, d1, ds1, p1, q1, rfl, rfl, rfl, h1, r1⟩ := trodAll_cons r0
  obtain ⟨v2, vs2, d2, ds2, p2, q2, rfl, rfl, rfl, h2, r2⟩ := trodAll_cons r1
  obtain ⟨v3, vs3, d3, ds3, p3, q3, rfl, rfl, rfl, h3, r3⟩ := trodAll_cons r2
  obtain ⟨rfl, rfl, rfl⟩ := trodAll_nil r3
  obtain rfl : args = #[v0, v1, v2, v3] := by cases args; simp_all
  obtain ⟨rfl, rfl⟩ := trodVars_none hV
  have hsz : ∀ n ∈ DataW.weightsEach Saag.prog [78, 80, 41, 27] [d0, d1, d2, d3], n ≤ reachBytes := fun n hn => of_decide_eq_true (List.all_eq_true.1 hsz0 n hn)
  have k0 := h0
  have lt0 : ∀ x ∈ p0, x.block < W.heap.size := by obtain ⟨m, hm⟩ := k0; exact DataW.trod_lt m _ _ _ hm
  obtain ⟨bv, bs, t, xs, e0, hrd, hb8, hu, ht, hmx⟩ := open_arena (hval 0 78 v0 rfl rfl) h0
  have k1 := h1
  have lt1 : ∀ x ∈ p1, x.block < W.heap.size := by obtain ⟨m, hm⟩ := k1; exact DataW.trod_lt m _ _ _ hm
  obtain ⟨k, a, b, n, f, e1, hk, ha, hb, hn, hf⟩ := open_op (hval 1 80 v1 rfl rfl) h1
  have k2 := h2
  have lt2 : ∀ x ∈ p2, x.block < W.heap.size := by obtain ⟨m, hm⟩ := k2; exact DataW.trod_lt m _ _ _ hm
  obtain ⟨sa, sl, sc, e2⟩ := okWide_slice Saag.underlying41 (hval 2 41 v2 rfl rfl)
  obtain ⟨ss, hsrd, hsm⟩ : ∃ ss, Rd W v2 ss ∧ ((∀ n ∈ d2.weights Saag.prog 41, n ≤ reachBytes) → ss.length ≤ 140737488355328) := by
    obtain ⟨m, hm⟩ := k2
    obtain ⟨v, xs', hv, hr, hz⟩ := open_bytes hm
    have hv' : v = v2 := by
      rw [e2] at hv ⊢
      simpa [Value.cells] using hv.symm
    subst hv'
    exact ⟨xs', hr, hz⟩
  obtain ⟨o3, rfl, rfl, rfl, wo3⟩ := open_int Saag.underlying27 (hval 3 27 v3 rfl rfl) h3
  obtain ⟨b3, c3⟩ := u64_of_wf wo3
  obtain ⟨fr, rfl⟩ := Int.eq_ofNat_of_zero_le b3
  have w0 := hmx (fun n hn => hsz n (DataW.weights_mem_each (j := 0) rfl rfl n hn))
  have w2 := hsm (fun n hn => hsz n (DataW.weights_mem_each (j := 2) rfl rfl n hn))
  clear hA0 hval0
  subst e0
  subst e1
  refine (arenaAny_any k a b n f fr ha hb hn hf (by omega) hrd hb8 hu ht w0 hsrd w2).mono fun e W' ⟨he, bel⟩ => ?_
  subst he
  exact ⟨_, rfl, _, _, _, [], _, [], hW', trodAll_mk1 (shut_bool Saag.underlying4 _), (trodAll_cons_mk (Below.trod laidOut (by kernel_rfl) (of_decide_eq_true (by kernel_rfl)) k0 bel lt0) (trodAll_cons_mk (Below.trod laidOut (by kernel_rfl) (of_decide_eq_true (by kernel_rfl)) k1 bel lt1) (trodAll_cons_mk (Below.trod laidOut (by kernel_rfl) (of_decide_eq_true (by kernel_rfl)) k2 bel lt2) (trodAll_cons_mk (shut_int Saag.underlying27 wo3) trodAll_mk0)))), rfl, bel.frame _, fun h => by cases h⟩

theorem over : Rows.arenaAnyRow.holds Saag.pinned (OpenSpec.ofChange Rows.arenaAnySpec) :=
  OpenClaim.holds_of_wide 9 Saag.f9 rfl rfl rfl rfl rfl rfl rfl ⟨rfl, rfl, rfl, rfl, rfl⟩ rfl rfl rfl rfl rfl (by kernel_rfl) Saag.func9 (by kernel_rfl)
    (of_decide_eq_true (by kernel_rfl)) (by unfold Func.isWrapper; first | (rw [if_pos (by decide +kernel)]; kernel_rfl) | (rw [if_neg (by decide +kernel)]; exact ⟨rfl, rfl⟩))
    (fun os started H enc _ => lifted os started H enc)

end Go.Proofs.Ygcsaa.ArenaAnyDone

namespace Go.Proofs.Ygcsaa
theorem arenaAny_proved : Rows.ArenaAnySaid := ArenaAnyDone.over
end Go.Proofs.Ygcsaa
