import Derived.Test.YgcsaaExp
import Derived.ProofKit
import Derived.OpenShut
import Derived.ShutString
import Derived.ChangeOld
namespace Go.Proofs.Ygcsaa
open Go.ChangeShapes Go.WideShapes Go.ChangeAt Go.RowKit
set_option linter.unusedSimpArgs false
set_option linter.unusedVariables false

theorem own : ownKnob Saag.prog.godebug = none := by kernel_rfl
theorem laidOut : laidOutB Saag.prog = true := by kernel_rfl
theorem Saag.cells60 : Saag.prog.cellsOf 60 = 32 := by kernel_rfl
theorem Saag.cells5 : Saag.prog.cellsOf 5 = 1 := by kernel_rfl

theorem byte_of_wf {x : Int} (h : (Lit.int .u8 x).wf = true) : 0 ≤ x ∧ x < 256 := by
  simp [Lit.wf, IntKind.min, IntKind.max, IntKind.signed, IntKind.bits] at h
  omega

theorem okWide_arr {P : Program} {w : World} {r : Reach} {b0 : Nat} {t e : TypeId} {n : Nat} {v : Value} (ht : P.underlying t = some (.array n e)) (h : Value.okWide P w r b0 t v) : ∃ cs, v = .agg cs ∧ cs.size = P.cellsOf t := by
  unfold Value.okWide at h
  rw [ht] at h
  obtain ⟨cs, h1, h2, _⟩ := h
  exact ⟨cs, h1, h2⟩

set_option maxRecDepth 100000 in
/-- A [32]byte that came in. -/
theorem open_word {H : Type} {enc : TypeId × Value → H} {W : World} {base b0 : Nat} {sp : Nat → Bool} {held : Bool} {r : Reach} {v : Value} {d : DataW H} {p : List MemPlace}
    (hval : Value.okWide Saag.prog W r b0 60 v) (hd : DataW.Trod enc Saag.prog W base sp held 60 v d p) : ∃ xs : List Nat, v = .agg (cellsOf xs) ∧ xs.length = 32 ∧ M.Dig xs := by
  obtain ⟨cs, rfl, hsz⟩ := okWide_arr Saag.underlying60 hval
  rw [Saag.cells60] at hsz
  obtain ⟨fuel, hf⟩ := hd
  obtain ⟨xs, m, _, _, _, hl, he⟩ := DataW.trod_array Saag.underlying60 hf
  have hcs : (Value.agg cs).cells.toList = cs.toList := rfl
  have key : ∀ i, i < 32 → ∃ n : Nat, cs.toList[i]? = some (.int .u8 (n : Int)) ∧ n < 256 := by
    intro i hi
    have h1 := he i hi
    rw [Saag.cells5, Nat.mul_one, hcs] at h1
    have hxi : xs[i]? = some xs[i] := List.getElem?_eq_getElem (by omega)
    rw [hxi] at h1
    obtain ⟨n', h2, _, hw⟩ := DataW.trod_int Saag.underlying5 h1
    obtain ⟨w0, w1⟩ := byte_of_wf hw
    obtain ⟨n, rfl⟩ := Int.eq_ofNat_of_zero_le w0
    refine ⟨n, ?_, by omega⟩
    have h3 : ((cs.toList.drop i).take 1)[0]? = some (.int .u8 (n : Int)) := by rw [h2]; rfl
    simpa using h3
  refine ⟨cs.toList.map fun v => (intOf v).toNat, ?_, by simp [hsz], ?_⟩
  · congr 1
    apply Array.ext'
    apply List.ext_getElem?
    intro i
    by_cases hi : i < 32
    · obtain ⟨n, h1, h2⟩ := key i hi
      simp only [cellsOf, List.getElem?_map, h1, Option.map_some]
      simp [intOf]
    · have h1 : cs.toList[i]? = none := List.getElem?_eq_none (by simp [hsz]; omega)
      simp only [cellsOf, List.getElem?_map, h1, Option.map_none]
  · intro x hx
    simp only [List.mem_map] at hx
    obtain ⟨v, hv, rfl⟩ := hx
    obtain ⟨i, hi, rfl⟩ := List.mem_iff_getElem.1 hv
    have hi' : i < 32 := by simpa [hsz] using hi
    obtain ⟨n, h1, h2⟩ := key i hi'
    rw [List.getElem?_eq_getElem hi] at h1
    simp only [Option.some.injEq] at h1
    rw [h1]
    simp [intOf]
    omega

end Go.Proofs.Ygcsaa
