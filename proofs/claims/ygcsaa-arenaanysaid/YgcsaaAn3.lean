/-
  An Arena, an MOp and a slice of bytes that came in.
-/
import Derived.Test.YgcsaaAn2
namespace Go.Proofs.Ygcsaa
open Go.ChangeShapes Go.WideShapes Go.ChangeAt Go.RowKit
set_option linter.unusedSimpArgs false
set_option linter.unusedVariables false

theorem Saag.cells41 : Saag.prog.cellsOf 41 = 1 := by kernel_rfl
theorem Saag.cells75 : Saag.prog.cellsOf 75 = 1 := by kernel_rfl
theorem Saag.cells76 : Saag.prog.cellsOf 76 = 8 := by kernel_rfl
theorem Saag.cells78 : Saag.prog.cellsOf 78 = 10 := by kernel_rfl
theorem Saag.cells80 : Saag.prog.cellsOf 80 = 5 := by kernel_rfl
theorem Saag.bytes5 : Saag.prog.bytesOf 5 = 1 := by kernel_rfl
theorem Saag.arr76 : Saag.prog.underlying 76 = some (.array 8 75) := by kernel_rfl

theorem u32_of_wf {x : Int} (h : (Lit.int .u32 x).wf = true) : 0 ≤ x ∧ x < 4294967296 := by
  simp [Lit.wf, IntKind.min, IntKind.max, IntKind.signed, IntKind.bits] at h
  omega
theorem u64_of_wf {x : Int} (h : (Lit.int .u64 x).wf = true) : 0 ≤ x ∧ x < 18446744073709551616 := by
  simp [Lit.wf, IntKind.min, IntKind.max, IntKind.signed, IntKind.bits] at h
  omega

theorem okWide_struct {P : Program} {w : World} {r : Reach} {b0 : Nat} {t : TypeId} {fs : Array Field} {v : Value} (ht : P.underlying t = some (.struct fs)) (h : Value.okWide P w r b0 t v) : ∃ cs, v = .agg cs ∧ cs.size = P.cellsOf t := by
  unfold Value.okWide at h
  rw [ht] at h
  obtain ⟨cs, h1, h2, _⟩ := h
  exact ⟨cs, h1, h2⟩

section
variable {H : Type} {enc : TypeId × Value → H} {W : World} {base : Nat} {sp : Nat → Bool} {held : Bool}

/-- A []byte among what was read. -/
theorem open_bytes {fuel : Nat} {cs : List Value} {x : DataW H × List MemPlace} (h : DataW.trod enc Saag.prog W base sp held fuel 41 cs = some x) :
    ∃ (v : Value) (xs : List Nat), cs = [v] ∧ Rd W v xs ∧ ((∀ n ∈ x.1.weights Saag.prog 41, n ≤ reachBytes) → xs.length ≤ 140737488355328) := by
  rcases open_ints Saag.underlying41 Saag.underlying5 Saag.cells5 h with ⟨rfl, rfl⟩ | ⟨a, len, cap, zs, rfl, _, hl, _, hz, rfl, hcell, hwf⟩
  · exact ⟨_, [], rfl, ⟨none, 0, 0, rfl, rfl, Nat.le_refl _, M.dig_replicate_zero 0, Row.nil W none⟩, fun _ => by simp⟩
  · have hlz : len ≤ zs.length := by
      rw [hz]
      split <;> omega
    have hb : ∀ i, i < zs.length → 0 ≤ zs.getD i 0 ∧ zs.getD i 0 < 256 := by
      intro i hi
      refine byte_of_wf (hwf _ ?_)
      rw [List.getD_eq_getElem?_getD, List.getElem?_eq_getElem hi]
      exact List.getElem_mem hi
    have hxl : ((zs.take len).map Int.toNat).length = len := by simp; omega
    refine ⟨_, (zs.take len).map Int.toNat, rfl, ⟨_, _, _, rfl, hxl, hl, ?_, ?_⟩, ?_⟩
    · intro y hy
      simp only [List.mem_map] at hy
      obtain ⟨z, hz', rfl⟩ := hy
      have := byte_of_wf (hwf z (List.mem_of_mem_take hz'))
      omega
    · intro i hi
      rw [hxl] at hi
      have h0 := hcell 0 (by omega)
      obtain ⟨b, off, s⟩ := a
      have hs : s = none := by
        cases s with
        | none => rfl
        | some s =>
          exfalso
          have e : (⟨b, off, some s⟩ : Addr).add 0 = ⟨b, off, some s⟩ := by simp [Addr.add]
          rw [e] at h0
          unfold World.cell? at h0
          split at h0 <;> simp at h0
      subst hs
      refine ⟨b, off, rfl, ?_⟩
      have h1 := hcell i (by omega)
      rw [addr_plain] at h1
      rw [h1]
      have e : (((zs.take len).map Int.toNat).getD i 0 : Int) = zs.getD i 0 := by
        have h2 := hb i (by omega)
        have e1 : ((zs.take len).map Int.toNat).getD i 0 = (zs.getD i 0).toNat := by
          simp only [List.getD_eq_getElem?_getD, List.getElem?_map, List.getElem?_take, if_pos hi]
          rw [List.getElem?_eq_getElem (show i < zs.length by omega)]
          rfl
        rw [e1]
        omega
      rw [e]
    · intro hw
      have h1 := hw (((lits (H := H) .u8 (zs.take len)).length + (lits (H := H) .u8 (zs.drop len)).length) * Saag.prog.bytesOf 5) (by simp [DataW.weights, Saag.underlying41])
      rw [Saag.bytes5] at h1
      have h2 : (lits (H := H) .u8 (zs.take len)).length = len := by simp [lits]; omega
      rw [h2] at h1
      rw [hxl]
      unfold reachBytes at h1
      omega

/-- Eight uint32 among what was read. -/
theorem open_bases {fuel : Nat} {cs : List Value} {x : DataW H × List MemPlace} (h : DataW.trod enc Saag.prog W base sp held fuel 76 cs = some x) :
    ∃ bs : List Nat, cs = (bs.map fun x => Value.int .u32 ((x : Nat) : Int)) ∧ bs.length = 8 ∧ U32s bs := by
  obtain ⟨xs, m, _, _, hcl, hl, he⟩ := DataW.trod_array Saag.arr76 h
  rw [Saag.cells76] at hcl
  have key : ∀ i, i < 8 → ∃ n : Nat, cs[i]? = some (.int .u32 (n : Int)) ∧ n < 4294967296 := by
    intro i hi
    have h1 := he i hi
    rw [Saag.cells75, Nat.mul_one] at h1
    have hxi : xs[i]? = some xs[i] := List.getElem?_eq_getElem (by omega)
    rw [hxi] at h1
    obtain ⟨n', h2, _, hw⟩ := DataW.trod_int Saag.underlying75 h1
    obtain ⟨w0, w1⟩ := u32_of_wf hw
    obtain ⟨n, rfl⟩ := Int.eq_ofNat_of_zero_le w0
    refine ⟨n, ?_, by omega⟩
    have h3 : ((cs.drop i).take 1)[0]? = some (.int .u32 (n : Int)) := by rw [h2]; rfl
    simpa using h3
  refine ⟨cs.map fun v => (intOf v).toNat, ?_, by simp [hcl], ?_⟩
  · apply List.ext_getElem?
    intro i
    by_cases hi : i < 8
    · obtain ⟨n, h1, h2⟩ := key i hi
      simp only [List.getElem?_map, h1, Option.map_some]
      simp [intOf]
    · have h1 : cs[i]? = none := List.getElem?_eq_none (by omega)
      simp only [List.getElem?_map, h1, Option.map_none]
  · intro i
    by_cases hi : i < 8
    · obtain ⟨n, h1, h2⟩ := key i hi
      simp only [List.getD_eq_getElem?_getD, List.getElem?_map, h1, Option.map_some]
      simp [intOf]
      omega
    · have h1 : cs[i]? = none := List.getElem?_eq_none (by omega)
      simp [List.getD_eq_getElem?_getD, h1]

theorem cut_10 {α : Type} (l : List α) (h : l.length = 10) : l = (l.drop 0).take 1 ++ ((l.drop 1).take 8 ++ (l.drop 9).take 1) := by
  match l, h with
  | [a, b, c, d, e, f, g, i, j, k], _ => rfl
theorem cut_5 {α : Type} (l : List α) (h : l.length = 5) : l = (l.drop 0).take 1 ++ ((l.drop 1).take 1 ++ ((l.drop 2).take 1 ++ ((l.drop 3).take 1 ++ (l.drop 4).take 1))) := by
  match l, h with
  | [a, b, c, d, e], _ => rfl

set_option maxRecDepth 100000 in
/-- An Arena that came in. -/
theorem open_arena {r : Reach} {b0 : Nat} {v : Value} {d : DataW H} {p : List MemPlace} (hval : Value.okWide Saag.prog W r b0 78 v) (hd : DataW.Trod enc Saag.prog W base sp held 78 v d p) :
    ∃ (bv : Value) (bs : List Nat) (t : Nat) (xs : List Nat), v = .agg (arCells bv bs t) ∧ Rd W bv xs ∧ bs.length = 8 ∧ U32s bs ∧ t < 256 ∧ ((∀ n ∈ d.weights Saag.prog 78, n ≤ reachBytes) → xs.length ≤ 140737488355328) := by
  obtain ⟨cs, rfl, hsz⟩ := okWide_struct Saag.underlying78 hval
  rw [Saag.cells78] at hsz
  obtain ⟨fuel, hf⟩ := hd
  obtain ⟨ys, m, _, hx, _, hl, he⟩ := DataW.trod_struct Saag.underlying78 hf
  have hcs : (Value.agg cs).cells.toList = cs.toList := rfl
  rw [hcs] at he
  have hl3 : ys.length = 3 := hl
  obtain ⟨y0, y1, y2, rfl⟩ : ∃ y0 y1 y2, ys = [y0, y1, y2] := by
    match ys, hl3 with
    | [a, b, c], _ => exact ⟨a, b, c, rfl⟩
  have e0 : DataW.trod enc Saag.prog W base sp held m 41 ((cs.toList.drop 0).take (Saag.prog.cellsOf 41)) = some y0 := he 0 ⟨"Buf", 41, 0, false, "", "", 0⟩ rfl
  have e1 : DataW.trod enc Saag.prog W base sp held m 76 ((cs.toList.drop 1).take (Saag.prog.cellsOf 76)) = some y1 := he 1 ⟨"Base", 76, 1, false, "", "", 24⟩ rfl
  have e2 : DataW.trod enc Saag.prog W base sp held m 5 ((cs.toList.drop 9).take (Saag.prog.cellsOf 5)) = some y2 := he 2 ⟨"Top", 5, 9, false, "", "", 56⟩ rfl
  rw [Saag.cells41] at e0
  rw [Saag.cells76] at e1
  rw [Saag.cells5] at e2
  obtain ⟨bv, xs, c0, hrd, hw⟩ := open_bytes e0
  obtain ⟨bs, c1, hb8, hu⟩ := open_bases e1
  obtain ⟨t', c2, _, hwt⟩ := DataW.trod_int Saag.underlying5 e2
  obtain ⟨t0, t1⟩ := byte_of_wf hwt
  obtain ⟨t, rfl⟩ := Int.eq_ofNat_of_zero_le t0
  refine ⟨bv, bs, t, xs, ?_, hrd, hb8, hu, by omega, ?_⟩
  · congr 1
    apply Array.ext'
    rw [cut_10 cs.toList (by simpa using hsz), c0, c1, c2]
    rfl
  · intro h
    refine hw (fun n hn => h n ?_)
    have hd' : d = .agg [y0.1, y1.1, y2.1] := congrArg Prod.fst hx
    rw [hd']
    simp only [DataW.weights, Saag.underlying78, List.map_cons, List.map_nil, DataW.weightsEach, List.mem_append]
    exact .inl hn

set_option maxRecDepth 100000 in
/-- An MOp that came in. -/
theorem open_op {r : Reach} {b0 : Nat} {v : Value} {d : DataW H} {p : List MemPlace} (hval : Value.okWide Saag.prog W r b0 80 v) (hd : DataW.Trod enc Saag.prog W base sp held 80 v d p) :
    ∃ k a b n f : Nat, v = .agg (opCells k a b n f) ∧ k < 256 ∧ a < 4294967296 ∧ b < 4294967296 ∧ n < 4294967296 ∧ f < 256 := by
  obtain ⟨cs, rfl, hsz⟩ := okWide_struct Saag.underlying80 hval
  rw [Saag.cells80] at hsz
  obtain ⟨fuel, hf⟩ := hd
  obtain ⟨ys, m, _, hx, _, hl, he⟩ := DataW.trod_struct Saag.underlying80 hf
  have hcs : (Value.agg cs).cells.toList = cs.toList := rfl
  rw [hcs] at he
  have hl3 : ys.length = 5 := hl
  obtain ⟨y0, y1, y2, y3, y4, rfl⟩ : ∃ y0 y1 y2 y3 y4, ys = [y0, y1, y2, y3, y4] := by
    match ys, hl3 with
    | [a, b, c, d, e], _ => exact ⟨a, b, c, d, e, rfl⟩
  have e0 : DataW.trod enc Saag.prog W base sp held m 5 ((cs.toList.drop 0).take (Saag.prog.cellsOf 5)) = some y0 := he 0 ⟨"Kind", 5, 0, false, "", "", 0⟩ rfl
  have e1 : DataW.trod enc Saag.prog W base sp held m 75 ((cs.toList.drop 1).take (Saag.prog.cellsOf 75)) = some y1 := he 1 ⟨"A", 75, 1, false, "", "", 4⟩ rfl
  have e2 : DataW.trod enc Saag.prog W base sp held m 75 ((cs.toList.drop 2).take (Saag.prog.cellsOf 75)) = some y2 := he 2 ⟨"B", 75, 2, false, "", "", 8⟩ rfl
  have e3 : DataW.trod enc Saag.prog W base sp held m 75 ((cs.toList.drop 3).take (Saag.prog.cellsOf 75)) = some y3 := he 3 ⟨"N", 75, 3, false, "", "", 12⟩ rfl
  have e4 : DataW.trod enc Saag.prog W base sp held m 5 ((cs.toList.drop 4).take (Saag.prog.cellsOf 5)) = some y4 := he 4 ⟨"Fill", 5, 4, false, "", "", 16⟩ rfl
  rw [Saag.cells5] at e0 e4
  rw [Saag.cells75] at e1 e2 e3
  obtain ⟨k', c0, _, h0⟩ := DataW.trod_int Saag.underlying5 e0
  obtain ⟨a', c1, _, h1⟩ := DataW.trod_int Saag.underlying75 e1
  obtain ⟨b', c2, _, h2⟩ := DataW.trod_int Saag.underlying75 e2
  obtain ⟨n', c3, _, h3⟩ := DataW.trod_int Saag.underlying75 e3
  obtain ⟨f', c4, _, h4⟩ := DataW.trod_int Saag.underlying5 e4
  obtain ⟨i0, j0⟩ := byte_of_wf h0
  obtain ⟨i1, j1⟩ := u32_of_wf h1
  obtain ⟨i2, j2⟩ := u32_of_wf h2
  obtain ⟨i3, j3⟩ := u32_of_wf h3
  obtain ⟨i4, j4⟩ := byte_of_wf h4
  obtain ⟨k, rfl⟩ := Int.eq_ofNat_of_zero_le i0
  obtain ⟨a, rfl⟩ := Int.eq_ofNat_of_zero_le i1
  obtain ⟨b, rfl⟩ := Int.eq_ofNat_of_zero_le i2
  obtain ⟨n, rfl⟩ := Int.eq_ofNat_of_zero_le i3
  obtain ⟨f, rfl⟩ := Int.eq_ofNat_of_zero_le i4
  refine ⟨k, a, b, n, f, ?_, by omega, by omega, by omega, by omega, by omega⟩
  congr 1
  apply Array.ext'
  rw [cut_5 cs.toList (by simpa using hsz), c0, c1, c2, c3, c4]
  rfl

end
end Go.Proofs.Ygcsaa
