/-
  (*mem.Arena).Write.
-/
import Derived.Test.YgcsaaAr9
namespace Go.Proofs.Ygcsaa
open Go.RowKit
set_option linter.unusedSimpArgs false
set_option linter.unusedVariables false

/-- The l bytes that Write lays: ss from place f on, and zeros past its end. -/
def wr (ss : List Nat) (f l : Nat) : List Nat := sg ss f l ++ List.replicate (l - (sg ss f l).length) 0
theorem sg_le (ss : List Nat) (f l : Nat) : (sg ss f l).length ≤ l := by simp [sg]; omega
theorem wr_len (ss : List Nat) (f l : Nat) : (wr ss f l).length = l := by
  have := sg_le ss f l
  rw [wr, List.length_append, List.length_replicate]
  omega
theorem wr_dig {ss : List Nat} (h : M.Dig ss) (f l : Nat) : M.Dig (wr ss f l) := M.dig_append (sg_dig h f l) (M.dig_replicate_zero _)

theorem splice_splice (xs ys zs : List Nat) (o : Nat) (h : o + ys.length + zs.length ≤ xs.length) : splice (splice xs o ys) (o + ys.length) zs = splice xs o (ys ++ zs) := by
  simp only [splice, List.length_append]
  have h1 : (xs.take o).length = o := by simp; omega
  rw [← List.append_assoc (xs.take o) ys]
  have h2 : (xs.take o ++ ys).length = o + ys.length := by rw [List.length_append, h1]
  rw [List.take_append_of_le_length (by omega), List.drop_append, h2]
  have e1 : List.take (o + ys.length) (xs.take o ++ ys) = xs.take o ++ ys := by rw [← h2]; exact List.take_length
  have e2 : List.drop (o + ys.length + zs.length) (xs.take o ++ ys) = [] := List.drop_eq_nil_of_le (by omega)
  rw [e1, e2, List.drop_drop]
  simp [List.append_assoc, Nat.add_assoc, Nat.add_comm, Nat.add_left_comm]

theorem Row.drop {w : World} {b off : Nat} {ss : List Nat} (h : Row w (some ⟨b, off, none⟩) ss) (f l : Nat) : Row w (some ⟨b, off + f, none⟩) (sg ss f l) := by
  intro i hi
  have hi' : f + i < ss.length ∧ i < l := by simp [sg] at hi; omega
  obtain ⟨b', off', e, hc⟩ := h (f + i) hi'.1
  cases e
  refine ⟨b, off + f, rfl, ?_⟩
  rw [Nat.add_assoc, hc]
  simp [sg, List.getD_eq_getElem?_getD, List.getElem?_take, hi'.2]

set_option maxRecDepth 10000 in
set_option maxHeartbeats 1000000 in
theorem write_any {w : World} {g : Nat} {ob : Option Nat} {xs bs ss : List Nat} {t : Nat} {vs : Value} (off f l : Nat) (ho : off < 4294967296) (hf64 : f < 18446744073709551616) (hl : l < 4294967296) (h : ASt w g ob xs bs t) (hr : Rd w vs ss) (hss : ss.length ≤ 140737488355328) :
    Calls Saag.prog 84 #[.pointer (some ⟨g, 0, none⟩), .int .u32 (off : Int), vs, .int .u64 (f : Int), .int .u32 (l : Int)] w fun e w' => WrOut e w w' g ob xs bs t off (wr ss f l) := by
  unfold WrOut
  rw [wr_len]
  have T := hide (part_any off l ho hl h)
  have HS := hide h
  obtain ⟨so, sn, scap, rfl, hsn, hscap, dss, rss⟩ := hr
  have HRS := hide rss
  have hw : IntKind.u64.wrap (sn : Int) = (sn : Int) := by rw [IntKind.wrap_u64]; omega
  clear h rss
  go_enter Saag.func84, Saag.ntmps84
  go_wp2_with fail
  refine (unhide T).mono ?_
  rintro e w' ⟨⟨hf, v, rfl, hs⟩ | ⟨hf, rfl⟩, q, rfl⟩
  · have S1 := (unhide HS).drewN q
    have R1 : Row (w.drewN q) so ss := unhide HRS
    have B1 := below_drewN w q
    clear T HS HRS
    generalize w.drewN q = W at *
    rcases hs with ⟨h0, ao, rfl⟩ | ⟨h0, b, rfl, rfl⟩
    · subst h0
      have e : splice xs (loA bs t + off) (wr ss f 0) = xs := by
        have := wr_len ss f 0
        rw [List.eq_nil_of_length_eq_zero this, splice_nil]
      have HE := hide e
      have HS1 := hide S1
      have HC := hide (Chg.ofBelow B1 g ob)
      have hclr := run_clear_none W ao 0
      by_cases hfs : f < sn
      · have hfs' : (f : Int) < (sn : Int) := by omega
        cases so with
        | none => obtain ⟨b, o, e, _⟩ := R1 0 (by omega); cases e
        | some sa =>
          obtain ⟨sb, soff, e, _⟩ := R1 0 (by omega)
          cases e
          have hrun := fun w c => run_copy_none (P := Saag.prog) w 41 41 3 5 ao (some ⟨sb, soff + f, none⟩) 0 0 (sn - f) c Saag.underlying41 Saag.size5 (by simp [Nat.min_def])
          clear S1 B1 e R1 dss
          have Hsn := hide hsn
          clear hsn
          cases ao with
          | none =>
            go_wp2
            go_ret
            exact .inl ⟨hf, rfl, by rw [unhide HE]; exact unhide HS1, unhide HC⟩
          | some a =>
            go_wp2
            go_ret
            exact .inl ⟨hf, rfl, by rw [unhide HE]; exact unhide HS1, unhide HC⟩
      · have hfs' : ¬ (f : Int) < (sn : Int) := by omega
        clear S1 B1 e R1 dss
        have Hsn := hide hsn
        clear hsn
        cases ao with
        | none =>
          go_wp2
          go_ret
          exact .inl ⟨hf, rfl, by rw [unhide HE]; exact unhide HS1, unhide HC⟩
        | some a =>
          go_wp2
          go_ret
          exact .inl ⟨hf, rfl, by rw [unhide HE]; exact unhide HS1, unhide HC⟩
    · have l1 := S1.fits_le hf
      have K1 := S1.buf b rfl
      have hfin : ∀ W3, Upd W W3 b → Blk W3 b (splice xs (loA bs t + off) (wr ss f l)) → Hid (ASt W3 g (some b) (splice xs (loA bs t + off) (wr ss f l)) bs t ∧ Chg w W3 g (some b)) := fun W3 u k =>
        hide ⟨S1.wrote rfl u k (splice_len (by rw [wr_len]; exact l1)) (splice_dig S1.dig (wr_dig dss f l) _), (Chg.ofBelow B1 g (some b)).trans (Chg.ofUpd' u g)⟩
      clear S1 B1
      generalize hoo : loA bs t + off = o at *
      have Hoo := hide hoo
      clear hoo
      by_cases hfs : f < sn
      · have hfs' : (f : Int) < (sn : Int) := by omega
        cases so with
        | none => obtain ⟨b, o, e, _⟩ := R1 0 (by omega); cases e
        | some sa =>
          obtain ⟨sb, soff, e, _⟩ := R1 0 (by omega)
          cases e
          have hkk : (sg ss f l).length = Nat.min (sn - f) l := by simp [sg, hsn, Nat.min_comm]
          obtain ⟨W2, hrun, hblk, hupd⟩ := run_copy_bytes W 41 41 3 b o l l ⟨sb, soff + f, none⟩ (sn - f) (scap - f) xs (sg ss f l) Saag.underlying41 K1 hkk (R1.drop f l) (by have := sg_le ss f l; omega)
          have hwr : wr ss f l = sg ss f l ++ List.replicate (l - (sg ss f l).length) 0 := rfl
          have hl2 := sg_le ss f l
          generalize hcs : sg ss f l = cs at *
          generalize hk : cs.length = kk at *
          have hkl : (kk : Int) ≤ (l : Int) := by omega
          by_cases hlt : kk < l
          · obtain ⟨W3, hclr, hblk3, hupd3⟩ := run_clear_bytes W2 b (o + kk) (l - kk) (l - kk) (splice xs o cs) (by omega) (unhide hblk) (by rw [splice_len (by omega)]; omega)
            have hF := hfin W3 (hupd.trans hupd3) (by rw [hwr, ← splice_splice _ _ _ _ (by simp; omega), hk]; exact unhide hblk3)
            have n1 : ¬ l - kk = 0 := by omega
            clear hfin hblk hblk3 hupd hupd3 K1 R1 dss hkk hcs hk hwr
            have Hsn := hide hsn
            clear hsn
            go_wp2
            go_ret
            exact .inl ⟨hf, rfl, by rw [unhide Hoo]; exact (unhide hF).1, (unhide hF).2⟩
          · obtain rfl : kk = l := by omega
            have hclr := run_clear_none W2 (some ⟨b, o, none⟩) 0
            have hF := hfin W2 hupd (by rw [hwr, Nat.sub_self, List.replicate_zero, List.append_nil]; exact unhide hblk)
            clear hfin hblk hupd K1 R1 dss hkk hcs hk hwr
            have Hsn := hide hsn
            clear hsn
            go_wp2
            go_ret
            exact .inl ⟨hf, rfl, by rw [unhide Hoo]; exact (unhide hF).1, (unhide hF).2⟩
      · have hfs' : ¬ (f : Int) < (sn : Int) := by omega
        have hwr : wr ss f l = List.replicate l 0 := by
          have : sg ss f l = [] := by simp [sg]; right; omega
          simp [wr, this]
        obtain ⟨W3, hclr, hblk3, hupd3⟩ := run_clear_bytes W b o l l xs h0 K1 l1
        have hF := hfin W3 hupd3 (by rw [hwr]; exact unhide hblk3)
        have n1 : ¬ l = 0 := by omega
        clear hfin hblk3 hupd3 K1 R1 dss hwr
        have Hsn := hide hsn
        clear hsn
        go_wp2
        go_ret
        exact .inl ⟨hf, rfl, by rw [unhide Hoo]; exact (unhide hF).1, (unhide hF).2⟩
  · have HS1 := hide ((unhide HS).drewN q)
    have HC := hide (Chg.ofBelow (below_drewN w q) g ob)
    clear T HS HRS dss
    have Hsn := hide hsn
    clear hsn
    go_wp2
    go_ret
    exact .inr ⟨hf, rfl, unhide HS1, unhide HC⟩

end Go.Proofs.Ygcsaa
