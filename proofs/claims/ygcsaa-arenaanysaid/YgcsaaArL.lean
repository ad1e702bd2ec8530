/-
  (*mmodel.Mem).Write.
-/
import Derived.Test.YgcsaaArK
namespace Go.Proofs.Ygcsaa
open Go.RowKit
set_option linter.unusedSimpArgs false
set_option linter.unusedVariables false

theorem wr_getD (ss : List Nat) (f l k : Nat) (hk : k < l) : (wr ss f l).getD k 0 = ss.getD (f + k) 0 := by
  unfold wr
  by_cases h : k < (sg ss f l).length
  · have h' : f + k < ss.length := by simp [sg] at h; omega
    simp only [List.getD_eq_getElem?_getD]
    rw [List.getElem?_append_left h]
    simp [sg, List.getElem?_take, hk]
  · have h' : ¬ f + k < ss.length := by simp [sg] at h; omega
    simp only [List.getD_eq_getElem?_getD]
    rw [List.getElem?_append_right (by omega), List.getElem?_replicate, List.getElem?_eq_none (by omega : ss.length ≤ f + k)]
    split <;> rfl

theorem take_snoc {ys : List Nat} {k : Nat} (h : k < ys.length) : ys.take k ++ [ys.getD k 0] = ys.take (k + 1) := by
  rw [List.take_succ_eq_append_getElem h]
  simp [List.getD_eq_getElem?_getD, h]

/-- The row that is being filled: k places done. -/
def part0 (ys : List Nat) (k : Nat) : List Nat := ys.take k ++ List.replicate (ys.length - k) 0
theorem part0_set {ys : List Nat} {k : Nat} (h : k < ys.length) : (part0 ys k).set k (ys.getD k 0) = part0 ys (k + 1) := by
  have hl : (ys.take k).length = k := by simp; omega
  have e1 := M.set_app (ys.take k) ys.length (ys.getD k 0) (by omega)
  rw [hl] at e1
  rw [part0, e1, take_snoc h]
  rfl
theorem part0_len (ys : List Nat) (k : Nat) (h : k ≤ ys.length) : (part0 ys k).length = ys.length := by simp [part0]; omega
theorem part0_skip {ys : List Nat} {k : Nat} (h : k < ys.length) (h0 : ys.getD k 0 = 0) : part0 ys k = part0 ys (k + 1) := by
  rw [← part0_set h, h0]
  have hl : (ys.take k).length = k := by simp; omega
  apply List.ext_getElem?
  intro i
  rw [List.getElem?_set]
  by_cases hi : k = i
  · subst hi
    simp only [if_true]
    rw [if_pos (by rw [part0_len _ _ (by omega)]; exact h), part0, List.getElem?_append_right (by omega), hl, List.getElem?_replicate, if_pos (by omega)]
  · rw [if_neg hi]
theorem part0_all (ys : List Nat) : part0 ys ys.length = ys := by simp [part0]
theorem part0_zero (ys : List Nat) : part0 ys 0 = List.replicate ys.length 0 := by simp [part0]

set_option maxRecDepth 10000 in
set_option maxHeartbeats 2000000 in
theorem mwrite_any {B m : Nat} {w : World} {v vs : Value} {Fs : List Fr} {ss : List Nat} (off f l : Nat) (ho : off < 4294967296) (hf64 : f < 18446744073709551616) (hl : l < 4294967296) (h : MSt B w m v Fs) (hr : Rd w vs ss) (hss : ss.length ≤ 140737488355328) :
    Calls Saag.prog 120 #[.pointer (some ⟨m, 0, none⟩), .int .u32 (off : Int), vs, .int .u64 (f : Int), .int .u32 (l : Int)] w fun e w' => PutOut e B w w' m Fs off (wr ss f l) := by
  have T := hide (has_any off l ho hl h)
  have HS := hide h
  have HB := hide h.hB
  obtain ⟨so, sn, scap, rfl, hsn, hscap, dss, rss⟩ := hr
  have HRS := hide rss
  have hsb : sn ≤ 140737488355328 := by omega
  have hw : IntKind.u64.wrap (sn : Int) = (sn : Int) := by rw [IntKind.wrap_u64]; omega
  have Hwl := hide (wr_len ss f l)
  have Hwd := hide (wr_dig dss f l)
  have Hwg := hide (fun k hk => wr_getD ss f l k hk)
  generalize hys : wr ss f l = ys at *
  clear h rss dss hys
  go_enter Saag.func120, Saag.ntmps120
  go_wp2_with fail
  refine (unhide T).mono ?_
  rintro e w' ⟨⟨b, rfl, hb⟩, q, rfl⟩
  have HSV := hide ((unhide HS).drewN q)
  have HCV := hide (Mch.ofBelow (unhide HB) (below_drewN w q))
  have HRV : Hid (Row (w.drewN q) so ss) := HRS
  clear T HS HRS
  generalize w.drewN q = W at *
  cases b with
  | false =>
    have hn : Hid (¬ Has Fs off ys.length) := hide (fun h => by rw [unhide Hwl] at h; have := hb.2 h; cases this)
    clear hb
    go_wp2
    go_ret
    exact .inr ⟨unhide hn, rfl, _, unhide HSV, unhide HCV⟩
  | true =>
    clear hb
    have Hm : l ≤ 140737488355328 := by omega
    have Hsn := hide hsn
    clear hsn
    go_wp2_with (at_make; refine wpList_make_big _ rfl _ _ 41 rfl Saag.underlying41 _ _ _ _ l rfl rfl rfl rfl Hm ?_; intro w1 hblk hsz hbel)
    go_loopw [22] (fun i wr => ∃ k : Nat, k ≤ l ∧ i = .int .i64 k ∧ Hid (Blk wr W.heap.size (part0 ys k)) ∧ Below W.heap.size W wr) (fun i _ => l - (intOf i).toNat)
    case atStart => exact ⟨0, by omega, rfl, hide (by rw [part0_zero, unhide Hwl]; exact unhide hblk), hbel⟩
    case round =>
      obtain ⟨k, hk, rfl, hb, hbe⟩ := hrel
      by_cases hkl : k < l
      · have hkl' : (k : Int) < (l : Int) := by omega
        have hyl := unhide Hwl
        have hwk : IntKind.u64.wrap (k : Int) = (k : Int) := by rw [IntKind.wrap_u64]; omega
        by_cases hfs : f < sn
        · have hfs' : (f : Int) < (sn : Int) := by omega
          have hwsf : IntKind.u64.wrap ((sn : Int) - (f : Int)) = (sn : Int) - (f : Int) := by rw [IntKind.wrap_u64]; omega
          by_cases hks : k < sn - f
          · have hks' : (k : Int) < (sn : Int) - (f : Int) := by omega
            obtain ⟨z, hck⟩ : ∃ z, wr.cell? ⟨W.heap.size, k, none⟩ = some z := ⟨_, (unhide hb).cell k (by rw [part0_len _ _ (by omega)]; omega)⟩
            have hfk := (unhide hb).frozen k
            have hset := (unhide hb).set k (ys.getD k 0) (x := ((ys.getD k 0 : Nat) : Int)) rfl
            rw [part0_set (by omega)] at hset
            obtain ⟨sb, sof, hso, cs⟩ := ((unhide HRV).below hbe (Nat.le_refl _)) (f + k) (by have := unhide Hsn; omega)
            subst hso
            rw [← unhide Hwg k hkl] at cs
            generalize ys.getD k 0 = x at *
            obtain ⟨si, hsi⟩ : ∃ si, si = f + k := ⟨_, rfl⟩
            rw [← hsi] at cs
            have hadd : IntKind.u64.wrap ((f : Int) + (k : Int)) = (si : Int) := by rw [IntKind.wrap_u64]; omega
            have hsil : (si : Int) < (sn : Int) := by omega
            have HSet := hide hset
            have HBe := hide (hbe.setCell (p := ⟨W.heap.size, k, none⟩) (Nat.le_refl _) (.int .u8 (x : Int)))
            clear hset hsi hb hbe hyl
            go_wp2
            go_roundw
            case rel => exact ⟨k + 1, by omega, by go_num, HSet, unhide HBe⟩
            case measure => simp [intOf]; omega
          · have hks' : ¬ (k : Int) < (sn : Int) - (f : Int) := by omega
            have h0 : ys.getD k 0 = 0 := by
              rw [unhide Hwg k hkl, List.getD_eq_getElem?_getD, List.getElem?_eq_none (by have := unhide Hsn; omega)]
              rfl
            have hb' := unhide hb
            rw [part0_skip (by omega) h0] at hb'
            have HB' := hide hb'
            have HBe := hide hbe
            clear h0 hb' hb hbe hyl
            go_wp2
            go_roundw
            case rel => exact ⟨k + 1, by omega, by go_num, HB', unhide HBe⟩
            case measure => simp [intOf]; omega
        · have hfs' : ¬ (f : Int) < (sn : Int) := by omega
          have h0 : ys.getD k 0 = 0 := by
            rw [unhide Hwg k hkl, List.getD_eq_getElem?_getD, List.getElem?_eq_none (by have := unhide Hsn; omega)]
            rfl
          have hb' := unhide hb
          rw [part0_skip (by omega) h0] at hb'
          have HB' := hide hb'
          have HBe := hide hbe
          clear h0 hb' hb hbe hyl
          go_wp2
          go_roundw
          case rel => exact ⟨k + 1, by omega, by go_num, HB', unhide HBe⟩
          case measure => simp [intOf]; omega
      · have hkl' : ¬ (k : Int) < (l : Int) := by omega
        obtain rfl : k = l := by omega
        have hb' := unhide hb
        have hyl := unhide Hwl
        have e0 : part0 ys k = ys := by rw [← hyl]; exact part0_all ys
        rw [e0] at hb'
        have T3 := hide (put_any off ys ho (by omega) ((unhide HSV).later hbe) (bo := some ⟨W.heap.size, 0, none⟩) (zn := k) (zcap := k) ⟨_, _, _, rfl, hyl, Nat.le_refl _, unhide Hwd, hb'.row⟩ (fun a e f hf e' => by
          cases e
          have := (unhide HSV).fr.lt f hf _ e'
          exact absurd this (Nat.lt_irrefl _)))
        have HC2 := hide ((unhide HCV).trans (Mch.ofBelow (unhide HSV).hB hbe))
        clear hb' hb hbe e0 hyl HSV
        go_wp2_with fail
        refine (unhide T3).mono ?_
        rintro e w3 hp
        obtain ⟨b, rfl⟩ := put_ret hp
        have HP := hide (hp.from (unhide HC2))
        clear hp T3 HC2
        go_wp2
        go_ret
        exact unhide HP

end Go.Proofs.Ygcsaa
