/-
  (*mem.Arena).Grow.
-/
import Derived.Test.YgcsaaArB
namespace Go.Proofs.Ygcsaa
open Go.RowKit
set_option linter.unusedSimpArgs false
set_option linter.unusedVariables false

/-- The bytes behind Grow: mo zeros from hi on. -/
def growX (xs : List Nat) (hi mo : Nat) : List Nat := if hi + mo ≤ xs.length then splice xs hi (List.replicate mo 0) else xs.take hi ++ List.replicate mo 0

theorem growX_len (xs : List Nat) (hi mo : Nat) (h : hi ≤ xs.length) : (growX xs hi mo).length = max xs.length (hi + mo) := by
  unfold growX
  split
  · rw [splice_len (by simpa using ‹_›)]; omega
  · simp; omega

theorem good_base {n : Nat} {bs : List Nat} {t : Nat} (h : Good n bs t) : ∀ i, i ≤ t → bs.getD i 0 ≤ i * 717280 := by
  intro i
  induction i with
  | zero => intro _; rw [h.1.2.1]; exact Nat.zero_le _
  | succ i ih =>
    intro hi
    have h1 := ih (by omega)
    have h2 := h.1.2.2 i (by omega)
    have h3 := h2.1
    have h4 := h2.2.2
    omega

theorem getD_set (bs : List Nat) (i j x : Nat) (h : i < bs.length) : (bs.set i x).getD j 0 = if i = j then x else bs.getD j 0 := by
  simp only [List.getD_eq_getElem?_getD, List.getElem?_set]
  by_cases hij : i = j
  · subst hij; simp [h]
  · simp [hij]

theorem good_grow {n : Nat} {bs : List Nat} {t k words : Nat} (h : Good n bs t) (hk : t = k + 1) (hl : bs.length = 8) (hw : words ≤ 22415) :
    Good (max n (bs.getD k 0 + 32 * words)) (bs.set t (bs.getD k 0 + 32 * words)) t := by
  have h7 := h.1.1
  have hb := good_base h k (by omega)
  refine ⟨⟨h7, ?_, ?_⟩, ?_, ?_⟩
  · rw [getD_set _ _ _ _ (by omega), if_neg (by omega)]; exact h.1.2.1
  · intro i hi
    unfold Step
    by_cases hik : i = k
    · subst hik
      rw [getD_set _ _ _ _ (by omega), getD_set _ _ _ _ (by omega), if_neg (by omega), if_pos (by omega)]
      omega
    · rw [getD_set _ _ _ _ (by omega), getD_set _ _ _ _ (by omega), if_neg (by omega), if_neg (by omega)]
      exact h.1.2.2 i hi
  · rw [getD_set _ _ _ _ (by omega), if_pos rfl]; omega
  · have := h.2.2
    omega

theorem u32_set {bs : List Nat} {t x : Nat} (h : U32s bs) (hx : x < 4294967296) (hl : t < bs.length) : U32s (bs.set t x) := by
  intro i
  rw [getD_set _ _ _ _ hl]
  split
  · exact hx
  · exact h i

theorem Rd.upd {w w' : World} {ao : Option Addr} {n cap : Nat} {xs : List Nat} {g : Nat} (h : Rd w (.slice ao n cap) xs) (u : Upd w w' g) (ha : ∀ a, ao = some a → a.block ≠ g) : Rd w' (.slice ao n cap) xs := by
  obtain ⟨ao', n', cap', e, h1, h2, h3, h4⟩ := h
  cases e
  exact ⟨_, _, _, rfl, h1, h2, h3, h4.upd u ha⟩

theorem RdT.upd {w w' : World} {ao : Option Addr} {n cap : Nat} {xs : List Nat} {g : Nat} (h : RdT w (.slice ao n cap) xs) (u : Upd w w' g) (ha : ∀ a, ao = some a → a.block ≠ g) : RdT w' (.slice ao n cap) xs :=
  ⟨h.1.upd u ha, fun a n' c e => by
    cases e
    rw [u.block a.block (ha a rfl)]
    exact h.2 a _ _ rfl⟩

/-- What Grow hands back and leaves. -/
def GrowOut (e : Ending) (w w' : World) (g : Nat) (ob : Option Nat) (xs bs : List Nat) (t words : Nat) : Prop :=
  Chg w w' g ob ∧ ((¬ (t ≠ 0 ∧ words ≤ 22415) ∧ e = .returned (.bool false) ∧ APost w' g xs bs t) ∨
  ((t ≠ 0 ∧ words ≤ 22415) ∧ 32 * words ≤ mA bs t ∧ e = .returned (.bool true) ∧ APost w' g xs bs t) ∨
  ((t ≠ 0 ∧ words ≤ 22415) ∧ mA bs t < 32 * words ∧ e = .returned (.bool true) ∧ APost w' g (growX xs (loA bs t + mA bs t) (32 * words - mA bs t)) (bs.set t (loA bs t + 32 * words)) t))

set_option maxRecDepth 10000 in
set_option maxHeartbeats 1000000 in
theorem grow_none {w : World} {g : Nat} {bv : Value} {bs : List Nat} (words : Nat) (h : ABox w g bv bs 0) :
    Calls Saag.prog 76 #[.pointer (some ⟨g, 0, none⟩), .int .u32 (words : Int)] w fun e w' => e = .returned (.bool false) ∧ ∃ q, w' = w.drewN q := by
  have T := hide (top_none h)
  clear h
  go_enter Saag.func76, Saag.ntmps76
  go_wp2_with fail
  refine (unhide T).mono ?_
  rintro e w' ⟨rfl, q, rfl⟩
  go_wp2
  go_ret
  exact ⟨rfl, q, rfl⟩

set_option maxRecDepth 10000 in
set_option maxHeartbeats 8000000 in
theorem grow_some {w : World} {g : Nat} {ob : Option Nat} {xs bs : List Nat} {t k : Nat} (words : Nat) (hw32 : words < 4294967296) (h : ASt w g ob xs bs t) (hk : t = k + 1) :
    Calls Saag.prog 76 #[.pointer (some ⟨g, 0, none⟩), .int .u32 (words : Int)] w fun e w' => GrowOut e w w' g ob xs bs t words := by
  have T := hide (top_some h.box h.u32 h.good hk (fun e => by rw [h.nl e]; rfl))
  have HS := hide h
  have hlo : loA bs t = bs.getD k 0 := by unfold loA; congr 1; omega
  have hm : mA bs t = bs.getD t 0 - bs.getD k 0 := by unfold mA; congr 2; omega
  have hle := h.top_le
  have hmx := h.good.2.2
  have h7 := h.good.1.1
  have hlohi : bs.getD k 0 ≤ bs.getD t 0 := good_mono h.good t k (by omega) (Nat.le_refl _)
  rw [← hm, ← hlo] at T
  have Hk := hide hk
  clear h
  by_cases hw : words ≤ 22415
  · have hw' : decide ((22415 : Int) < (words : Int)) = false := by simp; omega
    have hmul : IntKind.u32.wrap (32 * (words : Int)) = ((32 * words : Nat) : Int) := by rw [IntKind.wrap_u32]; omega
    have hhi : bs.getD t 0 = loA bs t + mA bs t := by omega
    have hgg := good_grow (unhide HS).good hk (unhide HS).box.len hw
    rw [← hlo] at hgg
    have hgl : (growX xs (loA bs t + mA bs t) (32 * words - mA bs t)).length = max xs.length (loA bs t + mA bs t + (32 * words - mA bs t)) := growX_len _ _ _ hle
    have hne : t ≠ 0 := by omega
    have HH := hide (show bs.getD k 0 = loA bs t from hlo.symm)
    clear hlo hm hk hlohi
    unfold GrowOut
    generalize hlo : loA bs t = lo at *
    generalize hmm : mA bs t = m at *
    generalize hww : 32 * words = ww at *
    have Hww := hide hww
    have hwwb : ww ≤ 717280 := by omega
    clear hlo hmm hww
    have hwm : IntKind.u32.wrap (m : Int) = (m : Int) := by rw [IntKind.wrap_u32]; omega
    go_enter Saag.func76, Saag.ntmps76
    go_wp2_with fail
    refine (unhide T).mono ?_
    rintro e w' ⟨⟨v, rfl, hs⟩, q, rfl⟩
    have HS1 := hide ((unhide HS).drewN q)
    have HB := hide (below_drewN w q)
    clear HS T
    generalize w.drewN q = W at *
    obtain ⟨ao, rfl⟩ : ∃ ao, v = .slice ao m m := by
      rcases hs with ⟨rfl, ao, rfl⟩ | ⟨_, b, _, rfl⟩
      · exact ⟨ao, rfl⟩
      · exact ⟨_, rfl⟩
    clear hs
    by_cases hc : ww ≤ m
    · have hc' : (ww : Int) ≤ (m : Int) := by omega
      have HP := hide (unhide HS1).post
      have HC := hide (Chg.ofBelow (unhide HB) g ob)
      clear HS1 HB hgg hgl
      go_wp2
      go_ret
      exact ⟨unhide HC, .inr (.inl ⟨⟨hne, hw⟩, hc, rfl, unhide HP⟩)⟩
    · have hc' : ¬ (ww : Int) ≤ (m : Int) := by omega
      obtain ⟨mo, hmo⟩ : ∃ mo, ww = m + mo := ⟨ww - m, by omega⟩
      have hsub : IntKind.i64.wrap ((ww : Int) - (m : Int)) = (mo : Int) := by rw [IntKind.wrap_i64]; omega
      have hwi : IntKind.i64.wrap (ww : Int) = (ww : Int) := by rw [IntKind.wrap_i64]; omega
      have hmo0 : 0 < mo := by omega
      have hmob : mo ≤ 717280 := by omega
      have E1 := hide (show ww - m = mo by omega)
      have E2 := hide (show lo + ww = lo + m + mo by omega)
      rw [unhide E1] at hgl
      rw [unhide E2] at hgg
      have hu2 := u32_set (unhide HS1).u32 (show lo + m + mo < 4294967296 by omega) (show t < bs.length by rw [(unhide HS1).box.len]; omega)
      have c9 := (unhide HS1).box.top
      have ct := (unhide HS1).box.base t (by omega)
      have c0 := (unhide HS1).box.buf
      rw [hhi] at ct
      have hb1 : (t : Int) < 8 := by omega
      have n9 : 9 ≠ 1 + t := by omega
      have hwmo : IntKind.u32.wrap (mo : Int) = (mo : Int) := by rw [IntKind.wrap_u32]; omega
      have hadd : IntKind.u32.wrap (((lo + m : Nat) : Int) + (mo : Int)) = ((lo + m + mo : Nat) : Int) := by rw [IntKind.wrap_u32]; omega
      have Hmo := hide hmo
      clear hmo
      generalize hhh : lo + m = hi at *
      generalize hnb : hi + mo = nb at *
      have HNB := hide hnb
      have HG := hide hgg
      have HGL := hide hgl
      have Hhh := hide hhh
      have HU2 := hide hu2
      clear hhh hnb hgg hgl hu2
      have hu2 := HU2
      go_wp2
      go_quiet (fail)
      have HSV := hide ((unhide HS1).drewN nq)
      have HBV := hide (bdrew (unhide HB) nq)
      have c0V : (W.drewN nq).cell? ⟨g, 0, none⟩ = some (bufv ob xs.length) := c0
      clear HS1 HB c0 c9 ct
      generalize W.drewN nq = V at *
      cases ob with
      | none =>
        have hnb := unhide HNB
        have hx := (unhide HSV).nl rfl
        have hn0 : xs.length = 0 := by rw [hx]; rfl
        have hi0 : hi = 0 := by omega
        have hgx : growX xs hi mo = xs ++ List.replicate mo 0 := by rw [growX, if_neg (by omega), hi0, hx]; rfl
        have dys := (unhide HSV).dig
        have nys : (none : Option Nat) = none → xs = [] := fun _ => hx
        have bys : ∀ b : Nat, none = some b → Blk V b xs := fun b e => by cases e
        have A1 := (unhide HSV).box
        have HCH := hide (Chg.ofBelow (unhide HBV) g none)
        have hclr := run_clear_none V none 0
        have hmst : ¬ (mo : Int) ≤ 0 := by omega
        have hkw : IntKind.i64.wrap (mo : Int) = (mo : Int) := by rw [IntKind.wrap_i64]; omega
        simp only [bufv] at c0V
        have hys : xs.length = 0 := hn0
        subst hi0
        obtain rfl : mo = nb := by omega
        clear hn0 hnb
        obtain ⟨cap, W3, happ, HRd, hbel⟩ := run_append_zeros V none xs mo hmo0 (by omega) dys nys bys
        generalize hL : xs.length + mo = L at happ HRd
        have HL := hide hL
        clear hL
        have A3 := A1.later hbel
        have A4 := A3.setBuf (.slice (some ⟨V.heap.size, 0, none⟩) L cap)
        have c02 := A1.buf
        have c03 := A3.buf
        have f03 := A3.frozen 0
        have hgW : g ≠ V.heap.size := by have := A1.lt; omega
        have hR4 := (unhide HRd).upd (Upd.setCell W3 ⟨g, 0, none⟩ (.slice (some ⟨V.heap.size, 0, none⟩) L cap)) (fun a h => by cases h; exact Ne.symm hgW)
        have HC4 := hide (((unhide HCH).trans (Chg.ofBelow hbel g none)).trans (Chg.ofUpd (Upd.setCell W3 ⟨g, 0, none⟩ (.slice (some ⟨V.heap.size, 0, none⟩) L cap)) none))
        rw [← hgx] at hR4
        have HR := hide hR4
        clear hR4 HRd hbel A3 HCH A1
        have A1 := A4
        clear A4
        rw [hys] at *
        have hB9 := A1.top
        have hfz := A1.frozen (1 + t)
        have hcb := A1.base t (by omega)
        have HA1 := hide A1
        clear A1
        generalize bs.getD t 0 = old at *
        simp only [bufv] at c02 c03 happ
        go_wp2_with (at_builtin; refine Lib.wpList_append_run _ rfl _ _ _ _ rfl _ _ rfl rfl _ _ (happ _) ?_)
        generalize W3.setCell ⟨g, 0, none⟩ (.slice (some ⟨V.heap.size, 0, none⟩) L cap) = W4 at *
        go_region_held3 (fun w' => w'.cell? ⟨g, 9, none⟩ = some (.int .u8 (t : Int))) (first | exact hB9 | exact (cell_ne_drew _ _ _ _ _ n9).trans hB9) (fail)
        have A2 : ABox (W4.setCell ⟨g, 1 + t, none⟩ (.int .u32 (mo : Int))).drew g _ (bs.set t mo) t := ((unhide HA1).setBase t mo (by omega)).drewN 1
        have U2 : Upd W4 (W4.setCell ⟨g, 1 + t, none⟩ (.int .u32 (mo : Int))).drew g := (Upd.setCell W4 ⟨g, 1 + t, none⟩ (.int .u32 (mo : Int))).trans (Upd.drewN _ 1 _)
        have HP := hide (show APost (W4.setCell ⟨g, 1 + t, none⟩ (.int .u32 (mo : Int))).drew g (growX xs 0 mo) (bs.set t mo) t from ⟨⟨_, A2, (unhide HR).upd U2 (fun a h => by cases h; exact Ne.symm hgW)⟩, unhide hu2, by rw [unhide HGL]; exact unhide HG⟩)
        have HC := hide ((unhide HC4).trans (Chg.ofUpd U2 none))
        clear A2 U2
        rename_i hHeld
        clear hHeld hB9 hfz hcb HA1
        generalize (W4.setCell ⟨g, 1 + t, none⟩ (.int .u32 (mo : Int))).drew = W5 at *
        go_wp2
        go_ret
        refine ⟨unhide HC, .inr (.inr ⟨⟨hne, hw⟩, by omega, rfl, ?_⟩)⟩
        rw [unhide E1, unhide E2, unhide Hhh]
        exact unhide HP
      | some b =>
        have K1 := (unhide HSV).buf b rfl
        have S1u := (unhide HSV)
        simp only [bufv] at c0V
        have hnb := unhide HNB
        by_cases hin : hi + mo ≤ xs.length
        · obtain ⟨W2, hclr, hblk, hupd⟩ := run_clear_bytes V b hi mo (xs.length - hi) xs hmo0 K1 hin
          have A1 := S1u.box.upd hupd (S1u.box.ne_blk K1)
          have hgx : growX xs hi mo = splice xs hi (List.replicate mo 0) := by rw [growX, if_pos hin]
          have hR : RdT W2 (bufv (some b) xs.length) (growX xs hi mo) := by
            rw [hgx]
            exact ⟨⟨_, _, _, rfl, by rw [splice_len (by simpa using hin)], Nat.le_refl _, splice_dig S1u.dig (M.dig_replicate_zero _) _, (unhide hblk).row⟩, fun a n c e => by cases e; exact ⟨_, unhide hblk⟩⟩
          have hgb := S1u.box.ne_blk K1
          have HR := hide hR
          have HU := hide hupd
          clear hR hupd hblk S1u K1 hgx
          obtain ⟨st, hst⟩ : ∃ st, xs.length = hi + st := ⟨xs.length - hi, by omega⟩
          have Hin := hide hin
          have hmst : (mo : Int) ≤ (st : Int) := by omega
          have nst : ¬ st = 0 := by omega
          generalize hnn : xs.length = n at *
          subst hst
          rw [Nat.add_sub_cancel_left] at hclr
          clear hin hnn hnb
          have hB9 := A1.top
          have hfz := A1.frozen (1 + t)
          have hcb := A1.base t (by omega)
          have HA1 := hide A1
          clear A1
          generalize bs.getD t 0 = old at *
          go_wp2
          go_region_held3 (fun w' => w'.cell? ⟨g, 9, none⟩ = some (.int .u8 (t : Int))) (first | exact hB9 | exact (cell_ne_drew _ _ _ _ _ n9).trans hB9) (fail)
          have A2 : ABox (W2.setCell ⟨g, 1 + t, none⟩ (.int .u32 (nb : Int))).drew g _ (bs.set t nb) t := ((unhide HA1).setBase t nb (by omega)).drewN 1
          have U2 : Upd W2 (W2.setCell ⟨g, 1 + t, none⟩ (.int .u32 (nb : Int))).drew g := (Upd.setCell W2 ⟨g, 1 + t, none⟩ (.int .u32 (nb : Int))).trans (Upd.drewN _ 1 _)
          have HP := hide (show APost (W2.setCell ⟨g, 1 + t, none⟩ (.int .u32 (nb : Int))).drew g (growX xs hi mo) (bs.set t nb) t from ⟨⟨_, A2, (unhide HR).upd U2 (fun a h => by cases h; exact Ne.symm hgb)⟩, unhide hu2, by rw [unhide HGL]; exact unhide HG⟩)
          have HC := hide (((Chg.ofBelow (unhide HBV) g (some b)).trans (Chg.ofUpd' (unhide HU) g)).trans (Chg.ofUpd U2 (some b)))
          clear A2 U2
          rename_i hHeld
          clear hHeld hB9 hfz hcb HA1
          generalize (W2.setCell ⟨g, 1 + t, none⟩ (.int .u32 (nb : Int))).drew = W3 at *
          go_wp2
          go_ret
          refine ⟨unhide HC, .inr (.inr ⟨⟨hne, hw⟩, by omega, rfl, ?_⟩)⟩
          rw [unhide E1, unhide E2, unhide Hhh]
          exact unhide HP
        · have hin' := hin
          have S1u' := S1u
          obtain ⟨st, hst⟩ : ∃ st, xs.length = hi + st := ⟨xs.length - hi, by omega⟩
          obtain ⟨kk, hkk⟩ : ∃ kk, mo = st + kk := ⟨mo - st, by omega⟩
          have hkk0 : 0 < kk := by omega
          have hmst : ¬ (mo : Int) ≤ (st : Int) := by omega
          have hkw : IntKind.i64.wrap ((mo : Int) - (st : Int)) = (kk : Int) := by rw [IntKind.wrap_i64]; omega
          obtain ⟨ys, hyd⟩ : ∃ ys, ys = xs.take hi ++ List.replicate st 0 := ⟨_, rfl⟩
          have hys : ys.length = xs.length := by rw [hyd]; simp; omega
          have hgx : growX xs hi mo = ys ++ List.replicate kk 0 := by rw [growX, if_neg (by omega), hyd, List.append_assoc, List.replicate_append_replicate, hkk]
          have dys : M.Dig ys := by rw [hyd]; exact M.dig_append (M.dig_take S1u.dig _) (M.dig_replicate_zero _)
          have nys : some b = none → ys = [] := fun e => by cases e
          by_cases h0 : st = 0
          · obtain rfl : kk = mo := by omega
            have hkw' : IntKind.i64.wrap (kk : Int) = (kk : Int) := by rw [IntKind.wrap_i64]; omega
            have hmst' : ¬ (kk : Int) ≤ 0 := by omega
            have hyx : ys = xs := by rw [hyd, h0, List.replicate_zero, List.append_nil]; exact List.take_of_length_le (by omega)
            obtain ⟨W2, hW2⟩ : ∃ W2, W2 = V := ⟨_, rfl⟩
            have bys : ∀ c, some b = some c → Blk W2 c ys := fun c e => by cases e; rw [hyx, hW2]; exact K1
            have A1 : ABox W2 g (bufv (some b) xs.length) bs t := by rw [hW2]; exact S1u.box
            have HCH : Hid (Chg w W2 g (some b)) := hide (by rw [hW2]; exact Chg.ofBelow (unhide HBV) g (some b))
            have hclr : ∀ ty, (Builtin.clear_ #[41] ty #[.slice (some ⟨b, 0, none⟩) 0 0]).run Saag.prog V = .ok (.tuple #[]) W2 := by rw [hW2]; exact run_clear_none V (some ⟨b, 0, none⟩) 0
            obtain ⟨cap, W3, happ, HRd, hbel⟩ := run_append_zeros W2 (some b) ys kk hkk0 (by omega) dys nys bys
            generalize hL : ys.length + kk = L at happ HRd
            have HL := hide hL
            clear hL
            have A3 := A1.later hbel
            have A4 := A3.setBuf (.slice (some ⟨W2.heap.size, 0, none⟩) L cap)
            have c02 := A1.buf
            have c03 := A3.buf
            have f03 := A3.frozen 0
            have hgW : g ≠ W2.heap.size := by have := A1.lt; omega
            have hR4 := (unhide HRd).upd (Upd.setCell W3 ⟨g, 0, none⟩ (.slice (some ⟨W2.heap.size, 0, none⟩) L cap)) (fun a h => by cases h; exact Ne.symm hgW)
            have HC4 := hide (((unhide HCH).trans (Chg.ofBelow hbel g (some b))).trans (Chg.ofUpd (Upd.setCell W3 ⟨g, 0, none⟩ (.slice (some ⟨W2.heap.size, 0, none⟩) L cap)) (some b)))
            rw [← hgx] at hR4
            have HR := hide hR4
            clear hR4 HRd hbel A3 HCH A1
            have A1 := A4
            clear A4
            rw [hys] at *
            have hB9 := A1.top
            have hfz := A1.frozen (1 + t)
            have hcb := A1.base t (by omega)
            have HA1 := hide A1
            clear A1
            generalize bs.getD t 0 = old at *
            obtain rfl : hi = xs.length := by omega
            clear hkw hmst
            have Hst0 := hide h0
            subst h0
            clear hyx bys dys nys hyd hgx hst hkk hin S1u' S1u K1 hin' hW2 hnb hle
            generalize xs.length = n at *
            simp only [bufv] at c02 c03 happ
            go_wp2_with (at_builtin; refine Lib.wpList_append_run _ rfl _ _ _ _ rfl _ _ rfl rfl _ _ (happ _) ?_)
            generalize W3.setCell ⟨g, 0, none⟩ (.slice (some ⟨W2.heap.size, 0, none⟩) L cap) = W4 at *
            go_region_held3 (fun w' => w'.cell? ⟨g, 9, none⟩ = some (.int .u8 (t : Int))) (first | exact hB9 | exact (cell_ne_drew _ _ _ _ _ n9).trans hB9) (fail)
            have A2 : ABox (W4.setCell ⟨g, 1 + t, none⟩ (.int .u32 (nb : Int))).drew g _ (bs.set t nb) t := ((unhide HA1).setBase t nb (by omega)).drewN 1
            have U2 : Upd W4 (W4.setCell ⟨g, 1 + t, none⟩ (.int .u32 (nb : Int))).drew g := (Upd.setCell W4 ⟨g, 1 + t, none⟩ (.int .u32 (nb : Int))).trans (Upd.drewN _ 1 _)
            have HP := hide (show APost (W4.setCell ⟨g, 1 + t, none⟩ (.int .u32 (nb : Int))).drew g (growX xs _ kk) (bs.set t nb) t from ⟨⟨_, A2, (unhide HR).upd U2 (fun a h => by cases h; exact Ne.symm hgW)⟩, unhide hu2, by rw [unhide HGL]; exact unhide HG⟩)
            have HC := hide ((unhide HC4).trans (Chg.ofUpd U2 (some b)))
            clear A2 U2
            rename_i hHeld
            clear hHeld hB9 hfz hcb HA1
            generalize (W4.setCell ⟨g, 1 + t, none⟩ (.int .u32 (nb : Int))).drew = W5 at *
            go_wp2
            go_ret
            refine ⟨unhide HC, .inr (.inr ⟨⟨hne, hw⟩, by omega, rfl, ?_⟩)⟩
            rw [unhide E1, unhide E2, unhide Hhh]
            exact unhide HP
          · obtain ⟨W2, hclr, hblk, hupd⟩ := run_clear_bytes V b hi st st xs (by omega) K1 (by omega)
            have hyx : splice xs hi (List.replicate st 0) = ys := by rw [hyd, splice, List.length_replicate, ← hst, List.drop_length, List.append_nil]
            rw [hyx] at hblk
            have bys : ∀ c, some b = some c → Blk W2 c ys := fun c e => by cases e; exact unhide hblk
            have A1 := S1u.box.upd hupd (S1u.box.ne_blk K1)
            have HCH := hide ((Chg.ofBelow (unhide HBV) g (some b)).trans (Chg.ofUpd' hupd g))
            obtain ⟨cap, W3, happ, HRd, hbel⟩ := run_append_zeros W2 (some b) ys kk hkk0 (by omega) dys nys bys
            generalize hL : ys.length + kk = L at happ HRd
            have HL := hide hL
            clear hL
            have A3 := A1.later hbel
            have A4 := A3.setBuf (.slice (some ⟨W2.heap.size, 0, none⟩) L cap)
            have c02 := A1.buf
            have c03 := A3.buf
            have f03 := A3.frozen 0
            have hgW : g ≠ W2.heap.size := by have := A1.lt; omega
            have hR4 := (unhide HRd).upd (Upd.setCell W3 ⟨g, 0, none⟩ (.slice (some ⟨W2.heap.size, 0, none⟩) L cap)) (fun a h => by cases h; exact Ne.symm hgW)
            have HC4 := hide (((unhide HCH).trans (Chg.ofBelow hbel g (some b))).trans (Chg.ofUpd (Upd.setCell W3 ⟨g, 0, none⟩ (.slice (some ⟨W2.heap.size, 0, none⟩) L cap)) (some b)))
            rw [← hgx] at hR4
            have HR := hide hR4
            clear hR4 HRd hbel A3 HCH A1
            have A1 := A4
            clear A4
            rw [hys] at *
            have hB9 := A1.top
            have hfz := A1.frozen (1 + t)
            have hcb := A1.base t (by omega)
            have HA1 := hide A1
            clear A1
            generalize bs.getD t 0 = old at *
            have nst : ¬ st = 0 := h0
            clear hyx bys dys nys hyd hgx hkk hin S1u' S1u K1 hin' hblk hupd hnb hle
            generalize xs.length = n at *
            subst hst
            simp only [bufv] at c02 c03 happ
            go_wp2_with (at_builtin; refine Lib.wpList_append_run _ rfl _ _ _ _ rfl _ _ rfl rfl _ _ (happ _) ?_)
            generalize W3.setCell ⟨g, 0, none⟩ (.slice (some ⟨W2.heap.size, 0, none⟩) L cap) = W4 at *
            go_region_held3 (fun w' => w'.cell? ⟨g, 9, none⟩ = some (.int .u8 (t : Int))) (first | exact hB9 | exact (cell_ne_drew _ _ _ _ _ n9).trans hB9) (fail)
            have A2 : ABox (W4.setCell ⟨g, 1 + t, none⟩ (.int .u32 (nb : Int))).drew g _ (bs.set t nb) t := ((unhide HA1).setBase t nb (by omega)).drewN 1
            have U2 : Upd W4 (W4.setCell ⟨g, 1 + t, none⟩ (.int .u32 (nb : Int))).drew g := (Upd.setCell W4 ⟨g, 1 + t, none⟩ (.int .u32 (nb : Int))).trans (Upd.drewN _ 1 _)
            have HP := hide (show APost (W4.setCell ⟨g, 1 + t, none⟩ (.int .u32 (nb : Int))).drew g (growX xs hi mo) (bs.set t nb) t from ⟨⟨_, A2, (unhide HR).upd U2 (fun a h => by cases h; exact Ne.symm hgW)⟩, unhide hu2, by rw [unhide HGL]; exact unhide HG⟩)
            have HC := hide ((unhide HC4).trans (Chg.ofUpd U2 (some b)))
            clear A2 U2
            rename_i hHeld
            clear hHeld hB9 hfz hcb HA1
            generalize (W4.setCell ⟨g, 1 + t, none⟩ (.int .u32 (nb : Int))).drew = W5 at *
            go_wp2
            go_ret
            refine ⟨unhide HC, .inr (.inr ⟨⟨hne, hw⟩, by omega, rfl, ?_⟩)⟩
            rw [unhide E1, unhide E2, unhide Hhh]
            exact unhide HP
  · have hw' : (22415 : Int) < (words : Int) := by omega
    go_enter Saag.func76, Saag.ntmps76
    go_wp2_with fail
    refine (unhide T).mono ?_
    rintro e w' ⟨⟨v, rfl, hs⟩, q, rfl⟩
    have HS1 := hide ((unhide HS).drewN q).post
    have HC := hide (Chg.ofBelow (below_drewN w q) g ob)
    clear HS T hs
    go_wp2
    go_ret
    exact ⟨unhide HC, .inl ⟨fun h => hw h.2, rfl, unhide HS1⟩⟩

theorem grow_any {w : World} {g : Nat} {ob : Option Nat} {xs bs : List Nat} {t : Nat} (words : Nat) (hw32 : words < 4294967296) (h : ASt w g ob xs bs t) :
    Calls Saag.prog 76 #[.pointer (some ⟨g, 0, none⟩), .int .u32 (words : Int)] w fun e w' => GrowOut e w w' g ob xs bs t words := by
  cases t with
  | zero =>
    refine (grow_none words h.box).mono ?_
    rintro e w' ⟨rfl, q, rfl⟩
    exact ⟨Chg.ofBelow (below_drewN w q) g ob, .inl ⟨fun h => h.1 rfl, rfl, (h.drewN q).post⟩⟩
  | succ k => exact grow_some words hw32 h rfl

end Go.Proofs.Ygcsaa
