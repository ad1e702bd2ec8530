/-
  (*mmodel.Mem).Read, Load32.
-/
import Derived.Test.YgcsaaArH
namespace Go.Proofs.Ygcsaa
open Go.RowKit
set_option linter.unusedSimpArgs false
set_option linter.unusedVariables false

/-- The top frame's bytes. -/
def topB (Fs : List Fr) : List Nat := match Fs.getLast? with
  | none => []
  | some f => f.2
theorem topB_app (Gs : List Fr) (f : Fr) : topB (Gs ++ [f]) = f.2 := by simp [topB]
theorem topB_len (Fs : List Fr) : (topB Fs).length = topL Fs := by unfold topB topL; cases Fs.getLast? <;> rfl

/-- What Read reads. -/
def readM (Fs : List Fr) (off l : Nat) : Option (List Nat) := @ite _ (Has Fs off l ∧ l ≠ 0) (inferInstanceAs (Decidable ((Fs ≠ [] ∧ off + l ≤ topL Fs) ∧ l ≠ 0))) (some (sg (topB Fs) off l)) none

theorem cell_far (w : World) (a : Addr) (v : Value) (b o : Nat) (h : b ≠ a.block) : (w.setCell a v).cell? ⟨b, o, none⟩ = w.cell? ⟨b, o, none⟩ := World.cell?_of_block (w := w) (heap_setCell_other w a b v h)
theorem cell_far_drew (w : World) (a : Addr) (v : Value) (b o : Nat) (h : b ≠ a.block) : (w.setCell a v).drew.cell? ⟨b, o, none⟩ = w.cell? ⟨b, o, none⟩ := cell_far w a v b o h

theorem sg_snoc {ys : List Nat} {o k : Nat} (h : o + k < ys.length) : sg ys o k ++ [ys.getD (o + k) 0] = sg ys o (k + 1) := by
  simp only [sg]
  rw [List.take_succ_eq_append_getElem (by simp; omega), List.getElem_drop]
  simp [List.getD_eq_getElem?_getD, h]

set_option maxRecDepth 10000 in
set_option maxHeartbeats 2000000 in
theorem mread_any {B m : Nat} {w : World} {v : Value} {Fs : List Fr} (off l : Nat) (ho : off < 4294967296) (hl : l < 4294967296) (h : MSt B w m v Fs) :
    Calls Saag.prog 119 #[.pointer (some ⟨m, 0, none⟩), .int .u32 (off : Int), .int .u32 (l : Int)] w fun e w' => ∃ v, e = .returned v ∧ RdF w.heap.size w' v (readM Fs off l) ∧ Below w.heap.size w w' := by
  have T := hide (has_any off l ho hl h)
  have HS := hide h
  clear h
  go_enter Saag.func119, Saag.ntmps119
  go_wp2_with fail
  refine (unhide T).mono ?_
  rintro e w' ⟨⟨b, rfl, hb⟩, q, rfl⟩
  have HSV := hide ((unhide HS).drewN q)
  have HBV := hide (below_drewN w q)
  clear T HS
  generalize w.drewN q = W at *
  cases b with
  | false =>
    have hr : readM Fs off l = none := by rw [readM, if_neg (fun h => by have := hb.2 h.1; cases this)]
    have HR := hide hr
    clear hr hb
    go_wp2
    go_ret
    exact ⟨_, rfl, by rw [unhide HR]; rfl, unhide HBV⟩
  | true =>
    have hh := hb.1 rfl
    clear hb
    by_cases h0 : l = 0
    · subst h0
      have hr : readM Fs off 0 = none := by rw [readM, if_neg (by simp)]
      have HR := hide hr
      clear hr
      go_wp2
      go_ret
      exact ⟨_, rfl, by rw [unhide HR]; rfl, unhide HBV⟩
    · have hr : readM Fs off l = some (sg (topB Fs) off l) := by rw [readM, if_pos ⟨hh, h0⟩]
      have hz : ((l : Int) == 0) = false := by simp; omega
      rcases fr_cases Fs with rfl | ⟨Gs, f, rfl⟩
      · exact absurd rfl hh.1
      · have hS := unhide HSV
        obtain ⟨p, cap, cur, rfl, hp, hpb, hc, _, cp⟩ := hS.fr.last
        have cm := hS.box.cell
        have hml := hS.box.lt
        have hpl : p < W.heap.size := (Array.getElem?_eq_some_iff.1 hpb).1
        have hok := hS.fr.ok f (by simp)
        have hfew := hS.fr.few
        have hle : off + l ≤ f.2.length := by have := hh.2; rwa [topL_app] at this
        rw [topB_app] at hr
        rw [List.length_append, List.length_singleton] at hfew
        obtain ⟨ob, ys⟩ := f
        simp only at hle hr
        cases ob with
        | none => have := hok.nl rfl; simp only at this; subst this; simp at hle; omega
        | some b =>
          have hblk := (hok.blk b rfl).2
          have hbl := hblk.lt
          have hdig := hok.dig
          have hyl := hok.len
          simp only at hblk hdig hyl
          have efv : fv (some b, ys) = .slice (some ⟨b, 0, none⟩) ys.length ys.length := rfl
          rw [efv] at cp
          have HK := hide hblk
          have HR := hide hr
          have HD := hide hdig
          clear hblk hok hpb hS HSV hr hdig hh
          generalize hn : Gs.length + 1 = n at *
          generalize hj : Gs.length = j at *
          have hwr : IntKind.i64.wrap ((n : Int) - 1) = (j : Int) := by rw [IntKind.wrap_i64]; omega
          have hjn : (j : Int) < (n : Int) := by omega
          have hwo : IntKind.i64.wrap (off : Int) = (off : Int) := by rw [IntKind.wrap_i64]; omega
          clear hn hj
          have Hm : l ≤ 140737488355328 := by omega
          go_wp2_with (at_make; refine wpList_make_big _ rfl _ _ 41 rfl Saag.underlying41 _ _ _ _ l rfl rfl rfl rfl Hm ?_; intro w1 hblk hsz hbel)
          go_loopw [22] (fun i wr => ∃ k : Nat, k ≤ l ∧ i = .int .i64 k ∧ Hid (Blk wr W.heap.size (sg ys off k ++ List.replicate (l - k) 0)) ∧ Below W.heap.size W wr) (fun i _ => l - (intOf i).toNat)
          case atStart => exact ⟨0, by omega, rfl, by simpa [sg] using hblk, hbel⟩
          case round =>
            obtain ⟨k, hk, rfl, hb, hbe⟩ := hrel
            have hsl : (sg ys off k).length = k := sg_len (by omega)
            by_cases hkl : k < l
            · have hkl' : (k : Int) < (l : Int) := by omega
              obtain ⟨z, hck⟩ : ∃ z, wr.cell? ⟨W.heap.size, k, none⟩ = some z := ⟨_, (unhide hb).cell k (by rw [List.length_append, hsl, List.length_replicate]; omega)⟩
              have hfk := (unhide hb).frozen k
              have hset := (unhide hb).set k (ys.getD (off + k) 0) (x := ((ys.getD (off + k) 0 : Nat) : Int)) rfl
              have e1 := M.set_app (sg ys off k) l (ys.getD (off + k) 0) (by omega)
              rw [hsl] at e1
              rw [e1, sg_snoc (by omega)] at hset
              have cb := (unhide HK).cell (off + k) (by omega)
              generalize ys.getD (off + k) 0 = x at *
              obtain ⟨si, hsi⟩ : ∃ si, si = off + k := ⟨_, rfl⟩
              rw [← hsi] at cb
              have hadd : IntKind.i64.wrap ((off : Int) + (k : Int)) = (si : Int) := by rw [IntKind.wrap_i64]; omega
              have hsiL : (si : Int) < (ys.length : Int) := by omega
              have cm1 := (hbe.cell (p := ⟨m, 0, none⟩) hml).trans cm
              have cp1 := (hbe.cell (p := ⟨p, j, none⟩) hpl).trans cp
              have cb1 := (hbe.cell (p := ⟨b, si, none⟩) hbl).trans cb
              have n1 : m ≠ W.heap.size := by omega
              have n2 : p ≠ W.heap.size := by omega
              have n3 : b ≠ W.heap.size := by omega
              have HSet := hide hset
              have HBe := hide hbe
              clear hset e1 hsl hb hsi hbe cm cp cb
              generalize ys.length = L at *
              go_wp2
              go_region_held3 (fun w' => w'.cell? ⟨m, 0, none⟩ = some (.slice (some ⟨p, 0, none⟩) n cap) ∧ w'.cell? ⟨p, j, none⟩ = some (.slice (some ⟨b, 0, none⟩) L L) ∧ w'.cell? ⟨b, si, none⟩ = some (.int .u8 (x : Int)))
                (first | exact ⟨cm1, cp1, cb1⟩ | exact ⟨(cell_far_drew _ _ _ _ _ n1).trans cm1, (cell_far_drew _ _ _ _ _ n2).trans cp1, (cell_far_drew _ _ _ _ _ n3).trans cb1⟩) (fail)
              have HSet' : Hid (Blk (wr.setCell ⟨W.heap.size, k, none⟩ (.int .u8 (x : Int))).drew W.heap.size (sg ys off (k + 1) ++ List.replicate (l - (k + 1)) 0)) := HSet
              have HBe' : Hid (Below W.heap.size W (wr.setCell ⟨W.heap.size, k, none⟩ (.int .u8 (x : Int))).drew) := hide (((unhide HBe).setCell (Nat.le_refl _) _).drew)
              rename_i hHeld
              clear hHeld cm1 cp1 cb1 HSet HBe hck hfk
              generalize (wr.setCell ⟨W.heap.size, k, none⟩ (.int .u8 (x : Int))).drew = W5 at *
              go_wp2
              go_roundw
              case rel => exact ⟨k + 1, by omega, by go_num, HSet', unhide HBe'⟩
              case measure => simp [intOf]; omega
            · have hkl' : ¬ (k : Int) < (l : Int) := by omega
              obtain rfl : k = l := by omega
              have hb' := unhide hb
              rw [Nat.sub_self, List.replicate_zero, List.append_nil] at hb'
              have HB' := hide hb'
              have Hsl := hide hsl
              have HBe := hide hbe
              clear hb' hb hsl hbe
              go_wp2
              go_ret
              refine ⟨_, rfl, ?_, bstep (unhide HBV) (unhide HBe)⟩
              rw [unhide HR]
              exact ⟨_, _, _, (unhide HBV).size, rfl, _, _, _, rfl, unhide Hsl, Nat.le_refl _, sg_dig (unhide HD) _ _, (unhide HB').row⟩

theorem row_range {w : World} {b k : Nat} {ys : List Nat} (h : Row w (some ⟨b, k, none⟩) ys) : w.rangeAt b k (ys.map fun x => Value.int .u8 ((x : Nat) : Int)) := by
  intro j v hj
  have hj' : j < ys.length := by
    have := (List.getElem?_eq_some_iff.1 hj).1
    simpa using this
  obtain ⟨b', o', e, hc⟩ := h j hj'
  cases e
  rw [hc]
  simp [hj'] at hj
  rw [← hj]
  simp [List.getD_eq_getElem?_getD, hj']

/-- A [32]byte loaded out of a row of bytes. -/
theorem wpList_loadrow60 {ops : Array Oper} {rest : List Oper} {o : Oper} {a : Act} {w : World} {Q : Exit → Act → World → Prop} (hg : o.guard = none) (x : Operand) (ho : o.op = .load 60 x) (b k : Nat) (hx : a.eval x = .pointer (some ⟨b, k, none⟩))
    (ys : List Nat) (hb : Row w (some ⟨b, k, none⟩) ys) (hl : ys.length = 32) (h : wpList Saag.prog ops Q rest (a.put o.dst (.agg (cellsOf ys))) w) : wpList Saag.prog ops Q (o :: rest) a w :=
  wpList_load_mid hg 60 x ho b k hx (ys.map fun x => Value.int .u8 ((x : Nat) : Int)) _ (row_range hb) Saag.underlying60 rfl (by rw [Saag.info60, List.length_map, hl]) h

/-- What Load32 hands back. -/
def MLoadOf (e : Ending) (Fs : List Fr) (off : Nat) : Prop :=
  (Has Fs off 32 ∧ e = .returned (.tuple #[.agg (cellsOf (sg (topB Fs) off 32)), .bool true])) ∨ (¬ Has Fs off 32 ∧ e = .returned (.tuple #[.agg (cellsOf Z32), .bool false]))

set_option maxRecDepth 10000 in
set_option maxHeartbeats 1000000 in
theorem mload32_any {B m : Nat} {w : World} {v : Value} {Fs : List Fr} (off : Nat) (ho : off < 4294967296) (h : MSt B w m v Fs) :
    Calls Saag.prog 115 #[.pointer (some ⟨m, 0, none⟩), .int .u32 (off : Int)] w fun e w' => MLoadOf e Fs off ∧ Below w.heap.size w w' := by
  have hB0 := below_alloc w (.cells (cellsOf Z32) 60)
  have T := hide (mread_any off 32 ho (by omega) (h.later hB0))
  have X1 := hide (Bx.new w Z32)
  have HB0 := hide hB0
  clear hB0 h
  go_enter Saag.func115, Saag.ntmps115
  go_wp2_with (refine wpList_alloc60 rfl rfl ?_)
  refine (unhide T).mono ?_
  rintro e w1 ⟨v1, rfl, hr', hb⟩
  have hr := hr'.rdo
  clear hr'
  have X2 : Bx w1 w.heap.size Z32 := (unhide X1).later hb
  have HBq := hide (bstep (unhide HB0) hb)
  have XX := hide X2
  clear T X1 HB0 X2 hb
  by_cases hh : Has Fs off 32
  · have hrm : readM Fs off 32 = some (sg (topB Fs) off 32) := by rw [readM, if_pos ⟨hh, by omega⟩]
    rw [hrm] at hr
    obtain ⟨ad, n, cap, rfl, ao', n', cap', e, hn, hc, hd, hrow⟩ := hr
    cases e
    obtain ⟨b, k, e, _⟩ := hrow 0 (by have := hh.2; rw [← topB_len] at this; rw [sg_len this]; omega)
    cases e
    have hlen : (sg (topB Fs) off 32).length = 32 := sg_len (by have := hh.2; rwa [← topB_len] at this)
    obtain rfl : n = 32 := by omega
    have hat : ∀ w, (Instr.arrayAt 60 (.slice (some ⟨b, k, none⟩) 32 cap)).run Saag.prog w = .ok (.pointer (some ⟨b, k, none⟩)) w := fun w => run_arrayAt w 60 5 32 _ 32 cap Saag.underlying60 (Nat.le_refl _)
    have hnil := fun w => Lib.run_eql_slice_nil (P := Saag.prog) w 41 5 (some ⟨b, k, none⟩) 32 cap 0 0 Saag.underlying41
    have HRow := hide hrow
    clear hrow hrm hn hd
    generalize hys : sg (topB Fs) off 32 = ys at *
    have Hys := hide hys
    have Hlen := hide hlen
    clear hys hlen
    go_wp2_with (first | refine wpList_loadrow60 rfl _ rfl _ _ rfl ys (unhide HRow) (unhide Hlen) ?_ | (refine wpList_store60g rfl _ _ rfl _ rfl rfl (unhide Hlen) (unhide XX) Z32_len ?_; intro w2 E1 u2))
    refine bodyPost_ret (ret60 rfl _ _ _ rfl E1 (unhide Hlen)) rfl ?_
    exact ⟨.inl ⟨hh, by rw [unhide Hys]; rfl⟩, u2.below (unhide HBq) (Nat.le_refl _)⟩
  · have hrm : readM Fs off 32 = none := by rw [readM, if_neg (fun h => hh h.1)]
    rw [hrm] at hr
    have hr' : v1 = .slice none 0 0 := hr
    subst hr'
    have hnil := fun w => Lib.run_eql_slice_nil (P := Saag.prog) w 41 5 none 0 0 0 0 Saag.underlying41
    clear hr hrm
    go_wp2_with (first | refine wpList_zero60 rfl rfl ?_ | (refine wpList_store60g rfl _ _ rfl _ rfl rfl Z32_len (unhide XX) Z32_len ?_; intro w2 E1 u2))
    refine bodyPost_ret (ret60 rfl _ _ _ rfl E1 Z32_len) rfl ?_
    exact ⟨.inr ⟨hh, rfl⟩, u2.below (unhide HBq) (Nat.le_refl _)⟩

end Go.Proofs.Ygcsaa
