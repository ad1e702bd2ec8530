/-
  (*mmodel.Mem).put.
-/
import Derived.Test.YgcsaaArI
namespace Go.Proofs.Ygcsaa
open Go.RowKit
set_option linter.unusedSimpArgs false
set_option linter.unusedVariables false

/-- zs laid at off in the top frame. -/
def putF (Fs : List Fr) (off : Nat) (zs : List Nat) : List Fr := Fs.dropLast ++ (match Fs.getLast? with
  | none => []
  | some f => [(f.1, splice f.2 off zs)])
theorem putF_app (Gs : List Fr) (f : Fr) (off : Nat) (zs : List Nat) : putF (Gs ++ [f]) off zs = Gs ++ [(f.1, splice f.2 off zs)] := by simp [putF]

theorem Frs.wrote {B b : Nat} {w w' : World} {v : Value} {Gs : List Fr} {ys ys' : List Nat} (h : Frs B w v (Gs ++ [(some b, ys)])) (u : Upd w w' b) (hb : Blk w' b ys') (hl : ys'.length = ys.length) (hd : M.Dig ys') : Frs B w' v (Gs ++ [(some b, ys')]) := by
  have hok := h.ok (some b, ys) (by simp)
  have hblk := (hok.blk b rfl).2
  have hap := (List.pairwise_append.1 h.apart).2.2
  have efv : fv (some b, ys') = fv (some b, ys) := by unfold fv bufv; simp [hl]
  refine ⟨?_, ?_, ?_, by have := h.few; simp at this ⊢; omega⟩
  · have ho : w.ownsRow B 41 1 v (Gs ++ [(some b, ys')]).length ((Gs ++ [(some b, ys')]).map fv) := by
      have := h.own
      rw [List.map_append, List.length_append] at this ⊢
      simpa [efv] using this
    refine ownsRow_same ho (fun k e => u.block k (fun e' => ?_))
    subst e'
    rcases ho.2 with ⟨rfl, _⟩ | ⟨p, c, cur, rfl, _, h2, _⟩
    · cases e
    · cases e
      unfold Blk at hblk
      rw [h2] at hblk
      simp at hblk
  · intro f hf
    rcases List.mem_append.1 hf with hf | hf
    · have hf' := h.ok f (by simp [hf])
      exact hf'.same (fun k e => u.block k (fun e' => hap f hf (some b, ys) (by simp) k e (by rw [e'])))
    · rw [List.mem_singleton.1 hf]
      exact ⟨hd, fun e => (by cases e), fun c e => (by cases e; exact ⟨(hok.blk b rfl).1, hb⟩), by rw [hl]; exact hok.len⟩
  · rw [List.pairwise_append]
    refine ⟨(List.pairwise_append.1 h.apart).1, List.pairwise_singleton _ _, fun a ha c hc => ?_⟩
    rw [List.mem_singleton.1 hc]
    exact fun x hx => hap a ha (some b, ys) (by simp) x hx

theorem splice_take {xs ys : List Nat} {o k : Nat} (h : o + ys.length ≤ xs.length) (hk : k < ys.length) : (splice xs o (ys.take k)).set (o + k) (ys.getD k 0) = splice xs o (ys.take (k + 1)) := by
  have hl : (splice xs o (ys.take k)).length = xs.length := splice_len (by simp; omega)
  have h1 : (ys.take k).length = k := by simp; omega
  rw [← splice_one (by omega)]
  have := splice_splice xs (ys.take k) [ys.getD k 0] o (by rw [h1]; simp; omega)
  rw [h1] at this
  rw [this]
  congr 1
  rw [List.take_succ_eq_append_getElem hk]
  simp [List.getD_eq_getElem?_getD, hk]

/-- What put hands back and leaves. -/
def PutOut (e : Ending) (B : Nat) (w w' : World) (m : Nat) (Fs : List Fr) (off : Nat) (zs : List Nat) : Prop :=
  (Has Fs off zs.length ∧ e = .returned (.bool true) ∧ MOut B w w' m (putF Fs off zs)) ∨ (¬ Has Fs off zs.length ∧ e = .returned (.bool false) ∧ MOut B w w' m Fs)

set_option maxRecDepth 10000 in
set_option maxHeartbeats 2000000 in
theorem put_any {B m : Nat} {w : World} {v : Value} {Fs : List Fr} {bo : Option Addr} {zn zcap : Nat} (off : Nat) (zs : List Nat) (ho : off < 4294967296) (hz32 : zs.length < 4294967296) (h : MSt B w m v Fs) (hr : Rd w (.slice bo zn zcap) zs) (hap : ∀ a, bo = some a → ∀ f ∈ Fs, f.1 ≠ some a.block) :
    Calls Saag.prog 127 #[.pointer (some ⟨m, 0, none⟩), .int .u32 (off : Int), .slice bo zn zcap] w fun e w' => PutOut e B w w' m Fs off zs := by
  obtain ⟨bo', zn', zcap', e, hzn, hzc, hzd, hzr⟩ := hr
  cases e
  have T := hide (has_any off zn ho (by omega) h)
  have HS := hide h
  have HB := hide h.hB
  have hwz : IntKind.u32.wrap (zn : Int) = (zn : Int) := by rw [IntKind.wrap_u32]; omega
  have HZR := hide hzr
  have HAP := hide hap
  unfold PutOut
  rw [hzn]
  have Hzn := hide hzn
  clear h hzr hap hzn
  go_enter Saag.func127, Saag.ntmps127
  go_wp2_with fail
  refine (unhide T).mono ?_
  rintro e w' ⟨⟨b, rfl, hb⟩, q, rfl⟩
  have HSV := hide ((unhide HS).drewN q)
  have HCV := hide (Mch.ofBelow (unhide HB) (below_drewN w q))
  have HZV : Hid (Row (w.drewN q) bo zs) := HZR
  clear T HS HZR
  generalize w.drewN q = W at *
  cases b with
  | false =>
    have hn : ¬ Has Fs off zn := fun h => by have := hb.2 h; cases this
    clear hb
    go_wp2
    go_ret
    exact .inr ⟨hn, rfl, _, unhide HSV, unhide HCV⟩
  | true =>
    have hh := hb.1 rfl
    clear hb
    rcases fr_cases Fs with rfl | ⟨Gs, f, rfl⟩
    · exact absurd rfl hh.1
    · have hle : off + zn ≤ f.2.length := by have := hh.2; rwa [topL_app] at this
      by_cases h0 : zn = 0
      · subst h0
        have hz0 : zs = [] := List.eq_nil_of_length_eq_zero (unhide Hzn)
        have he : putF (Gs ++ [f]) off zs = Gs ++ [f] := by rw [putF_app, hz0, splice_nil]
        have HE := hide he
        have HH := hide hh
        clear he hz0 hh
        go_wp2
        go_loopw [18] (fun i wr => i = .int .i64 0 ∧ wr = W) (fun _ _ => 0)
        case atStart => exact ⟨rfl, rfl⟩
        case round =>
          obtain ⟨rfl, rfl⟩ := hrel
          go_wp2
          go_ret
          exact .inl ⟨unhide HH, rfl, _, by rw [unhide HE]; exact unhide HSV, unhide HCV⟩
      · have hS := unhide HSV
        obtain ⟨p, cap, cur, rfl, hp, hpb, hc, _, cp⟩ := hS.fr.last
        have cm := hS.box.cell
        have hok := hS.fr.ok f (by simp)
        have hfew := hS.fr.few
        rw [List.length_append, List.length_singleton] at hfew
        obtain ⟨ob, ys⟩ := f
        simp only at hle
        cases ob with
        | none => have := hok.nl rfl; simp only at this; subst this; simp at hle; omega
        | some b =>
          have hblk := (hok.blk b rfl).2
          have hbB := (hok.blk b rfl).1
          have hdig := hok.dig
          have hyl := hok.len
          simp only at hblk hdig hyl
          have efv : fv (some b, ys) = .slice (some ⟨b, 0, none⟩) ys.length ys.length := rfl
          rw [efv] at cp
          have nmb : m ≠ b := fun e => by
            have h1 := hS.box
            unfold MBox at h1
            unfold Blk at hblk
            rw [e, hblk] at h1
            simp at h1
          have npb : p ≠ b := fun e => by
            unfold Blk at hblk
            rw [e, hblk] at hpb
            simp at hpb
          have hab : ∀ a, bo = some a → a.block ≠ b := fun a e => fun e' => unhide HAP a e (some b, ys) (by simp) (by rw [e'])
          have HAB := hide hab
          have HF := hide hS.fr
          have HX := hide hS.box
          have HLE := hide hS.le
          have HK := hide hblk
          have HD := hide hdig
          have hpf := hide (putF_app Gs (some b, ys) off zs)
          have HH := hide hh
          clear hblk hok hpb hS HSV hdig hab HAP hh
          generalize hn : Gs.length + 1 = n at *
          generalize hj : Gs.length = j at *
          have hwr : IntKind.i64.wrap ((n : Int) - 1) = (j : Int) := by rw [IntKind.wrap_i64]; omega
          have hjn : (j : Int) < (n : Int) := by omega
          have hwo : IntKind.i64.wrap (off : Int) = (off : Int) := by rw [IntKind.wrap_i64]; omega
          have Hn := hide hn
          have Hj := hide hj
          clear hn hj
          go_wp2
          go_loopw [18] (fun i wr => ∃ k : Nat, k ≤ zn ∧ i = .int .i64 k ∧ Hid (Blk wr b (splice ys off (zs.take k))) ∧ Hid (Upd W wr b)) (fun i _ => zn - (intOf i).toNat)
          case atStart => exact ⟨0, by omega, rfl, hide (by rw [List.take_zero, splice_nil]; exact unhide HK), hide (Upd.refl _ _)⟩
          case round =>
            obtain ⟨k, hk, rfl, hb, hu⟩ := hrel
            by_cases hkl : k < zn
            · have hkl' : (k : Int) < (zn : Int) := by omega
              have hzl := unhide Hzn
              have hlk : (splice ys off (zs.take k)).length = ys.length := splice_len (by simp; omega)
              obtain ⟨z, hck⟩ : ∃ z, wr.cell? ⟨b, off + k, none⟩ = some z := ⟨_, (unhide hb).cell (off + k) (by omega)⟩
              have hfk := (unhide hb).frozen (off + k)
              have hset := (unhide hb).set (off + k) (zs.getD k 0) (x := ((zs.getD k 0 : Nat) : Int)) rfl
              rw [splice_take (by omega) (by omega)] at hset
              have hrw : Row wr bo zs := (unhide HZV).upd (unhide hu) (unhide HAB)
              obtain ⟨zb, zo, hbo, cz⟩ := hrw k (by omega)
              subst hbo
              generalize zs.getD k 0 = x at *
              have cm1 := (World.cell?_of_block (w := W) (w' := wr) (a := ⟨m, 0, none⟩) ((unhide hu).block m nmb)).trans cm
              have cp1 := (World.cell?_of_block (w := W) (w' := wr) (a := ⟨p, j, none⟩) ((unhide hu).block p npb)).trans cp
              obtain ⟨si, hsi⟩ : ∃ si, si = off + k := ⟨_, rfl⟩
              rw [← hsi] at hck hfk hset
              have hadd : IntKind.i64.wrap ((off : Int) + (k : Int)) = (si : Int) := by rw [IntKind.wrap_i64]; omega
              have hsiL : (si : Int) < (ys.length : Int) := by omega
              have HSet := hide hset
              have HU2 := hide ((unhide hu).trans (Upd.setCell wr ⟨b, si, none⟩ (.int .u8 (x : Int))))
              clear hset hrw hb hu hsi hzl hlk cm cp
              generalize ys.length = L at *
              go_wp2
              go_region_held3 (fun w' => w'.cell? ⟨m, 0, none⟩ = some (.slice (some ⟨p, 0, none⟩) n cap) ∧ w'.cell? ⟨p, j, none⟩ = some (.slice (some ⟨b, 0, none⟩) L L))
                (first | exact ⟨cm1, cp1⟩ | exact ⟨(cell_far_drew _ _ _ _ _ nmb).trans cm1, (cell_far_drew _ _ _ _ _ npb).trans cp1⟩) (fail)
              have HSet' : Hid (Blk (wr.setCell ⟨b, si, none⟩ (.int .u8 (x : Int))).drew b (splice ys off (zs.take (k + 1)))) := HSet
              have HU' : Hid (Upd W (wr.setCell ⟨b, si, none⟩ (.int .u8 (x : Int))).drew b) := hide ((unhide HU2).trans (Upd.drewN _ 1 _))
              rename_i hHeld
              clear hHeld cm1 cp1 HSet HU2 hck hfk cz
              generalize (wr.setCell ⟨b, si, none⟩ (.int .u8 (x : Int))).drew = W5 at *
              go_wp2
              go_roundw
              case rel => exact ⟨k + 1, by omega, by go_num, HSet', HU'⟩
              case measure => simp [intOf]; omega
            · have hkl' : ¬ (k : Int) < (zn : Int) := by omega
              obtain rfl : k = zn := by omega
              have hzl := unhide Hzn
              have hb' := unhide hb
              rw [← hzl, List.take_length] at hb'
              have hF := (unhide HF).wrote (unhide hu) hb' (splice_len (by omega)) (splice_dig (unhide HD) hzd _)
              have hM : MSt B wr m (.slice (some ⟨p, 0, none⟩) n cap) (putF (Gs ++ [(some b, ys)]) off zs) := ⟨(unhide HX).upd (unhide hu) nmb, by rw [unhide hpf]; exact hF, unhide HLE⟩
              have HM := hide hM
              have HC := hide ((unhide HCV).trans (Mch.ofUpd (unhide hu) hbB (unhide HK) (.inl rfl)))
              clear hb' hF hM hb hu hzl
              go_wp2
              go_ret
              exact .inl ⟨unhide HH, rfl, _, unhide HM, unhide HC⟩

end Go.Proofs.Ygcsaa
