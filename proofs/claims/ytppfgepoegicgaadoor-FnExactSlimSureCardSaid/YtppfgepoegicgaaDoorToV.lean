import Derived.Test.YtppfgepoegicgaaDoorTo
import Derived.Deep.DrawnRows
namespace Go.Proofs.YtppfgepoegicgaaDoor
open Go Go.RowKit

theorem Tryd.info_Val : (Tryd.prog.info? 33).map (fun i => (i.zero, i.size, i.bytes)) = some (some (.agg #[.int .i64 0, .int .i64 0, .string ⟨#[]⟩, .slice none 0 0, .slice none 0 0]), 5, 80) := by kernel_rfl

def ToVal (v : Val) : Prop := ∀ (us : List Value) (w : World) (B : Nat), B ≤ w.heap.size → RDv w B (valDs v) us → SmallDs (valDs v) →
  Calls Tryd.prog 23 #[.agg us.toArray] w fun e w' => ∃ vs fp, e = .returned (.agg vs.toArray) ∧ ODv w' (valDs v) vs fp ∧ Fresh w w' fp ∧ Below w.heap.size w w'
def ToVals (vs : List Val) : Prop := ∀ (A : Option Addr) (c : Nat) (w : World) (B : Nat), B ≤ w.heap.size → RD w B (.row 5 vs.length (valsDs vs)) (.slice A vs.length c) → SmallD (.row 5 vs.length (valsDs vs)) →
  Calls Tryd.prog 43 #[.slice A vs.length c] w fun e w' => ∃ v fp, e = .returned v ∧ OD w' (.row 5 vs.length (valsDs vs)) v fp ∧ Fresh w w' fp ∧ Below w.heap.size w w'

theorem valsDs_append : ∀ a b : List Val, valsDs (a ++ b) = valsDs a ++ valsDs b
  | [], _ => rfl
  | s :: a, b => by simp [valsDs, valsDs_append a b]
theorem smallDs_mem : ∀ {vs : List Val} {v : Val}, SmallDs (valsDs vs) → v ∈ vs → SmallDs (valDs v)
  | [], _, _, h => by cases h
  | x :: vs, v, h, hm => by
    have h2 := smallDs_append.1 h
    rcases List.mem_cons.1 hm with rfl | hm
    · exact h2.1
    · exact smallDs_mem h2.2 hm

attribute [local go_sem ↓] Go.wp_at_zero Go.wp_at_succ
set_option maxHeartbeats 1000000 in
theorem toVals_of (vs : List Val) (ih : ∀ v ∈ vs, ToVal v) : ToVals vs := by
  intro A c w B hB h hs
  have hn : vs.length ≤ 1048576 := hs.1
  have hsm := Lib.hid hs.2
  have H := Lib.hid h
  have IH := Lib.hid ih
  clear h hs ih
  have hmk := make_row (P := Tryd.prog) [.int .i64 0, .int .i64 0, .string ⟨#[]⟩, .slice none 0 0, .slice none 0 0] Tryd.underlying31 Tryd.info_Val rfl rfl vs.length (by omega) (by omega)
  go_enter Tryd.func43, Tryd.ntmps43
  go_wp2
  go_loopw [4] (fun i w' => ∃ (k : Nat) (ks : List Val), k ≤ vs.length ∧ i = .int .i64 k ∧ vs = ks ++ vs.drop k ∧ ToInv w' w.heap.size 33 5 [.int .i64 0, .int .i64 0, .string ⟨#[]⟩, .slice none 0 0, .slice none 0 0] vs.length k (valsDs ks) ∧ Below w.heap.size w w') (fun i _ => vs.length - (intOf i).toNat)
  case atStart => exact ⟨0, [], by omega, rfl, rfl, ToInv.start _ _ _ _ _, below_box _ _⟩
  case round =>
    obtain ⟨k, ks, hk, rfl, hks, hT, hb⟩ := hrel
    by_cases hlt : k < vs.length
    · obtain ⟨ad, v, c0, c1, c2, c3, c4, rfl, hbl, hv, hm, hd, x0, x1, x2, x3, x4⟩ := row5_at (H.out.upto (hb.mono hB) (Nat.le_refl _)) rfl hlt
      have HK := Lib.hid hks
      have HT := Lib.hid hT
      clear hks hT
      have hz := hb.size
      go_wp2_with fail
      refine (IH.out v hm _ wr B (by omega) hv (smallDs_mem hsm.out hm)).mono ?_
      rintro e w1 ⟨us1, f1, rfl, hO, hF, hb1⟩
      obtain ⟨d0, d1, d2, A3, n3, c3', A4, n4, c4', rfl⟩ := valDs_shape hO.rd'
      have hT1 := HT.out.below hb1
      have hz1 := hb1.size
      have t0 := hT1.there hlt rfl
      obtain ⟨⟨y0, q0⟩, z0⟩ := t0 0 (by omega)
      obtain ⟨⟨y1, q1⟩, z1⟩ := t0 1 (by omega)
      obtain ⟨⟨y2, q2⟩, z2⟩ := t0 2 (by omega)
      obtain ⟨⟨y3, q3⟩, z3⟩ := t0 3 (by omega)
      obtain ⟨⟨y4, q4⟩, z4⟩ := t0 4 (by omega)
      rw [Nat.add_zero] at q0 z0
      have HS := Lib.hid (HT.out.step hlt rfl hb1 hO rfl hF)
      have HO := Lib.hid hO
      clear hO hT1 t0
      go_wp2
      go_roundw
      case rel => exact ⟨k + 1, ks ++ [v], by omega, by go_num, by rw [List.append_assoc, List.singleton_append, ← hd.out]; exact HK.out, by rw [valsDs_append, show valsDs [v] = valDs v by simp [valsDs]]; exact HS.out, setAll_below (o := k * 5) [_, _, _, _, _] (Nat.le_refl _) (hb.trans (hb1.mono hz))⟩
      case measure => simp [intOf]; omega
    · have e : k = vs.length := by omega
      subst e
      rw [List.drop_length, List.append_nil] at hks
      rw [← hks] at hT
      have HT := Lib.hid hT
      clear hks hT
      go_wp2
      go_ret
      obtain ⟨fp, h1, h2⟩ := HT.out.done (Nat.le_refl _) (by omega)
      exact ⟨_, fp, rfl, h1, h2, hb⟩

set_option maxHeartbeats 1000000 in
theorem toVal_of (v : Val) (ih : ∀ kind n s keys list, v = .mk kind n s keys list → ToVals list) : ToVal v := by
  intro us w B hB h hsm
  obtain ⟨kind, n, s, keys, list, A1, c1, A2, c2, rfl, rfl, hs, hk, hl⟩ := valDs_open h
  have IH := Lib.hid (ih _ _ _ _ _ rfl)
  simp only [valDs, SmallDs] at hsm
  have HS1 := Lib.hid hsm.2.2.2.1
  have HS2 := Lib.hid hsm.2.2.2.2.1
  clear ih h hsm
  go_enter Tryd.func23, Tryd.ntmps23
  have hbx := fun o1 o2 o3 => below_box3 w o1 o2 o3
  go_wp2_with fail
  refine (toStringS_calls keys A1 c1 _ B (by simp; omega) (hk.below ((hbx _ _ _).mono hB)) HS1.out).mono ?_
  rintro e w1 ⟨v1, f1, rfl, hO1, hF1, hb1⟩
  obtain ⟨A3, c3, n3, rfl⟩ := row_shape hO1.rd'
  obtain ⟨hb, hz, bP, bR, bO⟩ := boxes3 (P := [_, _, _, _, _]) (R := [_, _, _, _, _]) (O := [_, _, _, _, _]) hb1
  have HO1 := Lib.hid hO1
  have HF1 := Lib.hid hF1
  have HbP := Lib.hid bP
  have HbR := Lib.hid bR
  have HbO := Lib.hid bO
  obtain ⟨cP, fP⟩ := blk_rules bP
  obtain ⟨cO, fO⟩ := blk_rules bO
  clear hO1 hF1 bP bR bO hb1
  go_wp2_with fail
  refine (IH.out A2 c2 _ B (by simp [World.setCell]; omega) (hl.below ((hb.mono hB).setCell (by simp; omega) _)) HS2.out).mono ?_
  rintro e w2 ⟨v2, f2, rfl, hO2, hF2, hb2⟩
  obtain ⟨A4, c4, n4, rfl⟩ := row_shape hO2.rd'
  obtain ⟨hz2, _, _, hbb, hkk⟩ := bset hb2
  have bR2 := HbR.out.far_then (by simp) hb2
  have bO2 := HbO.out.set_then hb2
  have HO2 := Lib.hid hO2
  have HF2 := Lib.hid hF2
  have HB2 := Lib.hid hbb
  have HKK := Lib.hid hkk
  have HbR2 := Lib.hid bR2
  have HbO2 := Lib.hid bO2
  obtain ⟨cR2, fR2⟩ := blk_rules bR2
  obtain ⟨cO2, fO2⟩ := blk_rules bO2
  clear hO2 hF2 hbb hkk hb2 cP fP cO fO bR2 bO2
  go_wp2
  refine bodyPost_ret (v := .agg #[.int .i64 kind, .int .i64 n, .string s, .slice A3 n3 c3, .slice A4 n4 c4]) (by simp [results, Tryd.results23, go_sem, cR2]) rfl ?_
  obtain ⟨W, eW⟩ : ∃ W, W = setAll (w2.setCell ⟨w.heap.size + 1 + 1, 4, none⟩ (.slice A4 n4 c4)) (w.heap.size + 1) 0 [.int .i64 kind, .int .i64 n, .string s, .slice A3 n3 c3, .slice A4 n4 c4] := ⟨_, rfl⟩
  show ∃ vs fp, _ ∧ ODv (setAll (w2.setCell ⟨w.heap.size + 1 + 1, 4, none⟩ (.slice A4 n4 c4)) (w.heap.size + 1) 0 [.int .i64 kind, .int .i64 n, .string s, .slice A3 n3 c3, .slice A4 n4 c4]) _ vs fp ∧ Fresh w (setAll (w2.setCell ⟨w.heap.size + 1 + 1, 4, none⟩ (.slice A4 n4 c4)) (w.heap.size + 1) 0 [.int .i64 kind, .int .i64 n, .string s, .slice A3 n3 c3, .slice A4 n4 c4]) fp ∧ Below w.heap.size w (setAll (w2.setCell ⟨w.heap.size + 1 + 1, 4, none⟩ (.slice A4 n4 c4)) (w.heap.size + 1) 0 [.int .i64 kind, .int .i64 n, .string s, .slice A3 n3 c3, .slice A4 n4 c4])
  rw [← eW]
  have hsz : W.heap.size = w2.heap.size := by rw [eW, setAll_size]; simp [World.setCell]
  have hblk : ∀ b, b ≠ w.heap.size + 1 → b ≠ w.heap.size + 1 + 1 → W.heap[b]? = w2.heap[b]? := fun b h1 h2 => by
    rw [eW, setAll_other _ _ _ _ _ h1, Below.heap_setCell _ _ _ _ h2]
  have hF1 := HF1.out
  have hF2 := HF2.out
  have hs1 : (((w.alloc (.cells #[.int .i64 kind, .int .i64 n, .string s, .slice A1 keys.length c1, .slice A2 list.length c2] 25)).alloc (.cells #[.int .i64 0, .int .i64 0, .string ⟨#[]⟩, .slice none 0 0, .slice none 0 0] 33)).alloc (.cells #[.int .i64 kind, .int .i64 n, .string s, .slice none 0 0, .slice none 0 0] 33)).heap.size = w.heap.size + 1 + 1 + 1 := by simp
  have hs2 : (w1.setCell ⟨w.heap.size + 1 + 1, 3, none⟩ (.slice A3 n3 c3)).heap.size = w1.heap.size := by simp [World.setCell]
  have g1 : ∀ b ∈ f1, w.heap.size + 1 + 1 + 1 ≤ b ∧ b < w1.heap.size := fun b hb => by
    have := hF1.2 b hb
    rw [hs1] at this
    exact this
  have g2 : ∀ b ∈ f2, w1.heap.size ≤ b ∧ b < w2.heap.size := fun b hb => by
    have := hF2.2 b hb
    rw [hs2] at this
    exact this
  refine ⟨[_, _, _, _, _], f1 ++ f2, rfl, ?_, ⟨List.nodup_append.2 ⟨hF1.1, hF2.1, fun a ha b hb e => ?_⟩, fun b hb => ?_⟩, ?_⟩
  · simp only [valDs]
    have k1 := OD.keep (w' := W) _ _ f1 (fun b hb => by
      have := g1 b hb
      rw [hblk b (by omega) (by omega)]
      exact HKK.out b (by omega) (by show b ≠ w.heap.size + 1 + 1; omega)) HO1.out
    have k2 := OD.keep (w' := W) _ _ f2 (fun b hb => by
      have := g2 b hb
      exact hblk b (by omega) (by omega)) HO2.out
    exact ⟨_, _, [], _, rfl, rfl, ⟨rfl, rfl⟩, _, _, [], _, rfl, rfl, ⟨rfl, rfl⟩, _, _, [], _, rfl, rfl, ⟨rfl, hs, rfl⟩, _, _, f1, _, rfl, rfl, k1, _, _, f2, [], rfl, by simp, k2, rfl, rfl⟩
  · have := g1 a ha
    have := g2 b hb
    omega
  · rw [hsz]
    rcases List.mem_append.1 hb with hb | hb
    · have := g1 b hb
      omega
    · have := g2 b hb
      omega
  · rw [eW]
    exact setAll_below _ (by omega) ((hb.trans (HB2.out _ (by show _ ≤ w.heap.size + 1 + 1; omega) (by omega))).setCell (by show _ ≤ w.heap.size + 1 + 1; omega) _)

theorem toVal_calls : ∀ v, ToVal v := Val.ind fun kind n s keys list ih => toVal_of _ fun _ _ _ _ _ e => by
  injection e with e1 e2 e3 e4 e5
  subst e5
  exact toVals_of _ ih
theorem toVals_calls (vs : List Val) : ToVals vs := toVals_of vs fun v _ => toVal_calls v
end Go.Proofs.YtppfgepoegicgaaDoor
