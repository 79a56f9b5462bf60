/- Parts of the proof: FiltTo. -/
import Derived.Test.YtppfgepoegicgaaDoorGb
namespace Go.Proofs.YtppfgepoegicgaaDoor
open Go Go.RowKit

set_option maxRecDepth 100000 in
set_option maxHeartbeats 2000000 in
theorem toFilt_of (x : Filt) (ih : ∀ kind n s v kids, x = .mk kind n s v kids → ToFilts kids) : ToFilt x := by
  intro us w B hB h hsm
  obtain ⟨kind, n, s, v, kids, a3, a4, a5, A6, n6, q6, A7, n7, q7, A8, q8, rfl, rfl, hs, hv, hk⟩ := filtDs_all h
  have IH := Lib.hid (ih _ _ _ _ _ rfl)
  simp only [filtDs, SmallDs] at hsm
  have hsm2 := smallDs_append.1 hsm.2.2.2
  have HS1 := Lib.hid hsm2.1
  have HS2 := Lib.hid hsm2.2.1
  clear ih h hsm hsm2
  go_enter Tryd.func8, Tryd.ntmps8
  have hbx := fun o1 o2 o3 => below_box3 w o1 o2 o3
  go_wp2_with fail
  refine (toVal_calls v [_, _, _, _, _] _ B (by simp; omega) (hv.below ((hbx _ _ _).mono hB)) HS1.out).mono ?_
  rintro e w1 ⟨vs1, f1, rfl, hO1, hF1, hb1⟩
  obtain ⟨d0, d1, d2, A3, n3, c3, A4, n4, c4, rfl⟩ := valDs_shape hO1.rd'
  obtain ⟨hb, hz, bP, bR, bO⟩ := boxes3 (P := [_, _, _, _, _, _, _, _, _]) (R := [_, _, _, _, _, _, _, _, _]) (O := [_, _, _, _, _, _, _, _, _]) hb1
  have HO1 := Lib.hid hO1
  have HF1 := Lib.hid hF1
  have HbR := Lib.hid bR
  have HbO := Lib.hid bO
  obtain ⟨cP, fP⟩ := blk_rules bP
  obtain ⟨cO, fO⟩ := blk_rules bO
  clear hO1 hF1 bP bR bO hb1
  go_wp2_with fail
  obtain ⟨W1, eW1⟩ : ∃ W1, W1 = setAll w1 (w.heap.size + 1 + 1) 3 [.int .i64 d0, .int .i64 d1, .string d2, .slice A3 n3 c3, .slice A4 n4 c4] := ⟨_, rfl⟩
  have hz1 : W1.heap.size = w1.heap.size := by rw [eW1, setAll_size]
  have hbW : Below w.heap.size w W1 := by rw [eW1]; exact setAll_below _ (by omega) hb
  have bO1 : Blk W1 (w.heap.size + 1 + 1) 36 ([.int .i64 kind, .int .i64 n, .string s] ++ ([.int .i64 d0, .int .i64 d1, .string d2, .slice A3 n3 c3, .slice A4 n4 c4] ++ [.slice none 0 0])) := by
    rw [eW1]
    exact Blk.setAll (pre := [.int .i64 kind, .int .i64 n, .string s]) (old := [.int .i64 0, .int .i64 0, .string ⟨#[]⟩, .slice none 0 0, .slice none 0 0]) (rest := [.slice none 0 0]) [.int .i64 d0, .int .i64 d1, .string d2, .slice A3 n3 c3, .slice A4 n4 c4] rfl HbO.out
  have bR1 : Blk W1 (w.heap.size + 1) _ _ := HbR.out.same (by rw [eW1]; exact setAll_other _ _ _ _ _ (by omega))
  have ho1 : ∀ b, b ≠ w.heap.size + 1 + 1 → W1.heap[b]? = w1.heap[b]? := fun b hb => by rw [eW1]; exact setAll_other _ _ _ _ _ hb
  show Calls _ _ _ (setAll w1 (w.heap.size + 1 + 1) 3 [.int .i64 d0, .int .i64 d1, .string d2, .slice A3 n3 c3, .slice A4 n4 c4]) _
  rw [← eW1]
  refine (IH.out A8 q8 W1 B (by omega) (hk.below (hbW.mono hB)) HS2.out).mono ?_
  rintro e w2 ⟨v2, f2, rfl, hO2, hF2, hb2⟩
  obtain ⟨A5, c5, n5, rfl⟩ := row_shape hO2.rd'
  have bR2 := bR1.below hb2
  have bO2 := bO1.below hb2
  have hz2 := hb2.size
  have HO2 := Lib.hid hO2
  have HF2 := Lib.hid hF2
  have HK2 := Lib.hid hb2.block
  have HBW := Lib.hid (hbW.trans (hb2.mono (by omega)))
  have HO1' := Lib.hid ho1
  obtain ⟨cR2, fR2⟩ := blk_rules bR2
  obtain ⟨cO2, fO2⟩ := blk_rules bO2
  clear hO2 hF2 hb2 cP fP cO fO bR2 bO2 eW1 ho1 bO1 bR1 hbW
  go_wp2
  refine bodyPost_ret (v := .agg #[.int .i64 kind, .int .i64 n, .string s, .int .i64 d0, .int .i64 d1, .string d2, .slice A3 n3 c3, .slice A4 n4 c4, .slice A5 n5 c5]) (by simp [results, Tryd.results8, go_sem, cR2]) rfl ?_
  obtain ⟨W, eW⟩ : ∃ W, W = setAll (w2.setCell ⟨w.heap.size + 1 + 1, 8, none⟩ (.slice A5 n5 c5)) (w.heap.size + 1) 0 [.int .i64 kind, .int .i64 n, .string s, .int .i64 d0, .int .i64 d1, .string d2, .slice A3 n3 c3, .slice A4 n4 c4, .slice A5 n5 c5] := ⟨_, rfl⟩
  have hgoal : ODv W (filtDs (.mk kind n s v kids)) [.int .i64 kind, .int .i64 n, .string s, .int .i64 d0, .int .i64 d1, .string d2, .slice A3 n3 c3, .slice A4 n4 c4, .slice A5 n5 c5] (f1 ++ f2) ∧ Fresh w W (f1 ++ f2) ∧ Below w.heap.size w W := by
    have hsz : W.heap.size = w2.heap.size := by rw [eW, setAll_size]; simp [World.setCell]
    have hblk : ∀ b, b ≠ w.heap.size + 1 → b ≠ w.heap.size + 1 + 1 → W.heap[b]? = w2.heap[b]? := fun b h1 h2 => by
      rw [eW, setAll_other _ _ _ _ _ h1, Below.heap_setCell _ _ _ _ h2]
    have hF1 := HF1.out
    have hF2 := HF2.out
    have g1 : ∀ b ∈ f1, w.heap.size + 1 + 1 + 1 ≤ b ∧ b < w1.heap.size := fun b hb => by
      have := hF1.2 b hb
      simp at this
      omega
    have g2 : ∀ b ∈ f2, w1.heap.size ≤ b ∧ b < w2.heap.size := fun b hb => by
      have := hF2.2 b hb
      rw [hz1] at this
      exact this
    refine ⟨?_, ⟨List.nodup_append.2 ⟨hF1.1, hF2.1, fun a ha b hb e => ?_⟩, fun b hb => ?_⟩, ?_⟩
    · simp only [filtDs]
      have k1 := ODv.keep (w' := W) _ _ f1 (fun b hb => by
        have := g1 b hb
        rw [hblk b (by omega) (by omega), HK2.out b (by omega)]
        exact HO1'.out b (by omega)) HO1.out
      have k2 := OD.keep (w' := W) _ _ f2 (fun b hb => by
        have := g2 b hb
        exact hblk b (by omega) (by omega)) HO2.out
      have k3 : ODv W [.row 9 kids.length (filtsDs kids)] [.slice A5 n5 c5] f2 := ⟨_, _, f2, [], rfl, (List.append_nil f2).symm, k2, rfl, rfl⟩
      exact ⟨_, _, [], _, rfl, rfl, ⟨rfl, rfl⟩, _, _, [], _, rfl, rfl, ⟨rfl, rfl⟩, _, _, [], _, rfl, rfl, ⟨rfl, hs, rfl⟩, k1.append k3⟩
    · have := g1 a ha
      have := g2 b hb
      omega
    · rw [hsz]
      rcases List.mem_append.1 hb with hb | hb
      · have := g1 b hb
        omega
      · have := g2 b hb
        omega
    · rw [eW]
      exact setAll_below _ (by omega) (HBW.out.setCell (by show _ ≤ w.heap.size + 1 + 1; omega) _)
  rw [eW] at hgoal
  exact ⟨[_, _, _, _, _, _, _, _, _], f1 ++ f2, rfl, hgoal⟩
theorem toFilt_calls : ∀ v, ToFilt v := Filt.ind fun kind n s v kids ih => toFilt_of _ fun _ _ _ _ _ e => by
  injection e with e1 e2 e3 e4 e5
  subst e5
  exact toFilts_of _ ih
end Go.Proofs.YtppfgepoegicgaaDoor
