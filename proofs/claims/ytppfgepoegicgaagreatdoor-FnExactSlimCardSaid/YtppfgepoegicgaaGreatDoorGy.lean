/- The program's clone of a filter: it reads as the filter does, in blocks that were made by the call. -/
import Derived.Test.YtppfgepoegicgaaGreatDoorGb
import Derived.Test.YtppfgepoegicgaaGreatDoorZCopyV
namespace Go.Proofs.YtppfgepoegicgaaGreatDoor
open Go Go.RowKit

set_option maxRecDepth 100000 in
set_option maxHeartbeats 2000000 in
theorem toFilt_of (x : Filt) (ih : ∀ kind n s v kids, x = .mk kind n s v kids → ToFilts kids) : ToFilt x := by
  intro us w B hB h hsm
  obtain ⟨kind, n, s, v, kids, a3, a4, a5, A6, n6, q6, A7, n7, q7, A8, q8, rfl, rfl, hs, hv, hk⟩ := filtDs_all h
  have IH := Lib.hid (ih _ _ _ _ _ rfl)
  simp only [filtDs, SmallDs] at hsm
  have hsm2 := smallDs_append.1 hsm.2.2.2
  have HS1 := Lib.hid hsm2.1
  have HS2 := Lib.hid hsm2.2.1
  clear ih h hsm hsm2
  go_enter Tryz.func6, Tryz.ntmps6
  have hbx := fun o1 o2 o3 => below_box3 w o1 o2 o3
  go_wp2_with fail
  refine (toVal_calls v [_, _, _, _, _] _ B (by simp; omega) (hv.below ((hbx _ _ _).mono hB)) HS1.out).mono ?_
  rintro e w1 ⟨vs1, f1, rfl, hO1, hF1, hb1⟩
  obtain ⟨d0, d1, d2, A3, n3, c3, A4, n4, c4, rfl⟩ := valDs_shape hO1.rd'
  obtain ⟨hb, hz, bP, bR, bO⟩ := boxes3 (P := [_, _, _, _, _, _, _, _, _]) (R := [_, _, _, _, _, _, _, _, _]) (O := [_, _, _, _, _, _, _, _, _]) hb1
  have HO1 := Lib.hid hO1
  have HF1 := Lib.hid hF1
  have HbR := Lib.hid bR
  have HbO := Lib.hid bO
  obtain ⟨cP, fP⟩ := blk_rules bP
  obtain ⟨cO, fO⟩ := blk_rules bO
  clear hO1 hF1 bP bR bO hb1
  go_wp2_with fail
  obtain ⟨W1, eW1⟩ : ∃ W1, W1 = setAll w1 (w.heap.size + 1 + 1) 3 [.int .i64 d0, .int .i64 d1, .string d2, .slice A3 n3 c3, .slice A4 n4 c4] := ⟨_, rfl⟩
  have hz1 : W1.heap.size = w1.heap.size := by rw [eW1, setAll_size]
  have hbW : Below w.heap.size w W1 := by rw [eW1]; exact setAll_below _ (by omega) hb
  have bO1 : Blk W1 (w.heap.size + 1 + 1) 35 ([.int .i64 kind, .int .i64 n, .string s] ++ ([.int .i64 d0, .int .i64 d1, .string d2, .slice A3 n3 c3, .slice A4 n4 c4] ++ [.slice none 0 0])) := by
    rw [eW1]
    exact Blk.setAll (pre := [.int .i64 kind, .int .i64 n, .string s]) (old := [.int .i64 0, .int .i64 0, .string ⟨#[]⟩, .slice none 0 0, .slice none 0 0]) (rest := [.slice none 0 0]) [.int .i64 d0, .int .i64 d1, .string d2, .slice A3 n3 c3, .slice A4 n4 c4] rfl HbO.out
  have bR1 : Blk W1 (w.heap.size + 1) _ _ := HbR.out.same (by rw [eW1]; exact setAll_other _ _ _ _ _ (by omega))
  have ho1 : ∀ b, b ≠ w.heap.size + 1 + 1 → W1.heap[b]? = w1.heap[b]? := fun b hb => by rw [eW1]; exact setAll_other _ _ _ _ _ hb
  show Calls _ _ _ (setAll w1 (w.heap.size + 1 + 1) 3 [.int .i64 d0, .int .i64 d1, .string d2, .slice A3 n3 c3, .slice A4 n4 c4]) _
  rw [← eW1]
  refine (IH.out A8 q8 W1 B (by omega) (hk.below (hbW.mono hB)) HS2.out).mono ?_
  rintro e w2 ⟨v2, f2, rfl, hO2, hF2, hb2⟩
  obtain ⟨A5, c5, n5, rfl⟩ := row_shape hO2.rd'
  have bR2 := bR1.below hb2
  have bO2 := bO1.below hb2
  have hz2 := hb2.size
  have HO2 := Lib.hid hO2
  have HF2 := Lib.hid hF2
  have HK2 := Lib.hid hb2.block
  have HBW := Lib.hid (hbW.trans (hb2.mono (by omega)))
  have HO1' := Lib.hid ho1
  obtain ⟨cR2, fR2⟩ := blk_rules bR2
  obtain ⟨cO2, fO2⟩ := blk_rules bO2
  clear hO2 hF2 hb2 cP fP cO fO bR2 bO2 eW1 ho1 bO1 bR1 hbW
  go_wp2
  refine bodyPost_ret (v := .agg #[.int .i64 kind, .int .i64 n, .string s, .int .i64 d0, .int .i64 d1, .string d2, .slice A3 n3 c3, .slice A4 n4 c4, .slice A5 n5 c5]) (by simp [results, Tryz.results6, go_sem, cR2]) rfl ?_
  obtain ⟨W, eW⟩ : ∃ W, W = setAll (w2.setCell ⟨w.heap.size + 1 + 1, 8, none⟩ (.slice A5 n5 c5)) (w.heap.size + 1) 0 [.int .i64 kind, .int .i64 n, .string s, .int .i64 d0, .int .i64 d1, .string d2, .slice A3 n3 c3, .slice A4 n4 c4, .slice A5 n5 c5] := ⟨_, rfl⟩
  have hgoal : ODv W (filtDs (.mk kind n s v kids)) [.int .i64 kind, .int .i64 n, .string s, .int .i64 d0, .int .i64 d1, .string d2, .slice A3 n3 c3, .slice A4 n4 c4, .slice A5 n5 c5] (f1 ++ f2) ∧ Fresh w W (f1 ++ f2) ∧ Below w.heap.size w W := by
    have hsz : W.heap.size = w2.heap.size := by rw [eW, setAll_size]; simp [World.setCell]
    have hblk : ∀ b, b ≠ w.heap.size + 1 → b ≠ w.heap.size + 1 + 1 → W.heap[b]? = w2.heap[b]? := fun b h1 h2 => by
      rw [eW, setAll_other _ _ _ _ _ h1, Below.heap_setCell _ _ _ _ h2]
    have hF1 := HF1.out
    have hF2 := HF2.out
    have g1 : ∀ b ∈ f1, w.heap.size + 1 + 1 + 1 ≤ b ∧ b < w1.heap.size := fun b hb => by
      have := hF1.2 b hb
      simp at this
      omega
    have g2 : ∀ b ∈ f2, w1.heap.size ≤ b ∧ b < w2.heap.size := fun b hb => by
      have := hF2.2 b hb
      rw [hz1] at this
      exact this
    refine ⟨?_, ⟨List.nodup_append.2 ⟨hF1.1, hF2.1, fun a ha b hb e => ?_⟩, fun b hb => ?_⟩, ?_⟩
    · simp only [filtDs]
      have k1 := ODv.keep (w' := W) _ _ f1 (fun b hb => by
        have := g1 b hb
        rw [hblk b (by omega) (by omega), HK2.out b (by omega)]
        exact HO1'.out b (by omega)) HO1.out
      have k2 := OD.keep (w' := W) _ _ f2 (fun b hb => by
        have := g2 b hb
        exact hblk b (by omega) (by omega)) HO2.out
      have k3 : ODv W [.row 9 kids.length (filtsDs kids)] [.slice A5 n5 c5] f2 := ⟨_, _, f2, [], rfl, (List.append_nil f2).symm, k2, rfl, rfl⟩
      exact ⟨_, _, [], _, rfl, rfl, ⟨rfl, rfl⟩, _, _, [], _, rfl, rfl, ⟨rfl, rfl⟩, _, _, [], _, rfl, rfl, ⟨rfl, hs, rfl⟩, k1.append k3⟩
    · have := g1 a ha
      have := g2 b hb
      omega
    · rw [hsz]
      rcases List.mem_append.1 hb with hb | hb
      · have := g1 b hb
        omega
      · have := g2 b hb
        omega
    · rw [eW]
      exact setAll_below _ (by omega) (HBW.out.setCell (by show _ ≤ w.heap.size + 1 + 1; omega) _)
  rw [eW] at hgoal
  exact ⟨[_, _, _, _, _, _, _, _, _], f1 ++ f2, rfl, hgoal⟩
theorem toFilt_calls : ∀ v, ToFilt v := Filt.ind fun kind n s v kids ih => toFilt_of _ fun _ _ _ _ _ e => by
  injection e with e1 e2 e3 e4 e5
  subst e5
  exact toFilts_of _ ih
end Go.Proofs.YtppfgepoegicgaaGreatDoor
namespace Go.Proofs.YtppfgepoegicgaaGreatDoor
open Go Go.RowKit

def CopyFilt (f : Nat) (x : Filt) : Prop := ∀ (us : List Value) (w : World) (B : Nat), B ≤ w.heap.size → RDv w B (filtDs x) us → SmallDs (filtDs x) →
  Calls Tryz.prog f #[.agg us.toArray] w fun e w' => ∃ vs fp, e = .returned (.agg vs.toArray) ∧ ODv w' (filtDs x) vs fp ∧ Fresh w w' fp ∧ Below w.heap.size w w'
/-- How a copied filter is put together. -/
theorem filt_close {w w1 W : World} {kind n : Int} {s : ByteArray} {v : Val} {kids : List Filt} {vs : List Value} {c8 : Value} {fv fk : List Nat} {lo : Nat} (hs : s.size ≤ 9223372036854775807) (hv : ODv w1 (valDs v) vs fv) (hk : OD w1 (.row 9 kids.length (filtsDs kids)) c8 fk)
    (nv : fv.Nodup) (lv : ∀ b ∈ fv, lo ≤ b ∧ b < w1.heap.size) (nk : fk.Nodup) (lk : ∀ b ∈ fk, lo ≤ b ∧ b < w1.heap.size) (hd : ∀ a ∈ fv, ∀ b ∈ fk, a ≠ b) (hsz : w1.heap.size ≤ W.heap.size) (hlo : w.heap.size ≤ lo) (hkp : ∀ b, lo ≤ b → b < w1.heap.size → W.heap[b]? = w1.heap[b]?) :
    ODv W (filtDs (.mk kind n s v kids)) (.int .i64 kind :: .int .i64 n :: .string s :: (vs ++ [c8])) (fv ++ fk) ∧ Fresh w W (fv ++ fk) := by
  have k1 := ODv.keep (w' := W) _ _ fv (fun b hb => hkp b (lv b hb).1 (lv b hb).2) hv
  have k2 := OD.keep (w' := W) _ _ fk (fun b hb => hkp b (lk b hb).1 (lk b hb).2) hk
  refine ⟨?_, List.nodup_append.2 ⟨nv, nk, fun a ha b hb => hd a ha b hb⟩, fun b hb => ?_⟩
  · rw [filtDs]
    exact ⟨_, _, [], _, rfl, rfl, ⟨rfl, rfl⟩, _, _, [], _, rfl, rfl, ⟨rfl, rfl⟩, _, _, [], _, rfl, rfl, ⟨rfl, hs, rfl⟩, ODv.append k1 ⟨_, _, fk, [], rfl, by simp, k2, rfl, rfl⟩⟩
  · rcases List.mem_append.1 hb with hb | hb
    · have := lv b hb
      omega
    · have := lk b hb
      omega
set_option maxRecDepth 100000 in
set_option maxHeartbeats 8000000 in
theorem cloneF_of (x : Filt) (ih : ∀ kind n s v kids, x = .mk kind n s v kids → ∀ y ∈ kids, CopyFilt 20 y) : CopyFilt 20 x := by
  intro us w B hB h hsm
  obtain ⟨kind, n, s, v, kids, a3, a4, a5, A6, n6, q6, A7, n7, q7, A8, q8, rfl, rfl, hs, hv, hk⟩ := filtDs_all h
  have IH := Lib.hid (ih _ _ _ _ _ rfl)
  simp only [filtDs, SmallDs] at hsm
  obtain ⟨hsv, hsk⟩ := smallDs_append.1 hsm.2.2.2
  have hkn : kids.length ≤ 1048576 := hsk.1.1
  have HSV := Lib.hid hsv
  have HSK := Lib.hid hsk.1.2
  have HV := Lib.hid hv
  have HK := Lib.hid hk
  clear ih h hsm hv hk hsv hsk
  obtain ⟨iF, hiF, zF0, zF1, zF2⟩ := info_parts' Tryz.info_Filt
  obtain ⟨W1, eW⟩ : ∃ W, W = (w.alloc (.cells #[.int .i64 kind, .int .i64 n, .string s, .int .i64 a3, .int .i64 a4, .string a5, .slice A6 n6 q6, .slice A7 n7 q7, .slice A8 kids.length q8] 35)).alloc (.cells #[.int .i64 0, .int .i64 0, .string ⟨#[]⟩, .int .i64 0, .int .i64 0, .string ⟨#[]⟩, .slice none 0 0, .slice none 0 0, .slice none 0 0] 35) := ⟨_, rfl⟩
  have hWs : W1.heap.size = w.heap.size + 1 + 1 := by rw [eW]; simp
  have hW : Below w.heap.size w W1 := by rw [eW]; exact below_box2 _ _ _
  have HbP := Lib.hid (show Blk W1 w.heap.size 35 [.int .i64 kind, .int .i64 n, .string s, .int .i64 a3, .int .i64 a4, .string a5, .slice A6 n6 q6, .slice A7 n7 q7, .slice A8 kids.length q8] by rw [eW]; exact (Blk.new _ _ _).alloc _)
  have HbR := Lib.hid (show Blk W1 (w.heap.size + 1) 35 [.int .i64 0, .int .i64 0, .string ⟨#[]⟩, .int .i64 0, .int .i64 0, .string ⟨#[]⟩, .slice none 0 0, .slice none 0 0, .slice none 0 0] by
    have := Blk.new (w.alloc (.cells #[.int .i64 kind, .int .i64 n, .string s, .int .i64 a3, .int .i64 a4, .string a5, .slice A6 n6 q6, .slice A7 n7 q7, .slice A8 kids.length q8] 35)) 35 [.int .i64 0, .int .i64 0, .string ⟨#[]⟩, .int .i64 0, .int .i64 0, .string ⟨#[]⟩, .slice none 0 0, .slice none 0 0, .slice none 0 0]
    rw [eW]
    simpa using this)
  have EW := Lib.hid eW
  have hz1 : w.heap.size + 1 + 1 ≤ W1.heap.size := by omega
  have HWs := Lib.hid hWs
  have HW := Lib.hid hW
  clear eW hWs hW
  go_enter Tryz.func20, Tryz.ntmps20
  go_upto_region 1 with fail
  rw [← EW.out]
  obtain ⟨cP, fP⟩ := blk_rules HbP.out
  obtain ⟨cR, fR⟩ := blk_rules HbR.out
  have cPa := fun o => (HbP.out.alloc o).cell
  go_wp2
  go_loopw [3, 10] (fun lv i w' => ∃ (k : Nat), k ≤ kids.length ∧ i = .int .i64 k ∧ Hid (Acc w.heap.size W1.heap.size 35 9 w' lv k (filtsDs (kids.take k))) ∧ Hid (Below W1.heap.size W1 w')) (fun _ i _ => kids.length - (intOf i).toNat)
  case atStart => exact ⟨0, by omega, rfl, acc_made 35 9 W1 rfl (by omega), below_box _ _⟩
  case round =>
    obtain ⟨k, hk, rfl, HA, HB⟩ := hrel
    have HbW := Lib.hid (HW.out.trans (HB.out.mono (by omega)))
    have hz5 : W1.heap.size ≤ wr.heap.size := HB.out.size
    have HPr := Lib.hid (HbP.out.below HB.out)
    have HRr := Lib.hid (HbR.out.below HB.out)
    clear cP fP cR fR cPa
    by_cases hlt : k < kids.length
    · obtain ⟨ad, y, c0, c1, c2, c3, c4, c5, c6, c7, c8, rfl, hbl, hy, hm, hd, z0, z1, z2, z3, z4, z5, z6, z7, z8⟩ := row9_at (HK.out.upto (HbW.out.mono hB) (Nat.le_refl _)) rfl hlt
      obtain ⟨d0, d1, d2, d3, d4, d5, D6, e6, g6, D7, e7, g7, D8, e8, g8, ec⟩ := filtDs_shape hy
      simp only [List.cons.injEq, and_true] at ec
      obtain ⟨rfl, rfl, rfl, rfl, rfl, rfl, rfl, rfl, rfl⟩ := ec
      have hBr : B ≤ wr.heap.size := by have := HbW.out.size; omega
      have hbx := below_box wr (.cells #[.int .i64 d0, .int .i64 d1, .string d2, .int .i64 d3, .int .i64 d4, .string d5, .slice D6 e6 g6, .slice D7 e7 g7, .slice D8 e8 g8] 35)
      go_wp2_with fail
      refine (IH.out y hm [_, _, _, _, _, _, _, _, _] _ B (Nat.le_trans hBr hbx.size) (hy.below (hbx.mono hBr)) (smallDs_mem_filt HSK.out hm)).mono ?_
      rintro e w4 ⟨us4, f4, rfl, hO, hF, hb1⟩
      obtain ⟨m0, m1, m2, m3, m4, m5, M6, l6, p6, M7, l7, p7, M8, l8, p8, rfl⟩ := filtDs_shape hO.rd'
      have hF4 := Lib.hid (hF.from_ hbx.size)
      have hb4 := Lib.hid (hbx.trans (hb1.mono hbx.size))
      have HO := Lib.hid hO
      clear hO hF hb1 hbx z0 z1 z2 z3 z4 z5 z6 z7 z8 hy
      go_wp2_with (at_builtin; go_loud (refine wpList_append_acc rfl _ _ 33 rfl 35 iF _ 9 136 Tryz.underlying33 hiF zF0 zF1 zF2 rfl (by decide) rfl rfl HA.out hb4.out HO.out hF4.out rfl (by unfold maxLen; omega) (by omega) hz5 (by omega) ?_; intro v5 w5 hA5 hB5 hz6; have HA5 := Lib.hid hA5; have HB5 := Lib.hid hB5; clear hA5 hB5))
      have HA6 := Lib.hid (show Acc w.heap.size W1.heap.size 35 9 w5 v5 (k + 1) (filtsDs (kids.take (k + 1))) by
        rw [take_of_drop hd.out, filtsDs_append, show filtsDs [y] = filtDs y by simp [filtsDs]]
        exact HA5.out)
      have HB6 := Lib.hid (show Below W1.heap.size W1 w5 from HB.out.trans ((hb4.out.mono hz5).trans (HB5.out.mono (by omega))))
      clear HA HB HA5 HB5 hb4 hF4 HO
      go_wp2
      go_roundw
      case rel => exact ⟨k + 1, by omega, by go_num, HA6, HB6⟩
      case measure => simp [intOf]; omega
    · obtain rfl : k = kids.length := by omega
      rename_i lv _
      obtain ⟨f4, hO4, hF4⟩ := HA.out.done (w := W1) (Nat.le_refl _)
      rw [List.take_length] at hO4
      obtain ⟨A9, c9, n9, rfl⟩ := row_shape hO4.rd'
      have HO4 := Lib.hid hO4
      have HF4 := Lib.hid hF4
      obtain ⟨cP, fP⟩ := blk_rules HPr.out
      obtain ⟨cR, fR⟩ := blk_rules HRr.out
      clear hO4 hF4 HA
      go_wp2_with fail
      obtain ⟨wk, ewk⟩ : ∃ W : World, W = wr.setCell ⟨w.heap.size, 8, none⟩ (.slice A9 n9 c9) := ⟨_, rfl⟩
      rw [← ewk]
      have HBk := Lib.hid (show Below w.heap.size w wk from ewk ▸ HbW.out.setCell (Nat.le_refl _) _)
      have HPk := Lib.hid (show Blk wk w.heap.size 35 [.int .i64 kind, .int .i64 n, .string s, .int .i64 a3, .int .i64 a4, .string a5, .slice A6 n6 q6, .slice A7 n7 q7, .slice A9 n9 c9] from ewk ▸ HPr.out.set_ 8 _)
      have HRk := Lib.hid (show Blk wk (w.heap.size + 1) 35 [.int .i64 0, .int .i64 0, .string ⟨#[]⟩, .int .i64 0, .int .i64 0, .string ⟨#[]⟩, .slice none 0 0, .slice none 0 0, .slice none 0 0] from ewk ▸ HRr.out.far (by show w.heap.size + 1 ≠ w.heap.size; omega) _)
      have HZk := Lib.hid (show wk.heap.size = wr.heap.size from by rw [ewk]; simp [World.setCell])
      have HOk := Lib.hid (show OD wk (.row 9 kids.length (filtsDs kids)) (.slice A9 n9 c9) f4 from ewk ▸ OD.keep _ _ _ (fun b hb => Below.heap_setCell _ _ _ _ (by have := HF4.out.2 b hb; show b ≠ w.heap.size; omega)) HO4.out)
      clear ewk
      refine (clone_calls v [_, _, _, _, _] wk B (by have := HBk.out.size; omega) (HV.out.below (HBk.out.mono hB)) HSV.out).mono ?_
      rintro e w5 ⟨vs, fv, rfl, hO, hF, hb5⟩
      obtain ⟨d0, d1, d2, D6, e6, g6, D7, e7, g7, rfl⟩ := valDs_shape hO.rd'
      have HO5 := Lib.hid hO
      have HF5 := Lib.hid hF
      have HB5 := Lib.hid hb5
      have HP5 := Lib.hid (HPk.out.below hb5)
      have HR5 := Lib.hid (HRk.out.below hb5)
      clear cP fP cR fR hO hF hb5
      obtain ⟨cP, fP⟩ := blk_rules HP5.out
      obtain ⟨cR, fR⟩ := blk_rules HR5.out
      go_wp2
      refine bodyPost_ret (v := .agg #[.int .i64 kind, .int .i64 n, .string s, .int .i64 d0, .int .i64 d1, .string d2, .slice D6 e6 g6, .slice D7 e7 g7, .slice A9 n9 c9]) (by simp [results, Tryz.results20, go_sem, cR]) rfl ?_
      obtain ⟨W, eW⟩ : ∃ W, W = (setAll (setAll w5 w.heap.size 3 [.int .i64 d0, .int .i64 d1, .string d2, .slice D6 e6 g6, .slice D7 e7 g7]) (w.heap.size + 1) 0 [.int .i64 kind, .int .i64 n, .string s, .int .i64 d0, .int .i64 d1, .string d2, .slice D6 e6 g6, .slice D7 e7 g7, .slice A9 n9 c9]) := ⟨_, rfl⟩
      show ∃ vs fp, _ ∧ ODv (setAll (setAll w5 w.heap.size 3 [.int .i64 d0, .int .i64 d1, .string d2, .slice D6 e6 g6, .slice D7 e7 g7]) (w.heap.size + 1) 0 [.int .i64 kind, .int .i64 n, .string s, .int .i64 d0, .int .i64 d1, .string d2, .slice D6 e6 g6, .slice D7 e7 g7, .slice A9 n9 c9]) _ vs fp ∧ Fresh w (setAll (setAll w5 w.heap.size 3 [.int .i64 d0, .int .i64 d1, .string d2, .slice D6 e6 g6, .slice D7 e7 g7]) (w.heap.size + 1) 0 [.int .i64 kind, .int .i64 n, .string s, .int .i64 d0, .int .i64 d1, .string d2, .slice D6 e6 g6, .slice D7 e7 g7, .slice A9 n9 c9]) fp ∧ Below w.heap.size w (setAll (setAll w5 w.heap.size 3 [.int .i64 d0, .int .i64 d1, .string d2, .slice D6 e6 g6, .slice D7 e7 g7]) (w.heap.size + 1) 0 [.int .i64 kind, .int .i64 n, .string s, .int .i64 d0, .int .i64 d1, .string d2, .slice D6 e6 g6, .slice D7 e7 g7, .slice A9 n9 c9])
      rw [← eW]
      have hsz : W.heap.size = w5.heap.size := by rw [eW, setAll_size, setAll_size]
      have hzk := HZk.out
      have hbk := HB5.out.size
      obtain ⟨k1, k2⟩ := filt_close (w := w) (w1 := w5) (W := W) (kind := kind) (n := n) (lo := W1.heap.size) hs HO5.out (OD.keep _ _ _ (fun b hb => HB5.out.block b (by have := HF4.out.2 b hb; omega)) HOk.out) HF5.out.1 (fun b hb => by have := HF5.out.2 b hb; omega) HF4.out.1 (fun b hb => by have := HF4.out.2 b hb; omega) (fun a ha b hb => by have := HF5.out.2 a ha; have := HF4.out.2 b hb; omega) (by omega) (by omega) (fun b h1 _ => by rw [eW, setAll_other _ _ _ _ _ (by omega), setAll_other _ _ _ _ _ (by omega)])
      exact ⟨_, _, rfl, k1, k2, by rw [eW]; exact setAll_below _ (by omega) (setAll_below _ (Nat.le_refl _) (HBk.out.trans (HB5.out.mono HBk.out.size)))⟩
theorem cloneF_calls : ∀ x, CopyFilt 20 x := Filt.ind fun kind n s v kids ih => cloneF_of _ fun _ _ _ _ _ e => by
  injection e with e1 e2 e3 e4 e5
  subst e5
  exact ih
end Go.Proofs.YtppfgepoegicgaaGreatDoor
