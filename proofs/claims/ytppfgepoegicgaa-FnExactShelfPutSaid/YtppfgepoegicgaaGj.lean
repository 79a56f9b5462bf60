/- The program's clone of a shelf reads as the shelf does, in blocks that were made by the call. -/
import Derived.Test.YtppfgepoegicgaaGi
import Derived.Deep.DeepCutAuto
import Derived.Deep.RegionHeld3
import Derived.Test.YtppfgepoegicgaaGb
import Derived.Test.YtppfgepoegicgaaGf
namespace Go.Proofs.Ytppfgepoegicgaa
open Go Go.RowKit

/-- A shelf is copied: what comes back reads as it, in new blocks. -/
def CopyShelf (f : Nat) : Prop := ∀ (x : Shelf) (us : List Value) (w : World) (B : Nat), B ≤ w.heap.size → RDv w B (shelfDs x) us → SmallDs (shelfDs x) →
  Calls Try.prog f #[.agg us.toArray] w fun e w' => ∃ (v : Value) (g : Nat), e = .returned (.agg #[v]) ∧ Acc g w.heap.size 61 4 w' v x.askers.length (askersDs x.askers) ∧ Below w.heap.size w w'

set_option maxRecDepth 100000 in
set_option maxHeartbeats 2000000 in
theorem cloneShelf_calls : CopyShelf 62 := by
  intro x us w B hB h hsm
  obtain ⟨A, c, rfl, hl⟩ := shelfDs_open h
  have hln : x.askers.length ≤ 1048576 := hsm.1.1
  have HSM := Lib.hid hsm.1.2
  have HL := Lib.hid hl
  clear h hsm hl
  obtain ⟨iA, hiA, zA0, zA1, zA2⟩ := info_parts' Try.info_Asker
  obtain ⟨iK, hiK, zK0, zK1, zK2⟩ := info_parts' Try.info_Kept
  obtain ⟨W1, eW⟩ : ∃ W, W = (w.alloc (.cells #[.slice A x.askers.length c] 29)).alloc (.cells #[.slice none 0 0] 29) := ⟨_, rfl⟩
  have hWs : W1.heap.size = w.heap.size + 1 + 1 := by rw [eW]; simp
  have hW : Below w.heap.size w W1 := by rw [eW]; exact below_box2 _ _ _
  have bP : Blk W1 w.heap.size 29 [.slice A x.askers.length c] := by rw [eW]; exact (Blk.new _ _ _).alloc _
  have bR : Blk W1 (w.heap.size + 1) 29 [.slice none 0 0] := by
    have := Blk.new (w.alloc (.cells #[.slice A x.askers.length c] 29)) 29 [.slice none 0 0]
    rw [eW]
    simpa using this
  have bG : Blk ((W1.alloc (.cells #[] 61)).alloc (.cells #[.slice (some ⟨W1.heap.size, 0, none⟩) 0 0] 29)) (W1.heap.size + 1) 29 [.slice (some ⟨W1.heap.size, 0, none⟩) 0 0] := by
    have := Blk.new (W1.alloc (.cells #[] 61)) 29 [.slice (some ⟨W1.heap.size, 0, none⟩) 0 0]
    simpa using this
  have EW := Lib.hid eW
  have HWs := Lib.hid hWs
  have HbP := Lib.hid bP
  have HbR := Lib.hid bR
  have HbG := Lib.hid bG
  have kP := HbP.out.cell 0
  have q0 : ∀ o, (W1.alloc o).cell? ⟨w.heap.size, 0, none⟩ = some (.slice A x.askers.length c) := fun o => (HbP.out.alloc o).cell 0
  have q1 : ∀ o o', ((W1.alloc o).alloc o').cell? ⟨w.heap.size, 0, none⟩ = some (.slice A x.askers.length c) := fun o o' => ((HbP.out.alloc o).alloc o').cell 0
  clear eW bP bR bG hWs
  go_enter Try.func62, Try.ntmps62
  go_upto_region 1 with fail
  rw [← EW.out]
  go_wp2
  have hWS : w.heap.size + 1 + 1 ≤ W1.heap.size := by have := HWs.out; omega
  go_loopw [14] (fun i w' => ∃ (k : Nat) (lv : Value), k ≤ x.askers.length ∧ i = .int .i64 k ∧ Hid (Blk w' (W1.heap.size + 1) 29 [lv]) ∧ Hid (Acc (W1.heap.size + 1) W1.heap.size 61 4 w' lv k (askersDs (x.askers.take k))) ∧ Hid (Below W1.heap.size W1 w')) (fun i _ => x.askers.length - (intOf i).toNat)
  case atStart => exact ⟨0, _, by omega, rfl, HbG.out, (Acc.made 61 4 W1 (Nat.le_refl _) (by omega)).below (below_box _ _), below_box2 _ _ _⟩
  case round =>
    obtain ⟨k, lv, hk, rfl, HG, HA, HB⟩ := hrel
    have hzr := HB.out.size
    have hgl := HG.out.lt
    have HbW := Lib.hid (hW.trans (HB.out.mono (by omega)))
    have HRr := Lib.hid (HbR.out.below HB.out)
    clear q0 q1 kP
    by_cases hlt : k < x.askers.length
    · obtain ⟨ad, y, c0, c1, c2, c3, rfl, hbl, hy, hm, hd, z0, z1, z2, z3⟩ := row4_at (HL.out.upto (HbW.out.mono hB) (Nat.le_refl _)) rfl hlt
      obtain ⟨nm, most, fuel, trees⟩ := y
      obtain ⟨A4, c4, es, hvs, hrow⟩ := askerDs_open hy
      simp only [List.cons.injEq, and_true] at es
      obtain ⟨rfl, rfl, rfl, rfl⟩ := es
      have hsy := smallDs_mem_asker HSM.out hm
      simp only [askerDs, SmallDs] at hsy
      have htn : trees.length ≤ 1048576 := hsy.2.2.2.1.1
      have HST := Lib.hid hsy.2.2.2.1.2
      have HRW := Lib.hid hrow
      have hBr : B ≤ wr.heap.size := by have := HbW.out.size; omega
      have W5e := Lib.hid (Blk.new wr 61 [.string nm, .int .i64 most, .int .i64 fuel, .slice A4 trees.length c4])
      have r3 := fun o => (show ((wr.alloc (.cells #[.string nm, .int .i64 most, .int .i64 fuel, .slice A4 trees.length c4] 61)).alloc o).cell? ⟨wr.heap.size, 3, none⟩ = some (.slice A4 trees.length c4) from (W5e.out.alloc o).cell 3)
      obtain ⟨wo, rfl⟩ : ∃ wo : World, wo = wr := ⟨_, rfl⟩
      have hwo1 : (wo.alloc (.cells #[.string nm, .int .i64 most, .int .i64 fuel, .slice A4 trees.length c4] 61)).heap.size = wo.heap.size + 1 := by simp
      have HWO := Lib.hid hwo1
      clear hy hrow hsy hwo1
      go_wp2
      go_loopw [6, 22] (fun tv i w' => ∃ (j : Nat), j ≤ trees.length ∧ i = .int .i64 j ∧ Hid (Acc (W1.heap.size + 1) (wo.heap.size + 1) 70 6 w' tv j (keptsDs (trees.take j))) ∧ Hid (Below (wo.heap.size + 1) (wo.alloc (.cells #[.string nm, .int .i64 most, .int .i64 fuel, .slice A4 trees.length c4] 61)) w')) (fun _ i _ => trees.length - (intOf i).toNat)
      case atStart => exact ⟨0, by omega, rfl, acc_made 70 6 (wo.alloc (.cells #[.string nm, .int .i64 most, .int .i64 fuel, .slice A4 trees.length c4] 61)) (by simp) (by omega), (Below.refl _ _).alloc (by simp) _⟩
      case round =>
        clear r3
        obtain ⟨j, hj, rfl, HA2, HB2⟩ := hrel
        have hz2 : wo.heap.size + 1 ≤ wr.heap.size := by have := HB2.out.size; simpa using this
        have HB3 := Lib.hid (show Below wo.heap.size wo wr from (below_box wo _).trans (HB2.out.mono (by omega)))
        by_cases hlt2 : j < trees.length
        · obtain ⟨ad2, t, p0, p1, p2, p3, p4, p5, rfl, hbl2, ht, htm, hd2, y0, y1, y2, y3, y4, y5⟩ := row6_at (HRW.out.upto (HB3.out.mono hBr) (Nat.le_refl _)) rfl hlt2
          obtain ⟨a0, b0, b1, b2, A5, n5, q5, A6, n6, q6, es⟩ := keptDs_shape ht
          simp only [List.cons.injEq, and_true] at es
          obtain ⟨rfl, rfl, rfl, rfl, rfl, rfl⟩ := es
          obtain ⟨rfl, hts⟩ := kept_name ht
          have HT := Lib.hid (keptDs_tail ht)
          have hst := smallDs_mem_kept HST.out htm
          simp only [keptDs, SmallDs] at hst
          have HSV := Lib.hid hst.2
          have hBw : B ≤ wr.heap.size := by omega
          clear ht hst
          have hVz : wr.heap.size ≤ (wr.alloc (.cells #[.string t.name, .int .i64 b0, .int .i64 b1, .string b2, .slice A5 n5 q5, .slice A6 n6 q6] 70)).drew.heap.size := by show _ ≤ (wr.alloc _).heap.size; simp
          have hVb := Lib.hid (show Below wr.heap.size wr (wr.alloc (.cells #[.string t.name, .int .i64 b0, .int .i64 b1, .string b2, .slice A5 n5 q5, .slice A6 n6 q6] 70)).drew from (below_box wr _).drew)
          have HTv := Lib.hid (HT.out.below (hVb.out.mono hBw))
          have hBv : B ≤ (wr.alloc (.cells #[.string t.name, .int .i64 b0, .int .i64 b1, .string b2, .slice A5 n5 q5, .slice A6 n6 q6] 70)).drew.heap.size := Nat.le_trans hBw hVz
          go_wp2
          have kD0 := Lib.hid (show (wr.alloc (.cells #[.string t.name, .int .i64 b0, .int .i64 b1, .string b2, .slice A5 n5 q5, .slice A6 n6 q6] 70)).drew.cell? ⟨wr.heap.size, 0, none⟩ = some (.string t.name) from (Blk.new wr 70 [.string t.name, .int .i64 b0, .int .i64 b1, .string b2, .slice A5 n5 q5, .slice A6 n6 q6]).cell 0)
          have kD1 := Lib.hid (show (wr.alloc (.cells #[.string t.name, .int .i64 b0, .int .i64 b1, .string b2, .slice A5 n5 q5, .slice A6 n6 q6] 70)).drew.cell? ⟨wr.heap.size, 1, none⟩ = some (.int .i64 b0) from (Blk.new wr 70 [.string t.name, .int .i64 b0, .int .i64 b1, .string b2, .slice A5 n5 q5, .slice A6 n6 q6]).cell 1)
          have kD2 := Lib.hid (show (wr.alloc (.cells #[.string t.name, .int .i64 b0, .int .i64 b1, .string b2, .slice A5 n5 q5, .slice A6 n6 q6] 70)).drew.cell? ⟨wr.heap.size, 2, none⟩ = some (.int .i64 b1) from (Blk.new wr 70 [.string t.name, .int .i64 b0, .int .i64 b1, .string b2, .slice A5 n5 q5, .slice A6 n6 q6]).cell 2)
          have kD3 := Lib.hid (show (wr.alloc (.cells #[.string t.name, .int .i64 b0, .int .i64 b1, .string b2, .slice A5 n5 q5, .slice A6 n6 q6] 70)).drew.cell? ⟨wr.heap.size, 3, none⟩ = some (.string b2) from (Blk.new wr 70 [.string t.name, .int .i64 b0, .int .i64 b1, .string b2, .slice A5 n5 q5, .slice A6 n6 q6]).cell 3)
          have kD4 := Lib.hid (show (wr.alloc (.cells #[.string t.name, .int .i64 b0, .int .i64 b1, .string b2, .slice A5 n5 q5, .slice A6 n6 q6] 70)).drew.cell? ⟨wr.heap.size, 4, none⟩ = some (.slice A5 n5 q5) from (Blk.new wr 70 [.string t.name, .int .i64 b0, .int .i64 b1, .string b2, .slice A5 n5 q5, .slice A6 n6 q6]).cell 4)
          have kD5 := Lib.hid (show (wr.alloc (.cells #[.string t.name, .int .i64 b0, .int .i64 b1, .string b2, .slice A5 n5 q5, .slice A6 n6 q6] 70)).drew.cell? ⟨wr.heap.size, 5, none⟩ = some (.slice A6 n6 q6) from (Blk.new wr 70 [.string t.name, .int .i64 b0, .int .i64 b1, .string b2, .slice A5 n5 q5, .slice A6 n6 q6]).cell 5)
          go_region_held3 (fun w' => w'.cell? ⟨wr.heap.size, 0, none⟩ = some (.string t.name) ∧ w'.cell? ⟨wr.heap.size, 1, none⟩ = some (.int .i64 b0) ∧ w'.cell? ⟨wr.heap.size, 2, none⟩ = some (.int .i64 b1) ∧ w'.cell? ⟨wr.heap.size, 3, none⟩ = some (.string b2) ∧ w'.cell? ⟨wr.heap.size, 4, none⟩ = some (.slice A5 n5 q5) ∧ w'.cell? ⟨wr.heap.size, 5, none⟩ = some (.slice A6 n6 q6))
            (first | (with_reducible exact ⟨kD0.out, kD1.out, kD2.out, kD3.out, kD4.out, kD5.out⟩) | (with_reducible exact ⟨k40.out, k41.out, k42.out, k43.out, k44.out, k45.out⟩) | (with_reducible exact ⟨(k50 _).out, (k51 _).out, (k52 _).out, (k53 _).out, (k54 _).out, (k55 _).out⟩) | (with_reducible exact ⟨k60.out, k61.out, k62.out, k63.out, k64.out, k65.out⟩) | fail "keep")
            (first
              | ((go_at_call 52; go_loud ((refine (clone_calls t.v [_, _, _, _, _] (wr.alloc (.cells #[.string t.name, .int .i64 b0, .int .i64 b1, .string b2, .slice A5 n5 q5, .slice A6 n6 q6] 70)).drew B hBv HTv.out HSV.out).mono ?_); rintro e w4 ⟨us4, f4, rfl, hO, hF, hb1⟩; obtain ⟨d0, d1, d2, A7, n7, c7, A8, n8, c8, rfl⟩ := valDs_shape hO.rd'; have HF4 := Lib.hid (Fresh.from_ hF (show wr.heap.size ≤ (wr.alloc (.cells #[.string t.name, .int .i64 b0, .int .i64 b1, .string b2, .slice A5 n5 q5, .slice A6 n6 q6] 70)).drew.heap.size from hVz)); have HB4 := Lib.hid (hVb.out.trans (hb1.mono hVz)); have HO4 := Lib.hid hO; have HK4 := Lib.hid ((show Blk (wr.alloc (.cells #[.string t.name, .int .i64 b0, .int .i64 b1, .string b2, .slice A5 n5 q5, .slice A6 n6 q6] 70)).drew wr.heap.size 70 [.string t.name, .int .i64 b0, .int .i64 b1, .string b2, .slice A5 n5 q5, .slice A6 n6 q6] from Blk.new wr 70 [.string t.name, .int .i64 b0, .int .i64 b1, .string b2, .slice A5 n5 q5, .slice A6 n6 q6]).below hb1); have hlt4 : wr.heap.size < w4.heap.size := HK4.out.lt; clear hO hF hb1; have k40 := Lib.hid (show w4.cell? ⟨wr.heap.size, 0, none⟩ = some (.string t.name) from HK4.out.cell 0); have k41 := Lib.hid (show w4.cell? ⟨wr.heap.size, 1, none⟩ = some (.int .i64 b0) from HK4.out.cell 1); have k42 := Lib.hid (show w4.cell? ⟨wr.heap.size, 2, none⟩ = some (.int .i64 b1) from HK4.out.cell 2); have k43 := Lib.hid (show w4.cell? ⟨wr.heap.size, 3, none⟩ = some (.string b2) from HK4.out.cell 3); have k44 := Lib.hid (show w4.cell? ⟨wr.heap.size, 4, none⟩ = some (.slice A5 n5 q5) from HK4.out.cell 4); have k45 := Lib.hid (show w4.cell? ⟨wr.heap.size, 5, none⟩ = some (.slice A6 n6 q6) from HK4.out.cell 5); have k50 := fun o => Lib.hid (show (w4.alloc o).cell? ⟨wr.heap.size, 0, none⟩ = some (.string t.name) from (HK4.out.alloc o).cell 0); have k51 := fun o => Lib.hid (show (w4.alloc o).cell? ⟨wr.heap.size, 1, none⟩ = some (.int .i64 b0) from (HK4.out.alloc o).cell 1); have k52 := fun o => Lib.hid (show (w4.alloc o).cell? ⟨wr.heap.size, 2, none⟩ = some (.int .i64 b1) from (HK4.out.alloc o).cell 2); have k53 := fun o => Lib.hid (show (w4.alloc o).cell? ⟨wr.heap.size, 3, none⟩ = some (.string b2) from (HK4.out.alloc o).cell 3); have k54 := fun o => Lib.hid (show (w4.alloc o).cell? ⟨wr.heap.size, 4, none⟩ = some (.slice A5 n5 q5) from (HK4.out.alloc o).cell 4); have k55 := fun o => Lib.hid (show (w4.alloc o).cell? ⟨wr.heap.size, 5, none⟩ = some (.slice A6 n6 q6) from (HK4.out.alloc o).cell 5))))
              | (((refine step_append_acc (by rfl) _ _ 59 (by rfl) 70 iK _ 6 96 Try.underlying59 hiK zK0 zK1 zK2 (by rfl) (by decide) (by rfl) (by rfl) HA2.out HB4.out (us1 := [_, _, _, _, _, _]) (show ODv w4 (keptDs t) _ f4 from ⟨_, _, [], f4, rfl, rfl, ⟨rfl, hts, rfl⟩, HO4.out⟩) HF4.out (by rfl) (by unfold maxLen; omega) (by omega) hz2 (by omega) ?_); intro v5 w5 hA5 hB5 hz6; have HA5 := Lib.hid hA5; have HB5 := Lib.hid hB5; have HK5 := Lib.hid (HK4.out.same (hz6.2 wr.heap.size (.inl (Nat.le_refl _)) hlt4)); have k60 := Lib.hid (show w5.cell? ⟨wr.heap.size, 0, none⟩ = some (.string t.name) from HK5.out.cell 0); have k61 := Lib.hid (show w5.cell? ⟨wr.heap.size, 1, none⟩ = some (.int .i64 b0) from HK5.out.cell 1); have k62 := Lib.hid (show w5.cell? ⟨wr.heap.size, 2, none⟩ = some (.int .i64 b1) from HK5.out.cell 2); have k63 := Lib.hid (show w5.cell? ⟨wr.heap.size, 3, none⟩ = some (.string b2) from HK5.out.cell 3); have k64 := Lib.hid (show w5.cell? ⟨wr.heap.size, 4, none⟩ = some (.slice A5 n5 q5) from HK5.out.cell 4); have k65 := Lib.hid (show w5.cell? ⟨wr.heap.size, 5, none⟩ = some (.slice A6 n6 q6) from HK5.out.cell 5); clear hA5 hB5 hz6))
              | fail "no arm")
          have HA6 := Lib.hid (show Acc (W1.heap.size + 1) (wo.heap.size + 1) 70 6 w5 v5 (j + 1) (keptsDs (trees.take (j + 1))) by
            rw [take_of_drop hd2.out, keptsDs_append, show keptsDs [t] = keptDs t by simp [keptsDs]]
            exact HA5.out)
          have HB6 := Lib.hid (show Below (wo.heap.size + 1) (wo.alloc (.cells #[.string nm, .int .i64 most, .int .i64 fuel, .slice (some ad2) trees.length c4] 61)) w5 from HB2.out.trans ((HB4.out.mono hz2).trans HB5.out))
          clear HA2 HB2 HA5 HB5 HK5 HK4 HB4 HF4 HO4 k40 k41 k42 k43 k44 k45 k50 k51 k52 k53 k54 k55 k60 k61 k62 k63 k64 k65 kD0 kD1 kD2 kD3 kD4 kD5 HB3 y0 y1 y2 y3 y4 y5
          go_wp2
          go_roundw
          case rel => exact ⟨j + 1, by omega, by go_num, HA6, HB6⟩
          case measure => simp [intOf]; omega
        · obtain rfl : j = trees.length := by omega
          rename_i tv _
          obtain ⟨f5, hO5, hF5⟩ := HA2.out.done (w := wo.alloc (.cells #[.string nm, .int .i64 most, .int .i64 fuel, .slice A4 trees.length c4] 61)) (by simp)
          rw [List.take_length] at hO5
          obtain ⟨A5, c5, n5, rfl⟩ := row_shape hO5.rd'
          have HO5 := Lib.hid hO5
          have HF5 := Lib.hid hF5
          have HW5 := Lib.hid (W5e.out.same (HB2.out.block wo.heap.size (by omega)))
          have HGr := Lib.hid (HG.out.same (HB3.out.block _ (by omega)))
          obtain ⟨cA, fA⟩ := blk_rules HW5.out
          obtain ⟨cG, fG⟩ := blk_rules HGr.out
          clear hO5 hF5 HA2
          have ha := HW5.out.lt
          have hgr := HGr.out.lt
          have hU := Lib.hid (show Below wo.heap.size wo (wr.setCell ⟨wo.heap.size, 3, none⟩ (.slice A5 n5 c5)) from HB3.out.setCell (Nat.le_refl _) _)
          have hS6 : (wr.setCell ⟨wo.heap.size, 3, none⟩ (.slice A5 n5 c5)).heap.size = wr.heap.size := by simp [World.setCell]
          have HS6 := Lib.hid hS6
          have HO6 := Lib.hid (show ODv (wr.setCell ⟨wo.heap.size, 3, none⟩ (.slice A5 n5 c5)) (askerDs ⟨nm, most, fuel, trees⟩) [.string nm, .int .i64 most, .int .i64 fuel, .slice A5 n5 c5] f5 from
            ⟨_, _, [], f5, rfl, rfl, ⟨rfl, hvs, rfl⟩, _, _, [], f5, rfl, rfl, ⟨rfl, rfl⟩, _, _, [], f5, rfl, rfl, ⟨rfl, rfl⟩, _, _, f5, [], rfl, by simp, OD.keep _ _ _ (fun b hb => Below.heap_setCell _ _ _ _ (by have := (HF5.out.2 b hb).1; rw [HWO.out] at this; show b ≠ wo.heap.size; omega)) HO5.out, rfl, rfl⟩)
          have HF6 := Lib.hid (show Fresh wo (wr.setCell ⟨wo.heap.size, 3, none⟩ (.slice A5 n5 c5)) f5 from ⟨HF5.out.1, fun b hb => by have := HF5.out.2 b hb; rw [HWO.out] at this; rw [hS6]; omega⟩)
          have hax : wo.heap.size ≠ W1.heap.size + 1 := by omega
          clear hS6
          go_wp2_with (at_builtin; go_loud (refine wpList_append_accH rfl _ _ 27 rfl 61 iA _ 4 56 Try.underlying27 hiA zA0 zA1 zA2 rfl (by decide) rfl HS6.out rfl HA.out hU.out HO6.out HF6.out rfl (by unfold maxLen; omega) (by omega) hzr hgl ?_; intro v7 w7 hA7 hB7 hz7; obtain ⟨A9, n9, c9, rfl⟩ := hA7.shape; have HA7 := Lib.hid hA7; have HB7 := Lib.hid hB7; have HG7 := Lib.hid ((HGr.out.far (p := ⟨wo.heap.size, 3, none⟩) (by show W1.heap.size + 1 ≠ wo.heap.size; omega) (.slice A5 n5 c5)).same (hz7.2 _ (.inr rfl) (by rw [HS6.out]; omega))); clear hA7 hB7 hz7; have g7 := (show w7.cell? ⟨W1.heap.size + 1, 0, none⟩ = some lv from HG7.out.cell 0); have fg7 := HG7.out.frozen 0; clear cA fA cG fG))
          have HG8 := Lib.hid (show Blk (w7.setCell ⟨W1.heap.size + 1, 0, none⟩ (.slice A9 n9 c9)) (W1.heap.size + 1) 29 [.slice A9 n9 c9] from HG7.out.set_ 0 _)
          have HA8 := Lib.hid (show Acc (W1.heap.size + 1) W1.heap.size 61 4 (w7.setCell ⟨W1.heap.size + 1, 0, none⟩ (.slice A9 n9 c9)) (.slice A9 n9 c9) (k + 1) (askersDs (x.askers.take (k + 1))) by
            rw [take_of_drop hd.out, askersDs_append, show askersDs [(⟨nm, most, fuel, trees⟩ : Asker)] = askerDs ⟨nm, most, fuel, trees⟩ by simp [askersDs]]
            exact HA7.out.keep (by simp [World.setCell]) fun b _ _ hb => Below.heap_setCell _ _ _ _ hb)
          have HB8 := Lib.hid (show Below W1.heap.size W1 (w7.setCell ⟨W1.heap.size + 1, 0, none⟩ (.slice A9 n9 c9)) from (HB.out.trans ((hU.out.mono hzr).trans HB7.out)).setCell (by show W1.heap.size ≤ W1.heap.size + 1; omega) _)
          clear HA HB HG HA7 HB7 HG7 HGr HS6 HO6 HF6 hU HO5 HF5 HW5 HB2 HB3 HbW HRr z0 z1 z2 z3 g7 fg7
          go_wp2
          go_roundw
          case rel => exact ⟨k + 1, _, by omega, by go_num, HG8, HA8, HB8⟩
          case measure => simp [intOf]; omega
    · obtain rfl : k = x.askers.length := by omega
      obtain ⟨A4, n4, c4, rfl⟩ := HA.out.shape
      have HAe := Lib.hid (show Acc _ _ 61 4 wr (.slice A4 n4 c4) x.askers.length (askersDs x.askers) by have h := HA.out; rw [List.take_length] at h; exact h)
      obtain ⟨cG, fG⟩ := blk_rules HG.out
      obtain ⟨cR, fR⟩ := blk_rules HRr.out
      have hrl : w.heap.size + 1 < wr.heap.size := HRr.out.lt
      clear HA
      go_wp2
      refine bodyPost_ret (v := .agg #[.slice A4 n4 c4]) (by simp [results, Try.results62, go_sem, cR]) rfl ?_
      exact ⟨_, _, rfl, (HAe.out.keep (w' := wr.setCell ⟨w.heap.size + 1, 0, none⟩ (.slice A4 n4 c4)) (by simp [World.setCell]) (fun b h1 _ _ => Below.heap_setCell _ _ _ _ (by show b ≠ w.heap.size + 1; omega))).mono (by omega), HbW.out.setCell (by show w.heap.size ≤ w.heap.size + 1; omega) _⟩
end Go.Proofs.Ytppfgepoegicgaa
namespace Go.Proofs.Ytppfgepoegicgaa
open Go Go.RowKit

set_option maxRecDepth 100000 in
set_option maxHeartbeats 4000000 in
theorem copyShelf_calls : CopyShelf 60 := by
  intro x us w B hB h hsm
  obtain ⟨A, c, rfl, hl⟩ := shelfDs_open h
  have hln : x.askers.length ≤ 1048576 := hsm.1.1
  have HSM := Lib.hid hsm.1.2
  have HL := Lib.hid hl
  clear h hsm hl
  obtain ⟨iA, hiA, zA0, zA1, zA2⟩ := info_parts' Try.info_Asker
  obtain ⟨iK, hiK, zK0, zK1, zK2⟩ := info_parts' Try.info_Kept
  obtain ⟨W1, eW⟩ : ∃ W, W = (w.alloc (.cells #[.slice A x.askers.length c] 29)).alloc (.cells #[.slice none 0 0] 29) := ⟨_, rfl⟩
  have hWs : W1.heap.size = w.heap.size + 1 + 1 := by rw [eW]; simp
  have hW : Below w.heap.size w W1 := by rw [eW]; exact below_box2 _ _ _
  have bP : Blk W1 w.heap.size 29 [.slice A x.askers.length c] := by rw [eW]; exact (Blk.new _ _ _).alloc _
  have bR : Blk W1 (w.heap.size + 1) 29 [.slice none 0 0] := by
    have := Blk.new (w.alloc (.cells #[.slice A x.askers.length c] 29)) 29 [.slice none 0 0]
    rw [eW]
    simpa using this
  have EW := Lib.hid eW
  have HWs := Lib.hid hWs
  have HbP := Lib.hid bP
  have HbR := Lib.hid bR
  clear eW bP bR hWs
  go_enter Try.func60, Try.ntmps60
  go_upto_region 1 with fail
  rw [← EW.out]
  go_wp2
  have hWS : w.heap.size + 1 + 1 ≤ W1.heap.size := by have := HWs.out; omega
  go_loopw [4] (fun i w' => ∃ (k : Nat) (lv : Value), k ≤ x.askers.length ∧ i = .int .i64 k ∧ Hid (Blk w' W1.heap.size 29 [lv]) ∧ Hid (Acc W1.heap.size (W1.heap.size + 1) 61 4 w' lv k (askersDs (x.askers.take k))) ∧ Hid (Below W1.heap.size W1 w')) (fun i _ => x.askers.length - (intOf i).toNat)
  case atStart => exact ⟨0, _, by omega, rfl, Blk.new W1 _ [_], Acc.nil _ _ _ _ _, below_box _ _⟩
  case round =>
    obtain ⟨k, lv, hk, rfl, HG, HA, HB⟩ := hrel
    have hzr := HB.out.size
    have hgl := HG.out.lt
    have HbW := Lib.hid (hW.trans (HB.out.mono (by omega)))
    have HRr := Lib.hid (HbR.out.below HB.out)
    have HPr := Lib.hid (HbP.out.below HB.out)
    have kP : wr.cell? ⟨w.heap.size, 0, none⟩ = some (.slice A x.askers.length c) := HPr.out.cell 0
    by_cases hlt : k < x.askers.length
    · obtain ⟨ad, y, c0, c1, c2, c3, rfl, hbl, hy, hm, hd, z0, z1, z2, z3⟩ := row4_at (HL.out.upto (HbW.out.mono hB) (Nat.le_refl _)) rfl hlt
      obtain ⟨nm, most, fuel, trees⟩ := y
      obtain ⟨A4, c4, es, hvs, hrow⟩ := askerDs_open hy
      simp only [List.cons.injEq, and_true] at es
      obtain ⟨rfl, rfl, rfl, rfl⟩ := es
      have hsy := smallDs_mem_asker HSM.out hm
      simp only [askerDs, SmallDs] at hsy
      have htn : trees.length ≤ 1048576 := hsy.2.2.2.1.1
      have HST := Lib.hid hsy.2.2.2.1.2
      have HRW := Lib.hid hrow
      have hBr : B ≤ wr.heap.size := by have := HbW.out.size; omega
      have W5e := Lib.hid (Blk.new wr 61 [.string nm, .int .i64 most, .int .i64 fuel, .slice A4 trees.length c4])
      have r3 := fun o => (show ((wr.alloc (.cells #[.string nm, .int .i64 most, .int .i64 fuel, .slice A4 trees.length c4] 61)).alloc o).cell? ⟨wr.heap.size, 3, none⟩ = some (.slice A4 trees.length c4) from (W5e.out.alloc o).cell 3)
      have j2 : (0 : Int) ≤ (k : Int) := by omega
      have j3 : (k : Int) < (x.askers.length : Int) := by omega
      obtain ⟨wo, rfl⟩ : ∃ wo : World, wo = wr := ⟨_, rfl⟩
      have hwo1 : (wo.alloc (.cells #[.string nm, .int .i64 most, .int .i64 fuel, .slice A4 trees.length c4] 61)).heap.size = wo.heap.size + 1 := by simp
      have HWO := Lib.hid hwo1
      clear hy hrow hsy hwo1
      go_wp2
      go_loopw [6, 7] (fun tv i w' => ∃ (j : Nat), j ≤ trees.length ∧ i = .int .i64 j ∧ Hid (Acc W1.heap.size (wo.heap.size + 1) 70 6 w' tv j (keptsDs (trees.take j))) ∧ Hid (Below (wo.heap.size + 1) (wo.alloc (.cells #[.string nm, .int .i64 most, .int .i64 fuel, .slice A4 trees.length c4] 61)) w')) (fun _ i _ => trees.length - (intOf i).toNat)
      case atStart => exact ⟨0, by omega, rfl, acc_made 70 6 (wo.alloc (.cells #[.string nm, .int .i64 most, .int .i64 fuel, .slice A4 trees.length c4] 61)) (by simp) (by omega), (Below.refl _ _).alloc (by simp) _⟩
      case round =>
        clear r3
        obtain ⟨j, hj, rfl, HA2, HB2⟩ := hrel
        have hz2 : wo.heap.size + 1 ≤ wr.heap.size := by have := HB2.out.size; simpa using this
        have HB3 := Lib.hid (show Below wo.heap.size wo wr from (below_box wo _).trans (HB2.out.mono (by omega)))
        have HW5 := Lib.hid (W5e.out.same (HB2.out.block wo.heap.size (by omega)))
        have a3 : wr.cell? ⟨wo.heap.size, 3, none⟩ = some (.slice A4 trees.length c4) := HW5.out.cell 3
        by_cases hlt2 : j < trees.length
        · obtain ⟨ad2, t, p0, p1, p2, p3, p4, p5, rfl, hbl2, ht, htm, hd2, y0, y1, y2, y3, y4, y5⟩ := row6_at (HRW.out.upto (HB3.out.mono hBr) (Nat.le_refl _)) rfl hlt2
          obtain ⟨a0, b0, b1, b2, A5, n5, q5, A6, n6, q6, es⟩ := keptDs_shape ht
          simp only [List.cons.injEq, and_true] at es
          obtain ⟨rfl, rfl, rfl, rfl, rfl, rfl⟩ := es
          obtain ⟨rfl, hts⟩ := kept_name ht
          have HT := Lib.hid (keptDs_tail ht)
          have hst := smallDs_mem_kept HST.out htm
          simp only [keptDs, SmallDs] at hst
          have HSV := Lib.hid hst.2
          have hBw : B ≤ wr.heap.size := by omega
          have j0 : (0 : Int) ≤ (j : Int) := by omega
          have j1 : (j : Int) < (trees.length : Int) := by omega
          have HTv := Lib.hid (HT.out.below (show Below B wr wr.drew from (Below.refl _ _).drew))
          have ZA := Lib.hid a3
          have Z0 := Lib.hid y0
          have Z1 := Lib.hid y1
          have Z2 := Lib.hid y2
          have Z3 := Lib.hid y3
          have Z4 := Lib.hid y4
          have Z5 := Lib.hid y5
          clear ht hst
          go_wp2
          have kDA := Lib.hid (show wr.drew.cell? ⟨wo.heap.size, 3, none⟩ = some (.slice (some ad2) trees.length c4) from ZA.out)
          have kD0 := Lib.hid (show wr.drew.cell? (ad2.add (j * 6)) = some (.string t.name) from Z0.out)
          have kD1 := Lib.hid (show wr.drew.cell? ⟨(ad2.add (j * 6)).block, (ad2.add (j * 6)).off + 1, none⟩ = some (.int .i64 b0) from Z1.out)
          have kD2 := Lib.hid (show wr.drew.cell? ⟨(ad2.add (j * 6)).block, (ad2.add (j * 6)).off + 2, none⟩ = some (.int .i64 b1) from Z2.out)
          have kD3 := Lib.hid (show wr.drew.cell? ⟨(ad2.add (j * 6)).block, (ad2.add (j * 6)).off + 3, none⟩ = some (.string b2) from Z3.out)
          have kD4 := Lib.hid (show wr.drew.cell? ⟨(ad2.add (j * 6)).block, (ad2.add (j * 6)).off + 4, none⟩ = some (.slice A5 n5 q5) from Z4.out)
          have kD5 := Lib.hid (show wr.drew.cell? ⟨(ad2.add (j * 6)).block, (ad2.add (j * 6)).off + 5, none⟩ = some (.slice A6 n6 q6) from Z5.out)
          clear y0 y1 y2 y3 y4 y5 a3
          go_region_held3 (fun w' => w'.cell? ⟨wo.heap.size, 3, none⟩ = some (.slice (some ad2) trees.length c4) ∧ w'.cell? (ad2.add (j * 6)) = some (.string t.name) ∧ w'.cell? ⟨(ad2.add (j * 6)).block, (ad2.add (j * 6)).off + 1, none⟩ = some (.int .i64 b0) ∧ w'.cell? ⟨(ad2.add (j * 6)).block, (ad2.add (j * 6)).off + 2, none⟩ = some (.int .i64 b1) ∧ w'.cell? ⟨(ad2.add (j * 6)).block, (ad2.add (j * 6)).off + 3, none⟩ = some (.string b2) ∧ w'.cell? ⟨(ad2.add (j * 6)).block, (ad2.add (j * 6)).off + 4, none⟩ = some (.slice A5 n5 q5) ∧ w'.cell? ⟨(ad2.add (j * 6)).block, (ad2.add (j * 6)).off + 5, none⟩ = some (.slice A6 n6 q6))
            (first | (with_reducible exact ⟨kDA.out, kD0.out, kD1.out, kD2.out, kD3.out, kD4.out, kD5.out⟩) | (with_reducible exact ⟨k4A.out, k40.out, k41.out, k42.out, k43.out, k44.out, k45.out⟩) | (with_reducible exact ⟨(k5A _).out, (k50 _).out, (k51 _).out, (k52 _).out, (k53 _).out, (k54 _).out, (k55 _).out⟩) | (with_reducible exact ⟨k6A.out, k60.out, k61.out, k62.out, k63.out, k64.out, k65.out⟩) | fail "keep")
            (first
              | ((go_at_call 50; ((refine (copy_calls t.v [_, _, _, _, _] wr.drew B hBw HTv.out HSV.out).mono ?_); rintro e w4 ⟨us4, f4, rfl, hO, hF, hb1⟩; obtain ⟨d0, d1, d2, A7, n7, c7, A8, n8, c8, rfl⟩ := valDs_shape hO.rd'; have HF4 := Lib.hid (Fresh.from_ hF (show wr.heap.size ≤ wr.drew.heap.size from Nat.le_refl _)); have HB4 := Lib.hid (show Below wr.heap.size wr w4 from (Below.refl _ _).drew.trans hb1); have hz4 := HB4.out.size; have HO4 := Lib.hid hO; clear hO hF hb1; have k4A := Lib.hid (show w4.cell? ⟨wo.heap.size, 3, none⟩ = some (.slice (some ad2) trees.length c4) from (HB4.out.cell (p := ⟨wo.heap.size, 3, none⟩) (by show wo.heap.size < _; first | omega | (simp <;> omega))).trans ZA.out); have k40 := Lib.hid (show w4.cell? (ad2.add (j * 6)) = some (.string t.name) from (HB4.out.cell (p := (ad2.add (j * 6))) (by show (ad2.add (j * 6)).block < _; rw [block_of_add]; first | omega | (simp <;> omega))).trans Z0.out); have k41 := Lib.hid (show w4.cell? ⟨(ad2.add (j * 6)).block, (ad2.add (j * 6)).off + 1, none⟩ = some (.int .i64 b0) from (HB4.out.cell (p := ⟨(ad2.add (j * 6)).block, (ad2.add (j * 6)).off + 1, none⟩) (by show (ad2.add (j * 6)).block < _; rw [block_of_add]; first | omega | (simp <;> omega))).trans Z1.out); have k42 := Lib.hid (show w4.cell? ⟨(ad2.add (j * 6)).block, (ad2.add (j * 6)).off + 2, none⟩ = some (.int .i64 b1) from (HB4.out.cell (p := ⟨(ad2.add (j * 6)).block, (ad2.add (j * 6)).off + 2, none⟩) (by show (ad2.add (j * 6)).block < _; rw [block_of_add]; first | omega | (simp <;> omega))).trans Z2.out); have k43 := Lib.hid (show w4.cell? ⟨(ad2.add (j * 6)).block, (ad2.add (j * 6)).off + 3, none⟩ = some (.string b2) from (HB4.out.cell (p := ⟨(ad2.add (j * 6)).block, (ad2.add (j * 6)).off + 3, none⟩) (by show (ad2.add (j * 6)).block < _; rw [block_of_add]; first | omega | (simp <;> omega))).trans Z3.out); have k44 := Lib.hid (show w4.cell? ⟨(ad2.add (j * 6)).block, (ad2.add (j * 6)).off + 4, none⟩ = some (.slice A5 n5 q5) from (HB4.out.cell (p := ⟨(ad2.add (j * 6)).block, (ad2.add (j * 6)).off + 4, none⟩) (by show (ad2.add (j * 6)).block < _; rw [block_of_add]; first | omega | (simp <;> omega))).trans Z4.out); have k45 := Lib.hid (show w4.cell? ⟨(ad2.add (j * 6)).block, (ad2.add (j * 6)).off + 5, none⟩ = some (.slice A6 n6 q6) from (HB4.out.cell (p := ⟨(ad2.add (j * 6)).block, (ad2.add (j * 6)).off + 5, none⟩) (by show (ad2.add (j * 6)).block < _; rw [block_of_add]; first | omega | (simp <;> omega))).trans Z5.out); have k5A := fun o => Lib.hid (show (w4.alloc o).cell? ⟨wo.heap.size, 3, none⟩ = some (.slice (some ad2) trees.length c4) from ((HB4.out.trans ((below_box w4 o).mono hz4)).cell (p := ⟨wo.heap.size, 3, none⟩) (by show wo.heap.size < _; first | omega | (simp <;> omega))).trans ZA.out); have k50 := fun o => Lib.hid (show (w4.alloc o).cell? (ad2.add (j * 6)) = some (.string t.name) from ((HB4.out.trans ((below_box w4 o).mono hz4)).cell (p := (ad2.add (j * 6))) (by show (ad2.add (j * 6)).block < _; rw [block_of_add]; first | omega | (simp <;> omega))).trans Z0.out); have k51 := fun o => Lib.hid (show (w4.alloc o).cell? ⟨(ad2.add (j * 6)).block, (ad2.add (j * 6)).off + 1, none⟩ = some (.int .i64 b0) from ((HB4.out.trans ((below_box w4 o).mono hz4)).cell (p := ⟨(ad2.add (j * 6)).block, (ad2.add (j * 6)).off + 1, none⟩) (by show (ad2.add (j * 6)).block < _; rw [block_of_add]; first | omega | (simp <;> omega))).trans Z1.out); have k52 := fun o => Lib.hid (show (w4.alloc o).cell? ⟨(ad2.add (j * 6)).block, (ad2.add (j * 6)).off + 2, none⟩ = some (.int .i64 b1) from ((HB4.out.trans ((below_box w4 o).mono hz4)).cell (p := ⟨(ad2.add (j * 6)).block, (ad2.add (j * 6)).off + 2, none⟩) (by show (ad2.add (j * 6)).block < _; rw [block_of_add]; first | omega | (simp <;> omega))).trans Z2.out); have k53 := fun o => Lib.hid (show (w4.alloc o).cell? ⟨(ad2.add (j * 6)).block, (ad2.add (j * 6)).off + 3, none⟩ = some (.string b2) from ((HB4.out.trans ((below_box w4 o).mono hz4)).cell (p := ⟨(ad2.add (j * 6)).block, (ad2.add (j * 6)).off + 3, none⟩) (by show (ad2.add (j * 6)).block < _; rw [block_of_add]; first | omega | (simp <;> omega))).trans Z3.out); have k54 := fun o => Lib.hid (show (w4.alloc o).cell? ⟨(ad2.add (j * 6)).block, (ad2.add (j * 6)).off + 4, none⟩ = some (.slice A5 n5 q5) from ((HB4.out.trans ((below_box w4 o).mono hz4)).cell (p := ⟨(ad2.add (j * 6)).block, (ad2.add (j * 6)).off + 4, none⟩) (by show (ad2.add (j * 6)).block < _; rw [block_of_add]; first | omega | (simp <;> omega))).trans Z4.out); have k55 := fun o => Lib.hid (show (w4.alloc o).cell? ⟨(ad2.add (j * 6)).block, (ad2.add (j * 6)).off + 5, none⟩ = some (.slice A6 n6 q6) from ((HB4.out.trans ((below_box w4 o).mono hz4)).cell (p := ⟨(ad2.add (j * 6)).block, (ad2.add (j * 6)).off + 5, none⟩) (by show (ad2.add (j * 6)).block < _; rw [block_of_add]; first | omega | (simp <;> omega))).trans Z5.out))))
              | (((refine step_append_acc (by rfl) _ _ 59 (by rfl) 70 iK _ 6 96 Try.underlying59 hiK zK0 zK1 zK2 (by rfl) (by decide) (by rfl) (by rfl) HA2.out HB4.out (us1 := [_, _, _, _, _, _]) (show ODv w4 (keptDs t) _ f4 from ⟨_, _, [], f4, rfl, rfl, ⟨rfl, hts, rfl⟩, HO4.out⟩) HF4.out (by rfl) (by unfold maxLen; omega) (by omega) hz2 (by omega) ?_); intro v5 w5 hA5 hB5 hz6; have HA5 := Lib.hid hA5; have HB5 := Lib.hid hB5; clear hA5 hB5 hz6; have HB6 := Lib.hid (show Below (wo.heap.size + 1) wr w5 from (HB4.out.mono hz2).trans HB5.out); have k6A := Lib.hid (show w5.cell? ⟨wo.heap.size, 3, none⟩ = some (.slice (some ad2) trees.length c4) from (HB6.out.cell (p := ⟨wo.heap.size, 3, none⟩) (by show wo.heap.size < _; first | omega | (simp <;> omega))).trans ZA.out); have k60 := Lib.hid (show w5.cell? (ad2.add (j * 6)) = some (.string t.name) from (HB6.out.cell (p := (ad2.add (j * 6))) (by show (ad2.add (j * 6)).block < _; rw [block_of_add]; first | omega | (simp <;> omega))).trans Z0.out); have k61 := Lib.hid (show w5.cell? ⟨(ad2.add (j * 6)).block, (ad2.add (j * 6)).off + 1, none⟩ = some (.int .i64 b0) from (HB6.out.cell (p := ⟨(ad2.add (j * 6)).block, (ad2.add (j * 6)).off + 1, none⟩) (by show (ad2.add (j * 6)).block < _; rw [block_of_add]; first | omega | (simp <;> omega))).trans Z1.out); have k62 := Lib.hid (show w5.cell? ⟨(ad2.add (j * 6)).block, (ad2.add (j * 6)).off + 2, none⟩ = some (.int .i64 b1) from (HB6.out.cell (p := ⟨(ad2.add (j * 6)).block, (ad2.add (j * 6)).off + 2, none⟩) (by show (ad2.add (j * 6)).block < _; rw [block_of_add]; first | omega | (simp <;> omega))).trans Z2.out); have k63 := Lib.hid (show w5.cell? ⟨(ad2.add (j * 6)).block, (ad2.add (j * 6)).off + 3, none⟩ = some (.string b2) from (HB6.out.cell (p := ⟨(ad2.add (j * 6)).block, (ad2.add (j * 6)).off + 3, none⟩) (by show (ad2.add (j * 6)).block < _; rw [block_of_add]; first | omega | (simp <;> omega))).trans Z3.out); have k64 := Lib.hid (show w5.cell? ⟨(ad2.add (j * 6)).block, (ad2.add (j * 6)).off + 4, none⟩ = some (.slice A5 n5 q5) from (HB6.out.cell (p := ⟨(ad2.add (j * 6)).block, (ad2.add (j * 6)).off + 4, none⟩) (by show (ad2.add (j * 6)).block < _; rw [block_of_add]; first | omega | (simp <;> omega))).trans Z4.out); have k65 := Lib.hid (show w5.cell? ⟨(ad2.add (j * 6)).block, (ad2.add (j * 6)).off + 5, none⟩ = some (.slice A6 n6 q6) from (HB6.out.cell (p := ⟨(ad2.add (j * 6)).block, (ad2.add (j * 6)).off + 5, none⟩) (by show (ad2.add (j * 6)).block < _; rw [block_of_add]; first | omega | (simp <;> omega))).trans Z5.out)))
              | fail "no arm")
          have HA6 := Lib.hid (show Acc W1.heap.size (wo.heap.size + 1) 70 6 w5 v5 (j + 1) (keptsDs (trees.take (j + 1))) by
            rw [take_of_drop hd2.out, keptsDs_append, show keptsDs [t] = keptDs t by simp [keptsDs]]
            exact HA5.out)
          have HB7 := Lib.hid (show Below (wo.heap.size + 1) (wo.alloc (.cells #[.string nm, .int .i64 most, .int .i64 fuel, .slice (some ad2) trees.length c4] 61)) w5 from HB2.out.trans HB6.out)
          clear HA2 HB2 HA5 HB5 HB4 HF4 HO4 HB6 k40 k41 k42 k43 k44 k45 k4A k50 k51 k52 k53 k54 k55 k5A k60 k61 k62 k63 k64 k65 k6A kD0 kD1 kD2 kD3 kD4 kD5 kDA HB3 Z0 Z1 Z2 Z3 Z4 Z5 ZA HW5
          go_wp2
          go_roundw
          case rel => exact ⟨j + 1, by omega, by go_num, HA6, HB7⟩
          case measure => simp [intOf]; omega
        · obtain rfl : j = trees.length := by omega
          rename_i tv _
          obtain ⟨f5, hO5, hF5⟩ := HA2.out.done (w := wo.alloc (.cells #[.string nm, .int .i64 most, .int .i64 fuel, .slice A4 trees.length c4] 61)) (by simp)
          rw [List.take_length] at hO5
          obtain ⟨A5, c5, n5, rfl⟩ := row_shape hO5.rd'
          have HO5 := Lib.hid hO5
          have HF5 := Lib.hid hF5
          have HGr := Lib.hid (HG.out.same (HB3.out.block _ (by omega)))
          obtain ⟨cA, fA⟩ := blk_rules HW5.out
          obtain ⟨cG, fG⟩ := blk_rules HGr.out
          clear hO5 hF5 HA2 a3
          have ha := HW5.out.lt
          have hgr := HGr.out.lt
          have hU := Lib.hid (show Below wo.heap.size wo (wr.setCell ⟨wo.heap.size, 3, none⟩ (.slice A5 n5 c5)) from HB3.out.setCell (Nat.le_refl _) _)
          have hS6 : (wr.setCell ⟨wo.heap.size, 3, none⟩ (.slice A5 n5 c5)).heap.size = wr.heap.size := by simp [World.setCell]
          have HS6 := Lib.hid hS6
          have HO6 := Lib.hid (show ODv (wr.setCell ⟨wo.heap.size, 3, none⟩ (.slice A5 n5 c5)) (askerDs ⟨nm, most, fuel, trees⟩) [.string nm, .int .i64 most, .int .i64 fuel, .slice A5 n5 c5] f5 from
            ⟨_, _, [], f5, rfl, rfl, ⟨rfl, hvs, rfl⟩, _, _, [], f5, rfl, rfl, ⟨rfl, rfl⟩, _, _, [], f5, rfl, rfl, ⟨rfl, rfl⟩, _, _, f5, [], rfl, by simp, OD.keep _ _ _ (fun b hb => Below.heap_setCell _ _ _ _ (by have := (HF5.out.2 b hb).1; rw [HWO.out] at this; show b ≠ wo.heap.size; omega)) HO5.out, rfl, rfl⟩)
          have HF6 := Lib.hid (show Fresh wo (wr.setCell ⟨wo.heap.size, 3, none⟩ (.slice A5 n5 c5)) f5 from ⟨HF5.out.1, fun b hb => by have := HF5.out.2 b hb; rw [HWO.out] at this; rw [hS6]; omega⟩)
          have hax : wo.heap.size ≠ W1.heap.size := by omega
          clear hS6
          go_wp2_with (at_builtin; (refine wpList_append_accH rfl _ _ 27 rfl 61 iA _ 4 56 Try.underlying27 hiA zA0 zA1 zA2 rfl (by decide) rfl HS6.out rfl HA.out hU.out HO6.out HF6.out rfl (by unfold maxLen; omega) (by omega) (by omega) hgl ?_; intro v7 w7 hA7 hB7 hz7; obtain ⟨A9, n9, c9, rfl⟩ := hA7.shape; have HA7 := Lib.hid hA7; have HB7 := Lib.hid hB7; have HG7 := Lib.hid ((HGr.out.far (p := ⟨wo.heap.size, 3, none⟩) (by show W1.heap.size ≠ wo.heap.size; omega) (.slice A5 n5 c5)).same (hz7.2 _ (.inr rfl) (by rw [HS6.out]; omega))); clear hA7 hB7 hz7; have g7 := (show w7.cell? ⟨W1.heap.size, 0, none⟩ = some lv from HG7.out.cell 0); have fg7 := HG7.out.frozen 0; clear cA fA cG fG))
          have HG8 := Lib.hid (show Blk (w7.setCell ⟨W1.heap.size, 0, none⟩ (.slice A9 n9 c9)) W1.heap.size 29 [.slice A9 n9 c9] from HG7.out.set_ 0 _)
          have HA8 := Lib.hid (show Acc W1.heap.size (W1.heap.size + 1) 61 4 (w7.setCell ⟨W1.heap.size, 0, none⟩ (.slice A9 n9 c9)) (.slice A9 n9 c9) (k + 1) (askersDs (x.askers.take (k + 1))) by
            rw [take_of_drop hd.out, askersDs_append, show askersDs [(⟨nm, most, fuel, trees⟩ : Asker)] = askerDs ⟨nm, most, fuel, trees⟩ by simp [askersDs]]
            exact HA7.out.keep (by simp [World.setCell]) fun b _ _ hb => Below.heap_setCell _ _ _ _ hb)
          have HB8 := Lib.hid (show Below W1.heap.size W1 (w7.setCell ⟨W1.heap.size, 0, none⟩ (.slice A9 n9 c9)) from (HB.out.trans ((hU.out.mono hzr).trans (HB7.out.mono (by omega)))).setCell (by show W1.heap.size ≤ W1.heap.size; omega) _)
          clear HA HB HG HA7 HB7 HG7 HGr HS6 HO6 HF6 hU HO5 HF5 HW5 HB2 HB3 HbW HRr HPr kP z0 z1 z2 z3 g7 fg7
          go_wp2
          go_roundw
          case rel => exact ⟨k + 1, _, by omega, by go_num, HG8, HA8, HB8⟩
          case measure => simp [intOf]; omega
    · obtain rfl : k = x.askers.length := by omega
      obtain ⟨A4, n4, c4, rfl⟩ := HA.out.shape
      have HAe := Lib.hid (show Acc _ _ 61 4 wr (.slice A4 n4 c4) x.askers.length (askersDs x.askers) by have h := HA.out; rw [List.take_length] at h; exact h)
      obtain ⟨cG, fG⟩ := blk_rules HG.out
      obtain ⟨cR, fR⟩ := blk_rules HRr.out
      have hrl : w.heap.size + 1 < wr.heap.size := HRr.out.lt
      clear HA
      go_wp2
      refine bodyPost_ret (v := .agg #[.slice A4 n4 c4]) (by simp [results, Try.results60, go_sem, cR]) rfl ?_
      exact ⟨_, _, rfl, (HAe.out.keep (w' := wr.setCell ⟨w.heap.size + 1, 0, none⟩ (.slice A4 n4 c4)) (by simp [World.setCell]) (fun b h1 _ _ => Below.heap_setCell _ _ _ _ (by show b ≠ w.heap.size + 1; omega))).mono (by omega), HbW.out.setCell (by show w.heap.size ≤ w.heap.size + 1; omega) _⟩
end Go.Proofs.Ytppfgepoegicgaa
