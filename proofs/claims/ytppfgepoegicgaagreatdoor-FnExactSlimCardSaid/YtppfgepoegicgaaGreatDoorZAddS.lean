/- PartAdd: the reference's. -/
import Derived.Test.YtppfgepoegicgaaGreatDoorGk
import Derived.Test.YtppfgepoegicgaaGreatDoorZPutPS
import Derived.StillTailTactics
namespace Go.Proofs.YtppfgepoegicgaaGreatDoor
open Go Go.RowKit

set_option maxRecDepth 100000 in
set_option maxHeartbeats 8000000 in
theorem sAdd_calls (a b : Val) (ua ub : List Value) (w : World) (B : Nat) (hB : B ≤ w.heap.size) (ha : RDv w B (valDs a) ua) (hb : RDv w B (valDs b) ub) (oa : ValOk a) (ob : ValOk b) :
    Calls Tryz.prog 74 #[.agg ua.toArray, .agg ub.toArray] w (PTwo (addV a b) w) := by
  obtain ⟨k1, n1, s1, keys1, list1, A1, c1, A2, c2, rfl, rfl, hs1, hk1, hl1⟩ := valDs_open ha
  obtain ⟨k2, n2, s2, keys2, list2, A3, c3, A4, c4, rfl, rfl, hs2, hk2, hl2⟩ := valDs_open hb
  have HA := Lib.hid ha
  have HB := Lib.hid hb
  have OA := Lib.hid oa
  have OB := Lib.hid ob
  obtain ⟨q1, ⟨q2, q3⟩, ⟨q4, q5⟩, q6, q7, q8, q9⟩ := clean_of oa
  obtain ⟨r1, ⟨r2, r3⟩, ⟨r4, r5⟩, r6, r7, r8, r9⟩ := clean_of ob
  have HQ1 := Lib.hid q1
  have HR1 := Lib.hid r1
  have HQ9 := Lib.hid q9
  have HR9 := Lib.hid r9
  have HCA := Lib.hid oa.2
  have HCB := Lib.hid ob.2
  have HKB := Lib.hid hk2
  have HLB := Lib.hid hl2
  have hn2 := hk2.len
  clear ha hb oa ob hk1 hl1 hk2 hl2 q1 r1 q9 r9
  go_enter Tryz.func74, Tryz.ntmps74
  have hbx := below_box3 w (.cells #[.int .i64 k1, .int .i64 n1, .string s1, .slice A1 keys1.length c1, .slice A2 list1.length c2] 32) (.cells #[.int .i64 k2, .int .i64 n2, .string s2, .slice A3 keys2.length c3, .slice A4 list2.length c4] 32) (.cells #[.int .i64 0, .int .i64 0, .string ⟨#[]⟩, .slice none 0 0, .slice none 0 0] 32)
  go_wp2_with fail
  refine (sValOk_calls (.mk k1 n1 s1 keys1 list1) [_, _, _, _, _] _ B (Nat.le_trans hB hbx.size) (HA.out.below (hbx.mono hB)) (by have := HCA.out; omega)).mono ?_
  rintro e w1 ⟨r, rfl, hr1, hb1⟩
  obtain rfl : r = true := hr1.2 OA.out
  obtain ⟨hb, hz, bP, bQ, bR⟩ := boxes3 (P := [_, _, _, _, _]) (R := [_, _, _, _, _]) (O := [_, _, _, _, _]) hb1
  clear hr1 hb1 hbx
  obtain ⟨cP, fP⟩ := blk_rules bP
  obtain ⟨cQ, fQ⟩ := blk_rules bQ
  go_wp2_with fail
  refine (sValOk_calls (.mk k2 n2 s2 keys2 list2) [_, _, _, _, _] _ B (by omega) (HB.out.below (hb.mono hB)) (by have := HCB.out; omega)).mono ?_
  rintro e w2 ⟨r, rfl, hr1, hb1⟩
  obtain rfl : r = true := hr1.2 OB.out
  have HPb := Lib.hid (bP.below hb1)
  have HQb := Lib.hid (bQ.below hb1)
  have HRb := Lib.hid (bR.below hb1)
  have HW2 := Lib.hid (hb.trans (hb1.mono (by omega)))
  have hz2 : w.heap.size + 3 ≤ w2.heap.size := by have := hb1.size; omega
  clear hr1 hb1 bP bQ bR cP fP cQ fQ hb
  obtain ⟨cP, fP⟩ := blk_rules HPb.out
  obtain ⟨cQ, fQ⟩ := blk_rules HQb.out
  obtain ⟨cR, fR⟩ := blk_rules HRb.out
  by_cases e1 : k1 = 0
  · have HN := Lib.hid (show addV (.mk k1 n1 s1 keys1 list1) (.mk k2 n2 s2 keys2 list2) = some (.mk k2 n2 s2 keys2 list2) from if_pos e1)
    go_wp2_with fail
    refine (copy_calls (.mk k2 n2 s2 keys2 list2) [_, _, _, _, _] _ B (by omega) (HB.out.below (HW2.out.mono hB)) (small_of_ok OB.out)).mono ?_
    rintro e w3 ⟨vs, fp, rfl, hO, hF, hb3⟩
    obtain ⟨d0, d1, d2, A7, n7, c7, A8, n8, c8, rfl⟩ := valDs_shape hO.rd'
    have HO := Lib.hid hO
    have HF := Lib.hid hF
    have HR3 := Lib.hid (HRb.out.below hb3)
    have hb4 := HW2.out.trans (hb3.mono (by omega))
    clear hO hF hb3 cP fP cQ fQ cR fR
    obtain ⟨cR, fR⟩ := blk_rules HR3.out
    go_wp2
    refine bodyPost_ret (v := .tuple #[.agg #[.int .i64 d0, .int .i64 d1, .string d2, .slice A7 n7 c7, .slice A8 n8 c8], .bool true]) (by simp [results, Tryz.results74, go_sem, cR]) rfl ?_
    exact PTwo.laid (vs := [.int .i64 d0, .int .i64 d1, .string d2, .slice A7 n7 c7, .slice A8 n8 c8]) (g := w.heap.size + 1 + 1) (o := 0) HN.out HO.out HF.out hb4 (by omega) (by omega)
  by_cases e2 : k2 = 0
  · have HN := Lib.hid (show addV (.mk k1 n1 s1 keys1 list1) (.mk k2 n2 s2 keys2 list2) = some (.mk k1 n1 s1 keys1 list1) from (if_neg e1).trans (if_pos e2))
    go_wp2_with fail
    refine (copy_calls (.mk k1 n1 s1 keys1 list1) [_, _, _, _, _] _ B (by omega) (HA.out.below (HW2.out.mono hB)) (small_of_ok OA.out)).mono ?_
    rintro e w3 ⟨vs, fp, rfl, hO, hF, hb3⟩
    obtain ⟨d0, d1, d2, A7, n7, c7, A8, n8, c8, rfl⟩ := valDs_shape hO.rd'
    have HO := Lib.hid hO
    have HF := Lib.hid hF
    have HR3 := Lib.hid (HRb.out.below hb3)
    have hb4 := HW2.out.trans (hb3.mono (by omega))
    clear hO hF hb3 cP fP cQ fQ cR fR
    obtain ⟨cR, fR⟩ := blk_rules HR3.out
    go_wp2
    refine bodyPost_ret (v := .tuple #[.agg #[.int .i64 d0, .int .i64 d1, .string d2, .slice A7 n7 c7, .slice A8 n8 c8], .bool true]) (by simp [results, Tryz.results74, go_sem, cR]) rfl ?_
    exact PTwo.laid (vs := [.int .i64 d0, .int .i64 d1, .string d2, .slice A7 n7 c7, .slice A8 n8 c8]) (g := w.heap.size + 1 + 1) (o := 0) HN.out HO.out HF.out hb4 (by omega) (by omega)
  by_cases e3 : k1 ≠ k2
  · have HN := Lib.hid (show addV (.mk k1 n1 s1 keys1 list1) (.mk k2 n2 s2 keys2 list2) = none from (if_neg e1).trans ((if_neg e2).trans (if_pos e3)))
    have HB2 := HW2.out
    go_wp2
    refine bodyPost_ret (v := .tuple #[.agg #[.int .i64 0, .int .i64 0, .string ⟨#[]⟩, .slice none 0 0, .slice none 0 0], .bool false]) (by simp [results, Tryz.results74, go_sem, cR]) rfl ?_
    exact PTwo.none_laid (g := w.heap.size + 1 + 1) (o := 0) HN.out HB2 (by omega)
  have e3 : k1 = k2 := Classical.not_not.1 e3
  subst e3
  have HN := Lib.hid (addV_told (a := .mk k1 n1 s1 keys1 list1) (b := .mk k1 n2 s2 keys2 list2) e1 e2 rfl)
  go_wp2_with fail
  refine (copy_calls2 (.mk k1 n1 s1 keys1 list1) [_, _, _, _, _] _ B (by omega) (HA.out.below (HW2.out.mono hB)) (small_of_ok OA.out)).mono ?_
  rintro e w3 ⟨vs, fp, rfl, hO, hF, hb3, hrow⟩
  obtain ⟨A7, c7, A8, c8, x0, rfl, hk7, hl8, hacc⟩ := copy_open hO hrow
  have HK7 := Lib.hid hk7
  have HL8 := Lib.hid hl8
  have HACC := Lib.hid hacc
  have hz3 := hb3.size
  obtain ⟨w4, ew⟩ : ∃ W : World, W = w3.alloc (.cells #[.int .i64 k1, .int .i64 n1, .string s1, .slice A7 keys1.length c7, .slice A8 list1.length c8] 32) := ⟨_, rfl⟩
  have HW3 := Lib.hid (HW2.out.trans (hb3.mono (by omega)))
  have HB4 := Lib.hid (show Below w3.heap.size w3 w4 from ew ▸ below_box _ _)
  have hz4 : w3.heap.size + 1 = w4.heap.size := by rw [ew]; simp
  have HP4 := Lib.hid ((HPb.out.below hb3).below HB4.out)
  have HQ4 := Lib.hid ((HQb.out.below hb3).below HB4.out)
  have HR4 := Lib.hid ((HRb.out.below hb3).below HB4.out)
  have HO4 := Lib.hid (show Blk w4 w3.heap.size 32 [.int .i64 k1, .int .i64 n1, .string s1, .slice A7 keys1.length c7, .slice A8 list1.length c8] from ew ▸ Blk.new _ _ _)
  have HE4 := Lib.hid ew
  clear hO hF hb3 hrow hk7 hl8 hacc ew cP fP cQ fQ cR fR HPb HQb HRb HW2
  have HW4 := Lib.hid (HW3.out.trans (HB4.out.mono (by omega)))
  go_upto_region 10 with fail
  rw [← HE4.out]
  obtain ⟨cP, fP⟩ := blk_rules HP4.out
  obtain ⟨cQ, fQ⟩ := blk_rules HQ4.out
  obtain ⟨cR, fR⟩ := blk_rules HR4.out
  obtain ⟨cO, fO⟩ := blk_rules HO4.out
  by_cases g3 : k1 = 3
  · subst g3
    have HRW := Lib.hid (show addRaw (.mk 3 n1 s1 keys1 list1) (.mk 3 n2 s2 keys2 list2) = some (.mk 3 (n1 + n2) s1 keys1 list1) from by obtain ⟨_, hs0, hk0, hl0⟩ := HQ1.out; rw [hs0 (by decide), hk0 (by decide), hl0 (by decide)]; rfl)
    have hn3 : -2000000 ≤ n1 + n2 ∧ n1 + n2 ≤ 2000000 := by omega
    have HRAW := Lib.hid (show addV (.mk 3 n1 s1 keys1 list1) (.mk 3 n2 s2 keys2 list2) = toldV (some (.mk 3 (n1 + n2) s1 keys1 list1)) from HN.out.trans (congrArg toldV HRW.out))
    go_wp2_with fail
    obtain ⟨w5, ew5⟩ : ∃ W : World, W = w4.setCell ⟨w3.heap.size, 1, none⟩ (.int .i64 (n1 + n2)) := ⟨_, rfl⟩
    rw [← ew5]
    have hz5 : w4.heap.size ≤ w5.heap.size := by rw [ew5]; simp [World.setCell]
    refine (sTold_calls (.mk 3 (n1 + n2) s1 keys1 list1) [_, _, _, _, _] w5 w3.heap.size (by first | omega | (rw [ew5]; exact Nat.le_refl _)) (by rw [ew5]; exact rdv_mk hs1 (HK7.out.below (HB4.out.setCell (Nat.le_refl _) _)) (HL8.out.below (HB4.out.setCell (Nat.le_refl _) _))) (by have := HCA.out; simp only [valCnt] at this ⊢; omega)).mono ?_
    have HB5 := Lib.hid (show Below w.heap.size w w5 from by rw [ew5]; exact HW4.out.setCell (by show w.heap.size ≤ w3.heap.size; omega) _)
    have HR5 := Lib.hid (show Blk w5 (w.heap.size + 1 + 1) 32 [.int .i64 0, .int .i64 0, .string ⟨#[]⟩, .slice none 0 0, .slice none 0 0] from by rw [ew5]; exact HR4.out.far (by show w.heap.size + 1 + 1 ≠ w3.heap.size; omega) _)
    intro e w6 hP
    obtain ⟨v, d0, d1, d2, A9, n9, c9, A10, n10, c10, fp, hv, rfl, HO, HF, hb6⟩ | ⟨hn, rfl, hb6⟩ := hP.split
    · skip
      have HV := Lib.hid (HRAW.out.trans hv)
      have HR6 := Lib.hid (HR5.out.below hb6)
      have HB6 := Lib.hid (HB5.out.trans (hb6.mono HB5.out.size))
      clear hb6 hv cP fP cQ fQ cR fR cO fO
      obtain ⟨cR, fR⟩ := blk_rules HR6.out
      go_wp2
      refine bodyPost_ret (v := .tuple #[.agg #[.int .i64 d0, .int .i64 d1, .string d2, .slice A9 n9 c9, .slice A10 n10 c10], .bool true]) (by simp [results, Tryz.results74, go_sem, cR]) rfl ?_
      exact PTwo.laid (vs := [.int .i64 d0, .int .i64 d1, .string d2, .slice A9 n9 c9, .slice A10 n10 c10]) (g := w.heap.size + 1 + 1) (o := 0) HV.out HO.out HF.out HB6.out (by omega) (by omega)
    · have HV := Lib.hid (HRAW.out.trans hn)
      have HR6 := Lib.hid (HR5.out.below hb6)
      have HB6 := Lib.hid (HB5.out.trans (hb6.mono HB5.out.size))
      clear hb6 hn cP fP cQ fQ cR fR cO fO
      obtain ⟨cR, fR⟩ := blk_rules HR6.out
      go_wp2
      refine bodyPost_ret (v := .tuple #[.agg #[.int .i64 0, .int .i64 0, .string ⟨#[]⟩, .slice none 0 0, .slice none 0 0], .bool false]) (by simp [results, Tryz.results74, go_sem, cR]) rfl ?_
      exact PTwo.none_laid (g := w.heap.size + 1 + 1) (o := 0) HV.out HB6.out (by omega)
  by_cases g4 : k1 = 4
  · subst g4
    have HRW := Lib.hid (show addRaw (.mk 4 n1 s1 keys1 list1) (.mk 4 n2 s2 keys2 list2) = some (.mk 4 n1 (s1 ++ s2) keys1 list1) from by obtain ⟨hn0, hs0, hk0, hl0⟩ := HQ1.out; rw [hn0 (by decide), hk0 (by decide), hl0 (by decide)]; rfl)
    have HRAW := Lib.hid (show addV (.mk 4 n1 s1 keys1 list1) (.mk 4 n2 s2 keys2 list2) = toldV (some (.mk 4 n1 (s1 ++ s2) keys1 list1)) from HN.out.trans (congrArg toldV HRW.out))
    go_wp2_with fail
    obtain ⟨w5, ew5⟩ : ∃ W : World, W = w4.setCell ⟨w3.heap.size, 2, none⟩ (.string (s1 ++ s2)) := ⟨_, rfl⟩
    rw [← ew5]
    have hz5 : w4.heap.size ≤ w5.heap.size := by rw [ew5]; simp [World.setCell]
    refine (sTold_calls (.mk 4 n1 (s1 ++ s2) keys1 list1) [_, _, _, _, _] w5 w3.heap.size (by first | omega | (rw [ew5]; exact Nat.le_refl _)) (by rw [ew5]; exact rdv_mk (by rw [ByteArray.size_append]; omega) (HK7.out.below (HB4.out.setCell (Nat.le_refl _) _)) (HL8.out.below (HB4.out.setCell (Nat.le_refl _) _))) (by have := HCA.out; simp only [valCnt] at this ⊢; omega)).mono ?_
    have HB5 := Lib.hid (show Below w.heap.size w w5 from by rw [ew5]; exact HW4.out.setCell (by show w.heap.size ≤ w3.heap.size; omega) _)
    have HR5 := Lib.hid (show Blk w5 (w.heap.size + 1 + 1) 32 [.int .i64 0, .int .i64 0, .string ⟨#[]⟩, .slice none 0 0, .slice none 0 0] from by rw [ew5]; exact HR4.out.far (by show w.heap.size + 1 + 1 ≠ w3.heap.size; omega) _)
    intro e w6 hP
    obtain ⟨v, d0, d1, d2, A9, n9, c9, A10, n10, c10, fp, hv, rfl, HO, HF, hb6⟩ | ⟨hn, rfl, hb6⟩ := hP.split
    · skip
      have HV := Lib.hid (HRAW.out.trans hv)
      have HR6 := Lib.hid (HR5.out.below hb6)
      have HB6 := Lib.hid (HB5.out.trans (hb6.mono HB5.out.size))
      clear hb6 hv cP fP cQ fQ cR fR cO fO
      obtain ⟨cR, fR⟩ := blk_rules HR6.out
      go_wp2
      refine bodyPost_ret (v := .tuple #[.agg #[.int .i64 d0, .int .i64 d1, .string d2, .slice A9 n9 c9, .slice A10 n10 c10], .bool true]) (by simp [results, Tryz.results74, go_sem, cR]) rfl ?_
      exact PTwo.laid (vs := [.int .i64 d0, .int .i64 d1, .string d2, .slice A9 n9 c9, .slice A10 n10 c10]) (g := w.heap.size + 1 + 1) (o := 0) HV.out HO.out HF.out HB6.out (by omega) (by omega)
    · have HV := Lib.hid (HRAW.out.trans hn)
      have HR6 := Lib.hid (HR5.out.below hb6)
      have HB6 := Lib.hid (HB5.out.trans (hb6.mono HB5.out.size))
      clear hb6 hn cP fP cQ fQ cR fR cO fO
      obtain ⟨cR, fR⟩ := blk_rules HR6.out
      go_wp2
      refine bodyPost_ret (v := .tuple #[.agg #[.int .i64 0, .int .i64 0, .string ⟨#[]⟩, .slice none 0 0, .slice none 0 0], .bool false]) (by simp [results, Tryz.results74, go_sem, cR]) rfl ?_
      exact PTwo.none_laid (g := w.heap.size + 1 + 1) (o := 0) HV.out HB6.out (by omega)
  by_cases g5 : k1 = 5
  · subst g5
    have HRW := Lib.hid (show addRaw (.mk 5 n1 s1 keys1 list1) (.mk 5 n2 s2 keys2 list2) = some (.mk 5 n1 s1 keys1 (list1 ++ list2)) from by obtain ⟨hn0, hs0, hk0, hl0⟩ := HQ1.out; rw [hn0 (by decide), hs0 (by decide), hk0 (by decide)]; rfl)
    obtain ⟨iV, hiV, zV0, zV1, zV2⟩ := info_parts' Tryz.info_Val
    obtain ⟨us1, f1, hown0, hod, hnd, hx, hfp⟩ := HACC.out
    obtain ⟨A4', c4', us2, e4, _, _, hrd2, hrv2⟩ := HLB.out
    injection e4 with e4a _ e4c
    subst e4a e4c
    have HOWN := Lib.hid (show w4.ownsRow w2.heap.size 32 5 (.slice A8 list1.length c8) list1.length us1 from by rw [HE4.out]; exact World.ownsRow.alloc hown0 _)
    have HR2 := Lib.hid (hrd2.grow (Nat.le_refl _) (Sub.of_below (HW4.out.mono hB)))
    have HON := Lib.hid (RDv.one _ _ hrv2)
    have HAR := Lib.hid (fun (w5 : World) (v2 : Value) => add_row (n2 := list2.length) (v2 := v2) (w5 := w5) HE4.out HW4.out (by omega) (by omega) hB hown0 hod (fun b hb => ⟨(hfp b hb).1, (hfp b hb).2.1, (hfp b hb).2.2.1⟩) hrv2)
    have hzw : w2.heap.size ≤ w4.heap.size := by omega
    clear hown0 hod hnd hx hfp hrd2 hrv2
    go_upto_region 23 with (at_builtin; go_loud (refine wpList_append_reads _ rfl _ _ 30 rfl w2.heap.size 32 iV _ 5 80 Tryz.underlying30 hiV zV0 zV1 zV2 rfl (by decide) _ list1.length _ (by rfl) HOWN.out _ list2.length _ B us2 (by rfl) HR2.out HON.out (by unfold maxLen; omega) (by omega) hzw ?_; intro v2 w6 hown hg hat; obtain ⟨A9, c9, rfl, hB6, hsame, hrow⟩ := HAR.out w6 v2 hown hg hat; have HROW := Lib.hid hrow; have HB6 := Lib.hid hB6; have HS6 := Lib.hid hsame; have HZ6 := Lib.hid hg.size; have HO6 := Lib.hid (HO4.out.same (hsame _ (by omega) (.inr (by omega)))); clear hrow hB6 hsame hown hg hat cO fO; obtain ⟨cO, fO⟩ := blk_rules HO6.out))
    have HR6' := Lib.hid (HR4.out.same (HS6.out _ (by omega) (.inl (by omega))))
    clear cR fR
    obtain ⟨cR, fR⟩ := blk_rules HR6'.out
    have HRAW := Lib.hid (show addV (.mk 5 n1 s1 keys1 list1) (.mk 5 n2 s2 keys2 list2) = toldV (some (.mk 5 n1 s1 keys1 (list1 ++ list2))) from HN.out.trans (congrArg toldV HRW.out))
    go_wp2_with fail
    obtain ⟨w5, ew5⟩ : ∃ W : World, W = w6.setCell ⟨w3.heap.size, 4, none⟩ (.slice A9 (list1.length + list2.length) c9) := ⟨_, rfl⟩
    rw [← ew5]
    have hz5 : w4.heap.size ≤ w5.heap.size := by rw [ew5]; have := HZ6.out; simp [World.setCell]; omega
    refine (sTold_calls (.mk 5 n1 s1 keys1 (list1 ++ list2)) [_, _, _, _, _] w5 (w6.setCell ⟨w3.heap.size, 4, none⟩ (.slice A9 (list1.length + list2.length) c9)).heap.size (by first | omega | (rw [ew5]; exact Nat.le_refl _)) (by rw [ew5]; exact rdv_mk hs1 (by rw [(HQ1.out).2.2.1 (by decide)]; exact ⟨_, _, [], rfl, Nat.zero_le _, by simp, Reads.none_ _, rfl⟩) (by rw [List.length_append]; exact HROW.out _ _)) (by have := HCA.out; have := HCB.out; simp only [valCnt, valsCnt_app] at *; omega)).mono ?_
    have HB5 := Lib.hid (show Below w.heap.size w w5 from by rw [ew5]; exact HB6.out.setCell (by show w.heap.size ≤ w3.heap.size; omega) _)
    have HR5 := Lib.hid (show Blk w5 (w.heap.size + 1 + 1) 32 [.int .i64 0, .int .i64 0, .string ⟨#[]⟩, .slice none 0 0, .slice none 0 0] from by rw [ew5]; exact HR6'.out.far (by show w.heap.size + 1 + 1 ≠ w3.heap.size; omega) _)
    intro e w6 hP
    obtain ⟨v, d0, d1, d2, A9, n9, c9, A10, n10, c10, fp, hv, rfl, HO, HF, hb6⟩ | ⟨hn, rfl, hb6⟩ := hP.split
    · skip
      have HV := Lib.hid (HRAW.out.trans hv)
      have HR6 := Lib.hid (HR5.out.below hb6)
      have HB6 := Lib.hid (HB5.out.trans (hb6.mono HB5.out.size))
      clear hb6 hv cP fP cQ fQ cR fR cO fO
      obtain ⟨cR, fR⟩ := blk_rules HR6.out
      go_wp2
      refine bodyPost_ret (v := .tuple #[.agg #[.int .i64 d0, .int .i64 d1, .string d2, .slice A9 n9 c9, .slice A10 n10 c10], .bool true]) (by simp [results, Tryz.results74, go_sem, cR]) rfl ?_
      exact PTwo.laid (vs := [.int .i64 d0, .int .i64 d1, .string d2, .slice A9 n9 c9, .slice A10 n10 c10]) (g := w.heap.size + 1 + 1) (o := 0) HV.out HO.out HF.out HB6.out (by omega) (by omega)
    · have HV := Lib.hid (HRAW.out.trans hn)
      have HR6 := Lib.hid (HR5.out.below hb6)
      have HB6 := Lib.hid (HB5.out.trans (hb6.mono HB5.out.size))
      clear hb6 hn cP fP cQ fQ cR fR cO fO
      obtain ⟨cR, fR⟩ := blk_rules HR6.out
      go_wp2
      refine bodyPost_ret (v := .tuple #[.agg #[.int .i64 0, .int .i64 0, .string ⟨#[]⟩, .slice none 0 0, .slice none 0 0], .bool false]) (by simp [results, Tryz.results74, go_sem, cR]) rfl ?_
      exact PTwo.none_laid (g := w.heap.size + 1 + 1) (o := 0) HV.out HB6.out (by omega)
  by_cases g6 : k1 ≠ 6
  · have HRW := Lib.hid (show addRaw (.mk k1 n1 s1 keys1 list1) (.mk k1 n2 s2 keys2 list2) = none from by simp only [addRaw]; rw [if_neg g3, if_neg g4, if_neg g5, if_neg g6])
    have HV := Lib.hid (show addV (.mk k1 n1 s1 keys1 list1) (.mk k1 n2 s2 keys2 list2) = none from HN.out.trans (congrArg toldV HRW.out))
    go_wp2
    refine bodyPost_ret (v := .tuple #[.agg #[.int .i64 0, .int .i64 0, .string ⟨#[]⟩, .slice none 0 0, .slice none 0 0], .bool false]) (by simp [results, Tryz.results74, go_sem, cR]) rfl ?_
    exact PTwo.none_laid (g := w.heap.size + 1 + 1) (o := 0) HV.out HW4.out (by omega)
  obtain rfl : k1 = 6 := Classical.not_not.1 g6
  obtain rfl : n1 = 0 := HQ1.out.1 (by decide)
  obtain rfl : s1 = ⟨#[]⟩ := HQ1.out.2.1 (by decide)
  have HRW := Lib.hid (show addRaw (.mk 6 0 ⟨#[]⟩ keys1 list1) (.mk 6 n2 s2 keys2 list2) = some (ofPairs (putAll (keys1.zip list1) (keys2.zip list2))) from rfl)
  have HL1 := Lib.hid (HQ9.out rfl).1
  have HL2 := Lib.hid (HR9.out rfl).1
  have HI4 := Lib.hid (AddInv.start (c := keys1.zip list1) (cells := [.int .i64 6, .int .i64 0, .string ⟨#[]⟩, .slice A7 keys1.length c7, .slice A8 list1.length c8]) HE4.out (by rw [ofPairs_pairs HL1.out]; exact rdv_mk hs1 HK7.out HL8.out))
  have HPA := Lib.hid (PutAt.start (a := keys1.zip list1) (b := keys2.zip list2) (by rw [List.map_fst_zip (by have := HL1.out; omega)]; exact (HQ9.out rfl).2))
  go_upto_region 19 with fail
  go_wp2
  go_loopw [7] (fun i w' => ∃ (k : Nat) (c : List (ByteArray × Val)) (cells : List Value), k ≤ keys2.length ∧ i = .int .i64 k ∧ Hid (PutAt (keys1.zip list1) (keys2.zip list2) k c) ∧ Hid (AddInv w4 w3.heap.size c cells w')) (fun i _ => keys2.length - (intOf i).toNat)
  case atStart => exact ⟨0, _, _, by omega, rfl, HPA, HI4⟩
  case round =>
    obtain ⟨k, c, cells, hk, rfl, HP, HI⟩ := hrel
    obtain ⟨A9, m9, q9, A10, m10, q10, rfl⟩ := HI.out.shape
    have hzr := HI.out.upd.size
    have hne : ∀ g, g < w3.heap.size → g ∉ [w3.heap.size] := fun g hg hm => by have := List.mem_singleton.1 hm; omega
    have HPr := Lib.hid (HI.out.upd.blk (hne _ (by omega)) HP4.out)
    have HQr := Lib.hid (HI.out.upd.blk (hne _ (by omega)) HQ4.out)
    have HRr := Lib.hid (HI.out.upd.blk (hne _ (by omega)) HR4.out)
    have HWr := Lib.hid (HW4.out.trans (HI.out.upd.to_below (B := w.heap.size) (fun b hm => by have := List.mem_singleton.1 hm; omega) (by omega)))
    clear hne cP fP cQ fQ cR fR cO fO
    obtain ⟨cP, fP⟩ := blk_rules HPr.out
    obtain ⟨cQ, fQ⟩ := blk_rules HQr.out
    obtain ⟨cR, fR⟩ := blk_rules HRr.out
    obtain ⟨cO, fO⟩ := blk_rules HI.out.blk
    by_cases hlt : k < keys2.length
    · obtain ⟨ad, key, rfl, hab, hac0, hk9, HD1⟩ := row1_at HKB.out rfl hlt
      obtain ⟨ad2, x, e0, e1, e2, e3, e4, rfl, hab2, hx5, hm5, HD5, y0, y1, y2, y3, y4⟩ := row5_at HLB.out rfl (show k < list2.length by rw [← HL2.out]; exact hlt)
      have hlk : k < list2.length := by rw [← HL2.out]; exact hlt
      have hl2 := HLB.out.len
      have j0 : (0 : Int) ≤ (k : Int) := by omega
      have j1 : (k : Int) < (keys2.length : Int) := by omega
      have j2 : (k : Int) < (list2.length : Int) := by omega
      have HX5 := Lib.hid (RDv.grow (Nat.le_trans hB (show w.heap.size ≤ wr.heap.size by have := HWr.out.size; omega)) (sub_bare (show B ≤ w3.heap.size by omega) (Sub.of_below (HWr.out.mono hB))) _ _ hx5)
      have hac : wr.cell? (ad.add k) = some (.string key) := (HWr.out.cell (by rw [block_of_add]; omega)).trans hac0
      have z0 : wr.cell? (ad2.add (k * 5)) = some e0 := (HWr.out.cell (by show (ad2.add (k * 5)).block < _; rw [block_of_add]; omega)).trans y0
      have z1 : wr.cell? ⟨(ad2.add (k * 5)).block, (ad2.add (k * 5)).off + 1, none⟩ = some e1 := (HWr.out.cell (by show (ad2.add (k * 5)).block < _; rw [block_of_add]; omega)).trans y1
      have z2 : wr.cell? ⟨(ad2.add (k * 5)).block, (ad2.add (k * 5)).off + 2, none⟩ = some e2 := (HWr.out.cell (by show (ad2.add (k * 5)).block < _; rw [block_of_add]; omega)).trans y2
      have z3 : wr.cell? ⟨(ad2.add (k * 5)).block, (ad2.add (k * 5)).off + 3, none⟩ = some e3 := (HWr.out.cell (by show (ad2.add (k * 5)).block < _; rw [block_of_add]; omega)).trans y3
      have z4 : wr.cell? ⟨(ad2.add (k * 5)).block, (ad2.add (k * 5)).off + 4, none⟩ = some e4 := (HWr.out.cell (by show (ad2.add (k * 5)).block < _; rw [block_of_add]; omega)).trans y4
      have HPS := Lib.hid (HP.out.step (zip_drop_at HD1.out HD5.out))
      have HC1 := Lib.hid (show c.length ≤ 1000 by have h := HP.out.2.2.1; rw [List.length_zip] at h; omega)
      clear hac0 hx5 hm5 y0 y1 y2 y3 y4
      go_upto_region 22 with fail
      go_still_tail 11, (by kernel_rfl)
      change wpList _ _ _ _ _ wr.drew
      go_wp2_with fail
      refine (l2Put_calls (ofPairs c) key x [_, _, _, _, _] [_, _, _, _, _] wr.drew (bare wr w3.heap.size) wr.heap.size (Nat.le_refl _) (bare_sub _ _ _) HI.out.rd HX5.out hk9 (by simp [ofPairs, vKeys, vList]) (by have := HC1.out; simp only [ofPairs, vKeys, List.length_map]; omega) HP.out.2.1).mono ?_
      rintro e w5 ⟨vs, rfl, hr, hb5⟩
      rw [pairs_of] at hr
      have HST := Lib.hid (HI.out.step (w5 := w5) (c' := putP c key x) (cells' := vs) (by have h := RDv.length_eq (hr w5 (Sub.trans (bare_sub _ _ _) (Sub.of_below ⟨hb5.os, hb5.tape, hb5.output, hb5.size, hb5.block⟩)) (fun _ _ _ => rfl) rfl); rw [valDs_length] at h; exact h.symm) ⟨hb5.os, hb5.tape, hb5.output, hb5.size, hb5.block⟩ hr)
      obtain ⟨A11, m11, q11, A12, m12, q12, rfl⟩ := HST.out.shape
      have HO5 := Lib.hid (show Blk w5 w3.heap.size 32 [.int .i64 6, .int .i64 0, .string ⟨#[]⟩, .slice A9 m9 q9, .slice A10 m10 q10] from HI.out.blk.same (hb5.block _ HI.out.blk.lt))
      clear hr hb5 cO fO hac z0 z1 z2 z3 z4
      obtain ⟨cO, fO⟩ := blk_rules HO5.out
      go_wp2
      go_roundw
      case rel => exact ⟨k + 1, _, _, by omega, by go_num, HPS, HST⟩
      case measure => simp [intOf]; omega
    · obtain rfl : k = keys2.length := by omega
      have HPD := Lib.hid (show c = putAll (keys1.zip list1) (keys2.zip list2) from PutAt.done (by have h := HP.out; rwa [show keys2.length = (keys2.zip list2).length from by have := HL2.out; rw [List.length_zip]; omega] at h))
      have HCN := Lib.hid (show valCnt (ofPairs c) ≤ 1099511627776 from by have h1 := HCA.out; have h2 := HCB.out; have h3 := HP.out.2.2.2; have h4 := HL1.out; have h5 := HL2.out; rw [List.take_of_length_le (by rw [List.length_zip]; omega), List.map_snd_zip (by omega), List.map_snd_zip (by omega)] at h3; simp only [ofPairs, valCnt] at *; omega)
      have HRAW := Lib.hid (show addV (.mk 6 0 ⟨#[]⟩ keys1 list1) (.mk 6 n2 s2 keys2 list2) = toldV (some (ofPairs c)) from HN.out.trans (congrArg toldV (HRW.out.trans (congrArg (fun c => some (ofPairs c)) HPD.out.symm))))
      go_wp2_with fail
      obtain ⟨w5, ew5⟩ : ∃ W : World, W = wr := ⟨_, rfl⟩
      rw [← ew5]
      have hz5 : w4.heap.size ≤ w5.heap.size := by rw [ew5]; exact hzr
      refine (sTold_calls (ofPairs c) [_, _, _, _, _] w5 wr.heap.size (by first | omega | (rw [ew5]; exact Nat.le_refl _)) (by rw [ew5]; exact RDv.grow (Nat.le_refl _) (bare_sub _ _ _) _ _ HI.out.rd) HCN.out).mono ?_
      have HB5 := Lib.hid (show Below w.heap.size w w5 from by rw [ew5]; exact HWr.out)
      have HR5 := Lib.hid (show Blk w5 (w.heap.size + 1 + 1) 32 [.int .i64 0, .int .i64 0, .string ⟨#[]⟩, .slice none 0 0, .slice none 0 0] from by rw [ew5]; exact HRr.out)
      intro e w6 hP
      obtain ⟨v, d0, d1, d2, A9, n9, c9, A10, n10, c10, fp, hv, rfl, HO, HF, hb6⟩ | ⟨hn, rfl, hb6⟩ := hP.split
      · skip
        have HV := Lib.hid (HRAW.out.trans hv)
        have HR6 := Lib.hid (HR5.out.below hb6)
        have HB6 := Lib.hid (HB5.out.trans (hb6.mono HB5.out.size))
        clear hb6 hv cP fP cQ fQ cR fR cO fO
        obtain ⟨cR, fR⟩ := blk_rules HR6.out
        go_wp2
        refine bodyPost_ret (v := .tuple #[.agg #[.int .i64 d0, .int .i64 d1, .string d2, .slice A9 n9 c9, .slice A10 n10 c10], .bool true]) (by simp [results, Tryz.results74, go_sem, cR]) rfl ?_
        exact PTwo.laid (vs := [.int .i64 d0, .int .i64 d1, .string d2, .slice A9 n9 c9, .slice A10 n10 c10]) (g := w.heap.size + 1 + 1) (o := 0) HV.out HO.out HF.out HB6.out (by omega) (by omega)
      · have HV := Lib.hid (HRAW.out.trans hn)
        have HR6 := Lib.hid (HR5.out.below hb6)
        have HB6 := Lib.hid (HB5.out.trans (hb6.mono HB5.out.size))
        clear hb6 hn cP fP cQ fQ cR fR cO fO
        obtain ⟨cR, fR⟩ := blk_rules HR6.out
        go_wp2
        refine bodyPost_ret (v := .tuple #[.agg #[.int .i64 0, .int .i64 0, .string ⟨#[]⟩, .slice none 0 0, .slice none 0 0], .bool false]) (by simp [results, Tryz.results74, go_sem, cR]) rfl ?_
        exact PTwo.none_laid (g := w.heap.size + 1 + 1) (o := 0) HV.out HB6.out (by omega)
end Go.Proofs.YtppfgepoegicgaaGreatDoor
