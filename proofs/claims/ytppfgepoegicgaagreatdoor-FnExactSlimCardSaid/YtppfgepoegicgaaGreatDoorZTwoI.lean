/- Two trees made one: the program's. -/
import Derived.Test.YtppfgepoegicgaaGreatDoorGq
import Derived.Test.YtppfgepoegicgaaGreatDoorZTwoS
import Derived.Test.YtppfgepoegicgaaGreatDoorGz
import Derived.Test.YtppfgepoegicgaaGreatDoorGaa
namespace Go.Proofs.YtppfgepoegicgaaGreatDoor
open Go Go.RowKit

theorem impl_truth_calls : TruthC 66 := fun b w => by
  cases b
  · go_enter Tryz.func66, Tryz.ntmps66
    go_wp2
    refine bodyPost_ret (v := .agg #[.int .i64 1, .int .i64 0, .string ⟨#[]⟩, .slice none 0 0, .slice none 0 0]) (by simp [results, Tryz.results66, go_sem]) rfl ?_
    exact ⟨_, (rfl : (_ : Int) = _), rfl, below_box _ _⟩
  · go_enter Tryz.func66, Tryz.ntmps66
    go_wp2
    refine bodyPost_ret (v := .agg #[.int .i64 2, .int .i64 0, .string ⟨#[]⟩, .slice none 0 0, .slice none 0 0]) (by simp [results, Tryz.results66, go_sem]) rfl ?_
    exact ⟨_, (rfl : (_ : Int) = _), rfl, below_box _ _⟩
set_option maxRecDepth 100000 in
theorem iOn_calls (v : Val) (us : List Value) (w : World) (B : Nat) (h : RDv w B (valDs v) us) : Calls Tryz.prog 43 #[.agg us.toArray] w (PBool (onV v) w) := by
  obtain ⟨k1, n1, s1, keys1, list1, A1, c1, A2, c2, rfl, rfl, hs1, hk1, hl1⟩ := valDs_open h
  clear h hk1 hl1
  by_cases e0 : k1 = 0
  · subst e0
    go_enter Tryz.func43, Tryz.ntmps43
    go_wp2
    go_ret
    exact PBool.no (fun h => h.1 rfl) (below_box _ _)
  by_cases e1 : k1 = 1
  · subst e1
    go_enter Tryz.func43, Tryz.ntmps43
    go_wp2
    go_ret
    exact PBool.no (fun h => h.2 rfl) (below_box _ _)
  have f0 : (k1 == 0) = false := by simp [e0]
  have f1 : (k1 == 1) = false := by simp [e1]
  go_enter Tryz.func43, Tryz.ntmps43
  go_wp2
  go_ret
  exact ⟨_, rfl, by simp [onV, vKind], below_box _ _⟩
open Classical in
set_option maxRecDepth 100000 in
set_option maxHeartbeats 8000000 in
theorem iTwo_calls (kind : Int) (a b : Val) (ua ub : List Value) (w : World) (B : Nat) (hB : B ≤ w.heap.size) (ha : RDv w B (valDs a) ua) (hb : RDv w B (valDs b) ub) (oa : ValOk a) (ob : ValOk b) (hkind : kind = 9 ∨ kind = 10 ∨ kind = 11) :
    Calls Tryz.prog 44 #[.int .i64 kind, .agg ua.toArray, .agg ub.toArray] w (PTwo (twoV kind a b) w) := by
  obtain ⟨a0, a1, a2, A1, m1, c1, A2, m2, c2, rfl⟩ := valDs_shape ha
  obtain ⟨b0, b1, b2, A3, m3, c3, A4, m4, c4, rfl⟩ := valDs_shape hb
  have HA := Lib.hid ha
  have HB := Lib.hid hb
  clear ha hb
  have HBX := Lib.hid (below_box3 w (.cells #[.int .i64 a0, .int .i64 a1, .string a2, .slice A1 m1 c1, .slice A2 m2 c2] 32) (.cells #[.int .i64 b0, .int .i64 b1, .string b2, .slice A3 m3 c3, .slice A4 m4 c4] 32) (.cells #[.int .i64 0, .int .i64 0, .string ⟨#[]⟩, .slice none 0 0, .slice none 0 0] 32))
  obtain rfl | rfl | rfl := hkind
  · go_enter Tryz.func44, Tryz.ntmps44
    go_wp2_with fail
    refine (iAdd_calls a b [_, _, _, _, _] [_, _, _, _, _] _ B (Nat.le_trans hB HBX.out.size) (HA.out.below (HBX.out.mono hB)) (HB.out.below (HBX.out.mono hB)) oa ob).mono ?_
    intro e w1 hP
    obtain ⟨v, d0, d1, d2, A9, n9, c9, A10, n10, c10, fp, hv, rfl, HO, HF, hb1⟩ | ⟨hn, rfl, hb1⟩ := hP.split
    · have HV := Lib.hid (show twoV 9 a b = some v from (if_pos rfl).trans hv)
      have HF2 := Lib.hid (HF.out.from_ HBX.out.size)
      obtain ⟨hb, hz, bP, bQ, bR⟩ := boxes3 (P := [_, _, _, _, _]) (R := [_, _, _, _, _]) (O := [_, _, _, _, _]) hb1
      have HRb := Lib.hid bR
      obtain ⟨cR, fR⟩ := blk_rules bR
      clear hv hb1 bP bQ bR
      go_wp2
      refine bodyPost_ret (v := .tuple #[.agg #[.int .i64 d0, .int .i64 d1, .string d2, .slice A9 n9 c9, .slice A10 n10 c10], .bool true]) (by simp [results, Tryz.results44, go_sem, cR]) rfl ?_
      exact PTwo.laid (vs := [.int .i64 d0, .int .i64 d1, .string d2, .slice A9 n9 c9, .slice A10 n10 c10]) (g := w.heap.size + 1 + 1) (o := 0) HV.out HO.out HF.out hb (by omega) (by simp)
    · have HV := Lib.hid (show twoV 9 a b = none from (if_pos rfl).trans hn)
      obtain ⟨hb, hz, bP, bQ, bR⟩ := boxes3 (P := [_, _, _, _, _]) (R := [_, _, _, _, _]) (O := [_, _, _, _, _]) hb1
      have HRb := Lib.hid bR
      obtain ⟨cR, fR⟩ := blk_rules bR
      clear hn hb1 bP bQ bR
      go_wp2
      refine bodyPost_ret (v := .tuple #[.agg #[.int .i64 0, .int .i64 0, .string ⟨#[]⟩, .slice none 0 0, .slice none 0 0], .bool false]) (by simp [results, Tryz.results44, go_sem, cR]) rfl ?_
      exact PTwo.none_laid (g := w.heap.size + 1 + 1) (o := 0) HV.out hb (by omega)
  · go_enter Tryz.func44, Tryz.ntmps44
    go_wp2_with fail
    refine (iOrd_calls a b [_, _, _, _, _] [_, _, _, _, _] _ B (Nat.le_trans hB HBX.out.size) (HA.out.below (HBX.out.mono hB)) (HB.out.below (HBX.out.mono hB))).mono ?_
    rintro e w1 ⟨rfl, hb1⟩
    have HV := Lib.hid (show twoV 10 a b = some (truthV (decide (ordV a b < 0))) from (if_neg (by decide)).trans (if_pos rfl))
    obtain ⟨t, et⟩ : ∃ t : Bool, t = decide (ordV a b < 0) := ⟨_, rfl⟩
    have ET := Lib.hid et
    clear et
    obtain ⟨hb, hz, bP, bQ, bR⟩ := boxes3 (P := [_, _, _, _, _]) (R := [_, _, _, _, _]) (O := [_, _, _, _, _]) hb1
    have HRb := Lib.hid bR
    obtain ⟨cR, fR⟩ := blk_rules bR
    clear hb1 bP bQ bR
    go_wp2_with fail
    rw [← ET.out]
    refine (impl_truth_calls t w1).mono ?_
    rintro e w2 ⟨tn, HTN, rfl, hb2⟩
    have HR2 := Lib.hid (HRb.out.below hb2)
    have HB2 := Lib.hid (hb.trans (hb2.mono (by omega)))
    have hz2 := hb2.size
    clear hb2 cR fR
    obtain ⟨cR, fR⟩ := blk_rules HR2.out
    go_wp2
    refine bodyPost_ret (v := .tuple #[.agg #[.int .i64 tn, .int .i64 0, .string ⟨#[]⟩, .slice none 0 0, .slice none 0 0], .bool true]) (by simp [results, Tryz.results44, go_sem, cR]) rfl ?_
    exact PTwo.laid (vs := [.int .i64 tn, .int .i64 0, .string ⟨#[]⟩, .slice none 0 0, .slice none 0 0]) (g := w.heap.size + 1 + 1) (o := 0) (HV.out.trans (congrArg (fun t => some (truthV t)) ET.out.symm)) (by have h := truth_own t; rw [← HTN.out] at h; exact h _) (Fresh.nil w2 _) HB2.out (by omega) (by omega)
  · go_enter Tryz.func44, Tryz.ntmps44
    go_wp2_with fail
    refine (iSameVal_calls a b [_, _, _, _, _] [_, _, _, _, _] _ B (Nat.le_trans hB HBX.out.size) (HA.out.below (HBX.out.mono hB)) (HB.out.below (HBX.out.mono hB))).mono ?_
    rintro e w1 ⟨t, rfl, ht, hb1⟩
    have HV := Lib.hid (show twoV 11 a b = some (truthV (decide (a = b))) from (if_neg (by decide)).trans (if_neg (by decide)))
    have ET := Lib.hid (show t = decide (a = b) from by rw [Bool.eq_iff_iff]; simp [ht])
    clear ht
    obtain ⟨hb, hz, bP, bQ, bR⟩ := boxes3 (P := [_, _, _, _, _]) (R := [_, _, _, _, _]) (O := [_, _, _, _, _]) hb1
    have HRb := Lib.hid bR
    obtain ⟨cR, fR⟩ := blk_rules bR
    clear hb1 bP bQ bR
    go_wp2_with fail
    refine (impl_truth_calls t w1).mono ?_
    rintro e w2 ⟨tn, HTN, rfl, hb2⟩
    have HR2 := Lib.hid (HRb.out.below hb2)
    have HB2 := Lib.hid (hb.trans (hb2.mono (by omega)))
    have hz2 := hb2.size
    clear hb2 cR fR
    obtain ⟨cR, fR⟩ := blk_rules HR2.out
    go_wp2
    refine bodyPost_ret (v := .tuple #[.agg #[.int .i64 tn, .int .i64 0, .string ⟨#[]⟩, .slice none 0 0, .slice none 0 0], .bool true]) (by simp [results, Tryz.results44, go_sem, cR]) rfl ?_
    exact PTwo.laid (vs := [.int .i64 tn, .int .i64 0, .string ⟨#[]⟩, .slice none 0 0, .slice none 0 0]) (g := w.heap.size + 1 + 1) (o := 0) (HV.out.trans (congrArg (fun t => some (truthV t)) ET.out.symm)) (by have h := truth_own t; rw [← HTN.out] at h; exact h _) (Fresh.nil w2 _) HB2.out (by omega) (by omega)
end Go.Proofs.YtppfgepoegicgaaGreatDoor
