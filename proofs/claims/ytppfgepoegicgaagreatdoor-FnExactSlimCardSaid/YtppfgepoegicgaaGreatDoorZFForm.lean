/- Parts of the proof: FForm. -/
import Derived.Test.YtppfgepoegicgaaGreatDoorGac
import Derived.Test.YtppfgepoegicgaaGreatDoorZFClean
import Derived.Test.YtppfgepoegicgaaGreatDoorGw
import Derived.Deep.DrawnRows
namespace Go.Proofs.YtppfgepoegicgaaGreatDoor
open Go Go.RowKit

def SFForm (x : Filt) : Prop := ∀ (us : List Value) (w : World) (B d : Nat) (di : Int), di = d → d ≤ 7 → B ≤ w.heap.size → RDv w B (filtDs x) us → VSm x →
  Calls Tryz.prog 29 #[.agg us.toArray, .int .i64 di] w (PBool (FForm d x) w)

set_option maxRecDepth 100000 in
set_option maxHeartbeats 8000000 in
theorem sFForm_of (x : Filt) (ih : ∀ kind n s v kids, x = .mk kind n s v kids → ∀ y ∈ kids, SFForm y) : SFForm x := by
  intro us w B d di hdi hd hB h hsm
  subst hdi
  obtain ⟨kind, n, s, v, kids, a3, a4, a5, A6, n6, q6, A7, n7, q7, A8, q8, rfl, rfl, hs, hv, hk⟩ := filtDs_all h
  have IH := Lib.hid (ih _ _ _ _ _ rfl)
  simp only [VSm] at hsm
  have hC1 := hsm.1
  have HSM := Lib.hid (fun y (hy : y ∈ kids) => vsm_mem hsm.2 hy)
  have HX := Lib.hid h
  have HV := Lib.hid hv
  have HK := Lib.hid hk
  have hn := hk.len
  obtain ⟨W, eW⟩ : ∃ W, W = w.alloc (.cells #[.int .i64 kind, .int .i64 n, .string s, .int .i64 a3, .int .i64 a4, .string a5, .slice A6 n6 q6, .slice A7 n7 q7, .slice A8 kids.length q8] 35) := ⟨_, rfl⟩
  have hW : Below w.heap.size w W := by rw [eW]; exact below_box _ _
  have hWs : w.heap.size ≤ W.heap.size := hW.size
  have hWz : w.heap.size + 1 ≤ W.heap.size := by rw [eW]; simp
  have bW : Blk W w.heap.size 35 [.int .i64 kind, .int .i64 n, .string s, .int .i64 a3, .int .i64 a4, .string a5, .slice A6 n6 q6, .slice A7 n7 q7, .slice A8 kids.length q8] := by rw [eW]; exact Blk.new _ _ _
  have EW := Lib.hid eW
  have K2 := Lib.hid (show Has [(w.heap.size, [.int .i64 kind, .int .i64 n, .string s, .int .i64 a3, .int .i64 a4, .string a5, .slice A6 n6 q6, .slice A7 n7 q7, .slice A8 kids.length q8])] W.drew from
    Has.cons (show w.heap.size < W.heap.size by omega) (fun i u hu => (bW.cell i).trans hu) (Has.nil _))
  have DW := Lib.hid (show Below W.heap.size W W.drew from (Below.refl _ _).drew)
  have hWd := hW.trans (DW.out.mono hWs)
  have HXW := Lib.hid (HX.out.below (hWd.mono hB))
  have HVW := Lib.hid (HV.out.below (hWd.mono hB))
  have hBw : B ≤ W.drew.heap.size := show B ≤ W.heap.size by omega
  have HBW := Lib.hid bW
  clear ih hsm h hv hk eW bW
  by_cases t0 : d = 0
  case pos =>
    have HN := Lib.hid (show ¬ FForm d (.mk kind n s v kids) from by subst t0; exact fun h => h)
    have dd : decide ((d : Int) < 1) = true := by subst t0; rfl
    clear t0
    go_enter Tryz.func29, Tryz.ntmps29
    go_wp2_with fail
    rw [← EW.out]
    obtain ⟨cW, fW⟩ := blk_rules HBW.out
    go_quiet (fail)
    have hbf := hW
    go_wp2
    go_ret
    exact PBool.no HN.out (below_drewN hbf _)
  have dd : decide ((d : Int) < 1) = false := by simp; omega
  have HF := Lib.hid (fform_iff t0 (kind := kind) (n := n) (s := s) (v := v) (kids := kids))
  by_cases tk : kidsOf kind = kids.length
  case neg =>
    have HN := Lib.hid (show ¬ FForm d (.mk kind n s v kids) from fun h => tk (HF.out.1 h).1.1)
    have d5 : (kidsOf kind != (kids.length : Int)) = true := by simpa using tk
    clear tk t0
    go_enter Tryz.func29, Tryz.ntmps29
    go_wp2_with fail
    rw [← EW.out]
    obtain ⟨cW, fW⟩ := blk_rules HBW.out
    go_quiet ((go_at_call 54; exact Calls.quiet_of_same (kids_calls kind _)))
    have hbf := hW
    go_wp2
    go_ret
    exact PBool.no HN.out (below_drewN hbf _)
  have d5 : (kidsOf kind != (kids.length : Int)) = false := by simpa using tk
  have TK := Lib.hid tk
  clear tk
  by_cases hcl : FClean kind n s v
  case neg =>
    have HN := Lib.hid (show ¬ FForm d (.mk kind n s v kids) from fun h => hcl (HF.out.1 h).1.2.1)
    clear t0
    go_enter Tryz.func29, Tryz.ntmps29
    go_wp2_with fail
    rw [← EW.out]
    have k0 := K2.out.head 0 rfl
    have k1 := K2.out.head 1 rfl
    have k2 := K2.out.head 2 rfl
    have k3 := K2.out.head 3 rfl
    have k4 := K2.out.head 4 rfl
    have k5 := K2.out.head 5 rfl
    have k6 := K2.out.head 6 rfl
    have k7 := K2.out.head 7 rfl
    have k8 := K2.out.head 8 rfl
    refine wp_region_still_tail 13 (by kernel_rfl) (by kernel_rfl) ?_
    simp only [List.take_succ_cons, List.take_zero, List.drop_succ_cons, List.drop_zero]
    repeat still_step
    still_call (kids_calls kind _)
    repeat still_step
    try refine wpStill_nil ?_
    change wpList _ _ _ _ _ W.drew
    go_wp2_with fail
    refine ((sClean_calls kind n s v kids [.int .i64 kind, .int .i64 n, .string s, .int .i64 a3, .int .i64 a4, .string a5, .slice A6 n6 q6, .slice A7 n7 q7, .slice A8 kids.length q8] W.drew B hBw HXW.out).mono fun e w' h => h.false_ hcl).mono ?_
    rintro e w3 ⟨rfl, hb3⟩
    have K3 := Lib.hid (K2.out.below hb3)
    clear k0 k1 k2 k3 k4 k5 k6 k7 k8
    have hbf := ((hW.trans (DW.out.mono hWs)).trans (hb3.mono hWs))
    go_wp2
    go_ret
    exact PBool.no HN.out hbf
  by_cases ht : TextOk s
  case neg =>
    have HN := Lib.hid (show ¬ FForm d (.mk kind n s v kids) from fun h => ht (HF.out.1 h).1.2.2.1)
    clear t0
    go_enter Tryz.func29, Tryz.ntmps29
    go_wp2_with fail
    rw [← EW.out]
    have k0 := K2.out.head 0 rfl
    have k1 := K2.out.head 1 rfl
    have k2 := K2.out.head 2 rfl
    have k3 := K2.out.head 3 rfl
    have k4 := K2.out.head 4 rfl
    have k5 := K2.out.head 5 rfl
    have k6 := K2.out.head 6 rfl
    have k7 := K2.out.head 7 rfl
    have k8 := K2.out.head 8 rfl
    refine wp_region_still_tail 13 (by kernel_rfl) (by kernel_rfl) ?_
    simp only [List.take_succ_cons, List.take_zero, List.drop_succ_cons, List.drop_zero]
    repeat still_step
    still_call (kids_calls kind _)
    repeat still_step
    try refine wpStill_nil ?_
    change wpList _ _ _ _ _ W.drew
    go_wp2_with fail
    refine ((sClean_calls kind n s v kids [.int .i64 kind, .int .i64 n, .string s, .int .i64 a3, .int .i64 a4, .string a5, .slice A6 n6 q6, .slice A7 n7 q7, .slice A8 kids.length q8] W.drew B hBw HXW.out).mono fun e w' h => h.true_ hcl).mono ?_
    rintro e w3 ⟨rfl, hb3⟩
    have K3 := Lib.hid (K2.out.below hb3)
    clear k0 k1 k2 k3 k4 k5 k6 k7 k8
    have k1 := K3.out.head 1 rfl
    have k2 := K3.out.head 2 rfl
    have k3 := K3.out.head 3 rfl
    have k4 := K3.out.head 4 rfl
    have k5 := K3.out.head 5 rfl
    have k6 := K3.out.head 6 rfl
    have k7 := K3.out.head 7 rfl
    go_wp2_with fail
    refine ((sTextOk_calls s w3 hs).mono fun e w' h => h.false_ ht).mono ?_
    rintro e w4 ⟨rfl, ew4⟩
    rw [ew4]
    clear ew4
    have hbf := ((hW.trans (DW.out.mono hWs)).trans (hb3.mono hWs))
    go_wp2
    go_ret
    exact PBool.no HN.out hbf
  by_cases m0 : n < -60
  case pos =>
    have HN := Lib.hid (show ¬ FForm d (.mk kind n s v kids) from fun h => absurd (HF.out.1 h).1.2.2.2.1.1 (by omega))
    have e0 : decide (n < -60) = true := by simpa using m0
    clear t0 m0
    go_enter Tryz.func29, Tryz.ntmps29
    go_wp2_with fail
    rw [← EW.out]
    have k0 := K2.out.head 0 rfl
    have k1 := K2.out.head 1 rfl
    have k2 := K2.out.head 2 rfl
    have k3 := K2.out.head 3 rfl
    have k4 := K2.out.head 4 rfl
    have k5 := K2.out.head 5 rfl
    have k6 := K2.out.head 6 rfl
    have k7 := K2.out.head 7 rfl
    have k8 := K2.out.head 8 rfl
    refine wp_region_still_tail 13 (by kernel_rfl) (by kernel_rfl) ?_
    simp only [List.take_succ_cons, List.take_zero, List.drop_succ_cons, List.drop_zero]
    repeat still_step
    still_call (kids_calls kind _)
    repeat still_step
    try refine wpStill_nil ?_
    change wpList _ _ _ _ _ W.drew
    go_wp2_with fail
    refine ((sClean_calls kind n s v kids [.int .i64 kind, .int .i64 n, .string s, .int .i64 a3, .int .i64 a4, .string a5, .slice A6 n6 q6, .slice A7 n7 q7, .slice A8 kids.length q8] W.drew B hBw HXW.out).mono fun e w' h => h.true_ hcl).mono ?_
    rintro e w3 ⟨rfl, hb3⟩
    have K3 := Lib.hid (K2.out.below hb3)
    clear k0 k1 k2 k3 k4 k5 k6 k7 k8
    have k1 := K3.out.head 1 rfl
    have k2 := K3.out.head 2 rfl
    have k3 := K3.out.head 3 rfl
    have k4 := K3.out.head 4 rfl
    have k5 := K3.out.head 5 rfl
    have k6 := K3.out.head 6 rfl
    have k7 := K3.out.head 7 rfl
    go_wp2_with fail
    refine ((sTextOk_calls s w3 hs).mono fun e w' h => h.true_ ht).mono ?_
    rintro e w4 ⟨rfl, ew4⟩
    rw [ew4]
    clear ew4
    have hbf := ((hW.trans (DW.out.mono hWs)).trans (hb3.mono hWs))
    go_wp2
    go_ret
    exact PBool.no HN.out hbf
  have e0 : decide (n < -60) = false := by simpa using m0
  by_cases m1 : 60 ≤ n
  case pos =>
    have HN := Lib.hid (show ¬ FForm d (.mk kind n s v kids) from fun h => absurd (HF.out.1 h).1.2.2.2.1.2 (by omega))
    have e1 : decide (60 ≤ n) = true := by simpa using m1
    clear t0 m1
    go_enter Tryz.func29, Tryz.ntmps29
    go_wp2_with fail
    rw [← EW.out]
    have k0 := K2.out.head 0 rfl
    have k1 := K2.out.head 1 rfl
    have k2 := K2.out.head 2 rfl
    have k3 := K2.out.head 3 rfl
    have k4 := K2.out.head 4 rfl
    have k5 := K2.out.head 5 rfl
    have k6 := K2.out.head 6 rfl
    have k7 := K2.out.head 7 rfl
    have k8 := K2.out.head 8 rfl
    refine wp_region_still_tail 13 (by kernel_rfl) (by kernel_rfl) ?_
    simp only [List.take_succ_cons, List.take_zero, List.drop_succ_cons, List.drop_zero]
    repeat still_step
    still_call (kids_calls kind _)
    repeat still_step
    try refine wpStill_nil ?_
    change wpList _ _ _ _ _ W.drew
    go_wp2_with fail
    refine ((sClean_calls kind n s v kids [.int .i64 kind, .int .i64 n, .string s, .int .i64 a3, .int .i64 a4, .string a5, .slice A6 n6 q6, .slice A7 n7 q7, .slice A8 kids.length q8] W.drew B hBw HXW.out).mono fun e w' h => h.true_ hcl).mono ?_
    rintro e w3 ⟨rfl, hb3⟩
    have K3 := Lib.hid (K2.out.below hb3)
    clear k0 k1 k2 k3 k4 k5 k6 k7 k8
    have k1 := K3.out.head 1 rfl
    have k2 := K3.out.head 2 rfl
    have k3 := K3.out.head 3 rfl
    have k4 := K3.out.head 4 rfl
    have k5 := K3.out.head 5 rfl
    have k6 := K3.out.head 6 rfl
    have k7 := K3.out.head 7 rfl
    go_wp2_with fail
    refine ((sTextOk_calls s w3 hs).mono fun e w' h => h.true_ ht).mono ?_
    rintro e w4 ⟨rfl, ew4⟩
    rw [ew4]
    clear ew4
    have hbf := ((hW.trans (DW.out.mono hWs)).trans (hb3.mono hWs))
    go_wp2
    go_ret
    exact PBool.no HN.out hbf
  have e1 : decide (60 ≤ n) = false := by simpa using m1
  by_cases hvo : ValOk v
  case neg =>
    have HN := Lib.hid (show ¬ FForm d (.mk kind n s v kids) from fun h => hvo (HF.out.1 h).1.2.2.2.2)
    clear t0
    go_enter Tryz.func29, Tryz.ntmps29
    go_wp2_with fail
    rw [← EW.out]
    have k0 := K2.out.head 0 rfl
    have k1 := K2.out.head 1 rfl
    have k2 := K2.out.head 2 rfl
    have k3 := K2.out.head 3 rfl
    have k4 := K2.out.head 4 rfl
    have k5 := K2.out.head 5 rfl
    have k6 := K2.out.head 6 rfl
    have k7 := K2.out.head 7 rfl
    have k8 := K2.out.head 8 rfl
    refine wp_region_still_tail 13 (by kernel_rfl) (by kernel_rfl) ?_
    simp only [List.take_succ_cons, List.take_zero, List.drop_succ_cons, List.drop_zero]
    repeat still_step
    still_call (kids_calls kind _)
    repeat still_step
    try refine wpStill_nil ?_
    change wpList _ _ _ _ _ W.drew
    go_wp2_with fail
    refine ((sClean_calls kind n s v kids [.int .i64 kind, .int .i64 n, .string s, .int .i64 a3, .int .i64 a4, .string a5, .slice A6 n6 q6, .slice A7 n7 q7, .slice A8 kids.length q8] W.drew B hBw HXW.out).mono fun e w' h => h.true_ hcl).mono ?_
    rintro e w3 ⟨rfl, hb3⟩
    have K3 := Lib.hid (K2.out.below hb3)
    clear k0 k1 k2 k3 k4 k5 k6 k7 k8
    have k1 := K3.out.head 1 rfl
    have k2 := K3.out.head 2 rfl
    have k3 := K3.out.head 3 rfl
    have k4 := K3.out.head 4 rfl
    have k5 := K3.out.head 5 rfl
    have k6 := K3.out.head 6 rfl
    have k7 := K3.out.head 7 rfl
    go_wp2_with fail
    refine ((sTextOk_calls s w3 hs).mono fun e w' h => h.true_ ht).mono ?_
    rintro e w4 ⟨rfl, ew4⟩
    rw [ew4]
    clear ew4
    go_wp2_with fail
    refine ((sValOk_calls v [.int .i64 a3, .int .i64 a4, .string a5, .slice A6 n6 q6, .slice A7 n7 q7] w3 B (Nat.le_trans hBw hb3.size) (HVW.out.below (hb3.mono hBw)) hC1).mono fun e w' h => h.false_ hvo).mono ?_
    rintro e w5 ⟨rfl, hb5⟩
    have K4 := Lib.hid (K3.out.below hb5)
    clear k1 k2 k3 k4 k5 k6 k7
    have hbf := (((hW.trans (DW.out.mono hWs)).trans (hb3.mono hWs)).trans (hb5.mono (Nat.le_trans hWs hb3.size)))
    go_wp2
    go_ret
    exact PBool.no HN.out hbf
  have HI := Lib.hid (show FForm d (.mk kind n s v kids) ↔ (∀ x ∈ kids, FForm (d - 1) x) ∧ (kind = 20 → evAt tabLooks kids 0 = true) from HF.out.trans ⟨fun h => h.2, fun h => ⟨⟨TK.out, hcl, ht, ⟨by omega, by omega⟩, hvo⟩, h⟩⟩)
  clear HF
  go_enter Tryz.func29, Tryz.ntmps29
  go_wp2_with fail
  rw [← EW.out]
  have k0 := K2.out.head 0 rfl
  have k1 := K2.out.head 1 rfl
  have k2 := K2.out.head 2 rfl
  have k3 := K2.out.head 3 rfl
  have k4 := K2.out.head 4 rfl
  have k5 := K2.out.head 5 rfl
  have k6 := K2.out.head 6 rfl
  have k7 := K2.out.head 7 rfl
  have k8 := K2.out.head 8 rfl
  refine wp_region_still_tail 13 (by kernel_rfl) (by kernel_rfl) ?_
  simp only [List.take_succ_cons, List.take_zero, List.drop_succ_cons, List.drop_zero]
  repeat still_step
  still_call (kids_calls kind _)
  repeat still_step
  try refine wpStill_nil ?_
  change wpList _ _ _ _ _ W.drew
  go_wp2_with fail
  refine ((sClean_calls kind n s v kids [.int .i64 kind, .int .i64 n, .string s, .int .i64 a3, .int .i64 a4, .string a5, .slice A6 n6 q6, .slice A7 n7 q7, .slice A8 kids.length q8] W.drew B hBw HXW.out).mono fun e w' h => h.true_ hcl).mono ?_
  rintro e w3 ⟨rfl, hb3⟩
  have K3 := Lib.hid (K2.out.below hb3)
  clear k0 k1 k2 k3 k4 k5 k6 k7 k8
  have k1 := K3.out.head 1 rfl
  have k2 := K3.out.head 2 rfl
  have k3 := K3.out.head 3 rfl
  have k4 := K3.out.head 4 rfl
  have k5 := K3.out.head 5 rfl
  have k6 := K3.out.head 6 rfl
  have k7 := K3.out.head 7 rfl
  go_wp2_with fail
  refine ((sTextOk_calls s w3 hs).mono fun e w' h => h.true_ ht).mono ?_
  rintro e w4 ⟨rfl, ew4⟩
  rw [ew4]
  clear ew4
  go_wp2_with fail
  refine ((sValOk_calls v [.int .i64 a3, .int .i64 a4, .string a5, .slice A6 n6 q6, .slice A7 n7 q7] w3 B (Nat.le_trans hBw hb3.size) (HVW.out.below (hb3.mono hBw)) hC1).mono fun e w' h => h.true_ hvo).mono ?_
  rintro e w5 ⟨rfl, hb5⟩
  have K4 := Lib.hid (K3.out.below hb5)
  clear k1 k2 k3 k4 k5 k6 k7
  have hW5 := Lib.hid (show Below (w.heap.size + 1) W w5 from (DW.out.mono hWz).trans ((hb3.mono (show w.heap.size + 1 ≤ W.heap.size from hWz)).trans (hb5.mono (Nat.le_trans (show w.heap.size + 1 ≤ W.heap.size from hWz) hb3.size))))
  clear hb3 hb5 K2 K3 K4 HXW HVW hBw hWd DW hcl ht hvo m0 m1 d5 e0 e1 dd
  go_wp2
  go_loopw [5] (fun i w' => ∃ k : Nat, k ≤ kids.length ∧ i = .int .i64 k ∧ Hid (∀ y ∈ kids.take k, FForm (d - 1) y) ∧ Below (w.heap.size + 1) W w') (fun i _ => kids.length - (intOf i).toNat)
  case atStart => exact ⟨0, by omega, rfl, (fun y hy => by simp at hy), hW5.out⟩
  case round =>
    clear hW5
    obtain ⟨k, hk, rfl, HT, hb0⟩ := hrel
    have hb := hW.trans (hb0.mono (by omega))
    have hz := Nat.le_trans hWz hb0.size
    have bP := HBW.out.same (hb0.block w.heap.size (by omega))
    obtain ⟨cP, fP⟩ := blk_rules bP
    by_cases hlt : k < kids.length
    · obtain ⟨ad, y, x0, x1, x2, x3, x4, x5, x6, x7, x8, rfl, hbl, hv, hm, hd1, z0, z1, z2, z3, z4, z5, z6, z7, z8⟩ := row9_at (HK.out.upto (hb.mono hB) (Nat.le_refl _)) rfl hlt
      have hsm1 := HSM.out y hm
      have j0 : (0 : Int) ≤ (k : Int) := by omega
      have j1 : (k : Int) < (kids.length : Int) := by omega
      clear bP
      go_wp2_with fail
      refine (IH.out y hm _ wr B (d - 1) _ (by omega) (by omega) (by omega) hv hsm1).mono ?_
      rintro e w1 ⟨r, rfl, hr, hb1⟩
      have HR := Lib.hid hr
      have hb2 := hb0.trans (hb1.mono hz)
      have hbb := hW.trans (hb2.mono (by omega))
      clear hr cP fP hb1 z0 z1 z2 z3 z4 z5 z6 z7 z8
      cases r with
      | true =>
        have HT3 := Lib.hid ((take_all_succ hd1.out).2 ⟨HT.out, HR.out.1 rfl⟩)
        go_wp2
        go_roundw
        case rel => exact ⟨k + 1, by omega, by go_num, HT3, hb2⟩
        case measure => simp [intOf]; omega
      | false =>
        have HN := Lib.hid (show ¬ FForm d _ from fun h => absurd (HR.out.2 ((HI.out.1 h).1 y hm)) (by simp))
        go_wp2
        go_ret
        exact PBool.no HN.out hbb
    · have HA := Lib.hid (show ∀ y ∈ kids, FForm (d - 1) y by have := HT.out; rwa [show k = kids.length by omega, List.take_length] at this)
      by_cases k20 : kind = 20
      case neg =>
        have b20 : (kind != 20) = true := by simpa using k20
        have HY := Lib.hid (HI.out.2 ⟨HA.out, fun e => absurd e k20⟩)
        clear k20
        go_wp2
        go_ret
        exact PBool.yes HY.out hb
      have b20 : (kind != 20) = false := by simpa using k20
      have L0 : 0 < kids.length := by
        have h1 := TK.out
        have h2 : kidsOf kind = 2 := by rw [k20]; decide
        omega
      have M0 : (0 : Int) < (kids.length : Int) := by omega
      have K20 := Lib.hid k20
      clear k20
      obtain ⟨ad, y, x0, x1, x2, x3, x4, x5, x6, x7, x8, rfl, hbl, hv, hm, hd1, z0, z1, z2, z3, z4, z5, z6, z7, z8⟩ := row9_at (HK.out.upto (hb.mono hB) (Nat.le_refl _)) rfl L0
      have u0 : wr.cell? ad = some x0 := by simpa [Addr.add] using z0
      have u1 : wr.cell? ⟨ad.block, ad.off + 1, none⟩ = some x1 := by simpa [Addr.add] using z1
      have u2 : wr.cell? ⟨ad.block, ad.off + 2, none⟩ = some x2 := by simpa [Addr.add] using z2
      have u3 : wr.cell? ⟨ad.block, ad.off + 3, none⟩ = some x3 := by simpa [Addr.add] using z3
      have u4 : wr.cell? ⟨ad.block, ad.off + 4, none⟩ = some x4 := by simpa [Addr.add] using z4
      have u5 : wr.cell? ⟨ad.block, ad.off + 5, none⟩ = some x5 := by simpa [Addr.add] using z5
      have u6 : wr.cell? ⟨ad.block, ad.off + 6, none⟩ = some x6 := by simpa [Addr.add] using z6
      have u7 : wr.cell? ⟨ad.block, ad.off + 7, none⟩ = some x7 := by simpa [Addr.add] using z7
      have u8 : wr.cell? ⟨ad.block, ad.off + 8, none⟩ = some x8 := by simpa [Addr.add] using z8
      clear z0 z1 z2 z3 z4 z5 z6 z7 z8
      go_wp2_with fail
      refine (evWay_calls y [_, _, _, _, _, _, _, _, _] wr B (d - 1) (by omega) hv (HA.out y hm)).mono ?_
      rintro e w1 ⟨r, rfl, hr, hb1⟩
      have HR := Lib.hid (show r = true ↔ FForm d (.mk kind n s v kids) from hr.trans ⟨fun h => HI.out.2 ⟨HA.out, fun _ => by rw [evAt_drop tabLooks hd1.out]; exact h⟩, fun h => by have := (HI.out.1 h).2 K20.out; rwa [evAt_drop tabLooks hd1.out] at this⟩)
      have hb2 := hb.trans (hb1.mono (by omega))
      clear hr hb1
      go_wp2
      go_ret
      exact ⟨_, rfl, HR.out, hb2⟩
theorem sFForm_calls : ∀ x, SFForm x := Filt.ind fun kind n s v kids ih => sFForm_of _ fun _ _ _ _ _ e => by
  injection e with e1 e2 e3 e4 e5
  subst e5
  exact ih
end Go.Proofs.YtppfgepoegicgaaGreatDoor
