/- The law FnExactShelfPut walked: it returns true. -/
import Derived.Test.YtppfgepoegicgaaZPutLaw
import Derived.Test.YtppfgepoegicgaaGh
import Derived.Test.YtppfgepoegicgaaGb
import Derived.Test.YtppfgepoegicgaaGf
import Derived.Deep.DrawnRows
import Derived.Deep.RegionHeld3
import Derived.Deep.DeepCutAuto
namespace Go.Proofs.Ytppfgepoegicgaa
open Go Go.RowKit

theorem val_cnt_of_sz (v : Val) {l : Int} (h0 : 0 ≤ l) (h1 : l ≤ 1048576) (h : 0 ≤ szDs (valDs v) l) : valCnt v ≤ 1099511627776 := by
  have := cnt_of_sz v l h0 h
  omega
theorem ksCnt_put {l : List Kept} {nm : ByteArray} {v : Val} (r : Int) : ksCnt (putAt l nm v r) ≤ ksCnt l + (1 + vCnt v) := by
  have key : ∀ (l : List Kept) (m : Nat), ksCnt (l.set m ⟨nm, v⟩) ≤ ksCnt l + (1 + vCnt v) := by
    intro l
    induction l with
    | nil => intro m; simp [ksCnt]
    | cons x r ih =>
      intro m
      cases m with
      | zero => simp only [List.set_cons_zero, ksCnt, kCnt]; omega
      | succ m => have := ih m; simp only [List.set_cons_succ, ksCnt]; omega
  unfold putAt
  split
  · rw [ksCnt_append]
    simp only [ksCnt, kCnt]
    omega
  · exact key l _
theorem putIs_few {x : Shelf} {who nm : ByteArray} {v : Val} {y : Shelf} {c : Int} (h : PutIs x who nm v y c) (hx : asCnt x.askers ≤ 10000000) (hv : vCnt v ≤ 10000000) : asCnt y.askers ≤ 20000001 := by
  rcases h with ⟨_, rfl, _⟩ | ⟨_, ⟨_, rfl, _⟩ | ⟨k, a, h1, _, ⟨_, rfl, _⟩ | ⟨_, r, _, ⟨_, rfl, _⟩ | ⟨_, rfl, _⟩⟩⟩⟩
  · simp [asCnt]
  · omega
  · omega
  · omega
  · have h2 := List.take_append_drop k x.askers
    have h3 := ksCnt_put (l := a.trees) (nm := nm) (v := v) r
    have h4 := drop_get h1
    obtain ⟨hk, _⟩ := List.getElem?_eq_some_iff.1 h4
    rw [← h2, h1, asCnt_append] at hx
    simp only [List.set_eq_take_append_cons_drop, if_pos hk, asCnt_append]
    simp only [asCnt, aCnt, withTrees] at hx ⊢
    omega

set_option maxRecDepth 100000 in
set_option maxHeartbeats 8000000 in
theorem lawShelfPut (x : Shelf) (s1 s2 : ByteArray) (v0 : Val) (ux : List Value) (uv : List Value) (w : World) (B : Nat) (hB : B ≤ w.heap.size) (hx : RDv w B (shelfDs x) ux) (hv : RDv w B (valDs v0) uv) (hs0 : s1.size ≤ 9223372036854775807) (hs1 : s2.size ≤ 9223372036854775807) :
    Calls Try.prog 9 #[.agg ux.toArray, .string s1, .string s2, .agg uv.toArray] w (PBool True w) := by
  obtain ⟨A, c, rfl, _⟩ := shelfDs_open hx
  obtain ⟨v1, v2, v3, vA, vn, vc, vE, vm, vd, rfl⟩ := valDs_shape hv
  have HV := Lib.hid hv
  clear hv
  have HX := Lib.hid hx
  clear hx
  obtain ⟨l1, e1⟩ : ∃ l, l = szDs (shelfDs x) 1048576 := ⟨_, rfl⟩
  have E1 := Lib.hid e1
  have r1 := szDs_range (shelfDs x) 1048576 (by omega)
  rw [← e1] at r1
  clear e1
  have hbx := fun o1 o2 => below_box2 w o1 o2
  by_cases t0 : (1048576 : Int) < (s1.size : Int)
  · go_enter Try.func9, Try.ntmps9
    go_wp2
    go_ret
    exact PBool.yes trivial (hbx _ _)
  by_cases t1 : (1048576 : Int) < (s2.size : Int)
  · go_enter Try.func9, Try.ntmps9
    go_wp2
    go_ret
    exact PBool.yes trivial (hbx _ _)
  by_cases zc1 : l1 < 0
  · go_enter Try.func9, Try.ntmps9
    go_wp2_with fail
    refine (szShelf_calls x [_] _ _ B (Nat.le_trans hB (hbx _ _).size) (HX.out.below ((hbx _ _).mono hB)) (by omega) (by omega)).mono ?_
    rintro e w1 ⟨rfl, hb1⟩
    rw [← E1.out]
    obtain ⟨hb, hz, bP, bV⟩ := boxes2 (P := [.slice A x.askers.length c]) (R := [.int .i64 v1, .int .i64 v2, .string v3, .slice vA vn vc, .slice vE vm vd]) (boxes2_of hb1)
    clear hb1 bP bV
    go_wp2
    go_ret
    exact PBool.yes trivial hb
  obtain ⟨l2, e2⟩ : ∃ l, l = szDs (valDs v0) l1 := ⟨_, rfl⟩
  have E2 := Lib.hid e2
  have r2 := szDs_range (valDs v0) l1 (by omega)
  rw [← e2] at r2
  clear e2
  by_cases zc2 : l2 < 0
  · go_enter Try.func9, Try.ntmps9
    go_wp2_with fail
    refine (szShelf_calls x [_] _ _ B (Nat.le_trans hB (hbx _ _).size) (HX.out.below ((hbx _ _).mono hB)) (by omega) (by omega)).mono ?_
    rintro e w1 ⟨rfl, hb1⟩
    rw [← E1.out]
    obtain ⟨hb, hz, bP, bV⟩ := boxes2 (P := [.slice A x.askers.length c]) (R := [.int .i64 v1, .int .i64 v2, .string v3, .slice vA vn vc, .slice vE vm vd]) (boxes2_of hb1)
    obtain ⟨cP, fP⟩ := blk_rules bP
    obtain ⟨cV, fV⟩ := blk_rules bV
    go_wp2_with fail
    refine (szVal_calls v0 [_, _, _, _, _] _ w1 B (Nat.le_trans hB hb.size) (HV.out.below (hb.mono hB)) (by omega) (by omega)).mono ?_
    rintro e w1b ⟨rfl, hb1b⟩
    rw [← E2.out]
    have hbb := hb.trans (hb1b.mono hb.size)
    have bP2 := bP.below hb1b
    have bV2 := bV.below hb1b
    clear hb1 hb1b bP bV bP2 bV2 cP fP cV fV
    go_wp2
    go_ret
    exact PBool.yes trivial hbb
  have SX := Lib.hid (smalls_of_sz (shelfDs x) 1048576 (by omega) (by omega) (by rw [← E1.out]; omega))
  have CX := Lib.hid (shelf_of_sz x 1048576 (by omega) (by omega) (by rw [← E1.out]; omega))
  have FX := shelf_few x (l := 1048576) (by omega) (by omega) (by rw [← E1.out]; omega)
  have SV := Lib.hid (smalls_of_sz (valDs v0) l1 (by omega) (by omega) (by rw [← E2.out]; omega))
  have FV := val_few v0 (l := l1) (by omega) (by omega) (by rw [← E2.out]; omega)
  have CV := Lib.hid (val_cnt_of_sz v0 (l := l1) (by omega) (by omega) (by rw [← E2.out]; omega))
  go_enter Try.func9, Try.ntmps9
  go_wp2_with fail
  refine (szShelf_calls x [_] _ _ B (Nat.le_trans hB (hbx _ _).size) (HX.out.below ((hbx _ _).mono hB)) (by omega) (by omega)).mono ?_
  rintro e w1 ⟨rfl, hb1⟩
  rw [← E1.out]
  obtain ⟨hb, hz, bP, bV⟩ := boxes2 (P := [.slice A x.askers.length c]) (R := [.int .i64 v1, .int .i64 v2, .string v3, .slice vA vn vc, .slice vE vm vd]) (boxes2_of hb1)
  obtain ⟨cP, fP⟩ := blk_rules bP
  obtain ⟨cV, fV⟩ := blk_rules bV
  go_wp2_with fail
  refine (szVal_calls v0 [_, _, _, _, _] _ w1 B (Nat.le_trans hB hb.size) (HV.out.below (hb.mono hB)) (by omega) (by omega)).mono ?_
  rintro e w1b ⟨rfl, hb1b⟩
  rw [← E2.out]
  have hbb := hb.trans (hb1b.mono hb.size)
  have bP2 := bP.below hb1b
  have bV2 := bV.below hb1b
  clear bP bV cP fP cV fV
  have bP := bP2
  have bV := bV2
  have hz1 := hbb.size
  have hz0 := hb1b.size
  have hzz : w.heap.size + 1 + 1 ≤ w1b.heap.size := by omega
  have K1 := Lib.hid (show Has [(w.heap.size, [.slice A x.askers.length c]), (w.heap.size + 1, [.int .i64 v1, .int .i64 v2, .string v3, .slice vA vn vc, .slice vE vm vd])] w1b from Has.cons (by omega) (fun i u hu => (bP.cell i).trans hu) (Has.cons (by omega) (fun i u hu => (bV.cell i).trans hu) (Has.nil _)))
  have B1 := Lib.hid (show Below w.heap.size w w1b from hbb)
  have z1 := B1.out.size
  have kxa0 := K1.out.head 0 rfl
  have kva0 := K1.out.tail.head 0 rfl
  have kva1 := K1.out.tail.head 1 rfl
  have kva2 := K1.out.tail.head 2 rfl
  have kva3 := K1.out.tail.head 3 rfl
  have kva4 := K1.out.tail.head 4 rfl
  clear hb1 bP hbx hb hz bV bP2 bV2 hb1b hbb
  go_upto_region 12 with fail
  go_cut [10, 11] (fun sa sb wx => CutPut x s1 s2 v0 w1b [(w.heap.size, [.slice A x.askers.length c]), (w.heap.size + 1, [.int .i64 v1, .int .i64 v2, .string v3, .slice vA vn vc, .slice vE vm vd])] sa sb wx)
  case first =>
    have kS := Lib.hid (show ∀ w' : World, Below w1b.heap.size w1b w' → (w'.cell? ⟨w.heap.size, 0, none⟩ = some (.slice A x.askers.length c) ∧ w'.cell? ⟨w.heap.size + 1, 0, none⟩ = some (.int .i64 v1) ∧ w'.cell? ⟨w.heap.size + 1, 1, none⟩ = some (.int .i64 v2) ∧ w'.cell? ⟨w.heap.size + 1, 2, none⟩ = some (.string v3) ∧ w'.cell? ⟨w.heap.size + 1, 3, none⟩ = some (.slice vA vn vc) ∧ w'.cell? ⟨w.heap.size + 1, 4, none⟩ = some (.slice vE vm vd)) from fun w' hb => ⟨(K1.out.below hb).head 0 rfl, (K1.out.below hb).tail.head 0 rfl, (K1.out.below hb).tail.head 1 rfl, (K1.out.below hb).tail.head 2 rfl, (K1.out.below hb).tail.head 3 rfl, (K1.out.below hb).tail.head 4 rfl⟩)
    have KK := Lib.hid (show Has [(w.heap.size, [.slice A x.askers.length c]), (w.heap.size + 1, [.int .i64 v1, .int .i64 v2, .string v3, .slice vA vn vc, .slice vE vm vd])] w1b from K1.out)
    have hbW : B ≤ w1b.heap.size := Nat.le_trans hB z1
    have HXw := Lib.hid (HX.out.below (B1.out.mono hB))
    have HVw := Lib.hid (HV.out.below (B1.out.mono hB))
    have eA := Lib.hid (show Below w1b.heap.size w1b w1b.drew from (Below.refl _ _).drew)
    have eG := Lib.hid (show Below w1b.heap.size w1b (w1b.alloc (.cells #[.slice none 0 0] 29)).drew from (below_box w1b _).drew)
    have kA := Lib.hid (kS.out _ eA.out)
    have kG := Lib.hid (kS.out _ eG.out)
    clear kxa0 kva0 kva1 kva2 kva3 kva4
    go_region_held3 (fun w' => w'.cell? ⟨w.heap.size, 0, none⟩ = some (.slice A x.askers.length c) ∧ w'.cell? ⟨w.heap.size + 1, 0, none⟩ = some (.int .i64 v1) ∧ w'.cell? ⟨w.heap.size + 1, 1, none⟩ = some (.int .i64 v2) ∧ w'.cell? ⟨w.heap.size + 1, 2, none⟩ = some (.string v3) ∧ w'.cell? ⟨w.heap.size + 1, 3, none⟩ = some (.slice vA vn vc) ∧ w'.cell? ⟨w.heap.size + 1, 4, none⟩ = some (.slice vE vm vd))
      (first | (with_reducible exact kA.out) | (with_reducible exact kG.out) | (with_reducible exact kB.out) | (with_reducible exact kF.out) | (with_reducible exact kC.out) | (with_reducible exact kE.out) | (with_reducible exact kD.out) | (with_reducible exact kH.out) | (with_reducible exact kI.out) | (with_reducible exact kJ.out) | (with_reducible exact kM.out) | (with_reducible exact kL.out) | fail "keep")
      (first
        | (go_at_call 12; (refine (toShelf_at hbW HXw.out SX.out (by first | (with_reducible exact eA.out) | (with_reducible exact eG.out))).mono ?_); rintro e wA ⟨qA, fA, rfl, hO, hF, hb⟩; have OA := Lib.hid hO; (first | (have hbA := Lib.hid (eA.out.trans (hb.mono eA.out.size)); have BA := hbA; clear hbA) | (have hbA := Lib.hid (eG.out.trans (hb.mono eG.out.size)); have BA := hbA; clear hbA; have HXb := Lib.hid (show Blk wA w1b.heap.size 29 [.slice none 0 0] from (Blk.new w1b _ [.slice none 0 0]).drew.below hb)) | fail "xA"); have kB := Lib.hid (kS.out wA BA.out); have gF := Lib.hid (below_box wA (.cells #[.slice none 0 0] 29)); have BAz := Lib.hid (BA.out.trans (gF.out.mono BA.out.size)); have kF := Lib.hid (kS.out (wA.alloc (.cells #[.slice none 0 0] 29)) BAz.out); have gR := Lib.hid (Below.refl wA.heap.size wA); clear hO hF hb)
        | (go_at_call 32; (refine (toVal_at hbW HVw.out SV.out (by first | (with_reducible exact BA.out) | (with_reducible exact BAz.out))).mono ?_); rintro e wB ⟨qB, fB, rfl, hO, hF, hb⟩; have OB := Lib.hid hO; (first | (have hbB := Lib.hid (gR.out.trans hb); have BAB := hbB; clear hbB) | (have hbB := Lib.hid (gF.out.trans (hb.mono gF.out.size)); have BAB := hbB; clear hbB) | fail "xB"); (first | (have HXb2 := Lib.hid (HXb.out.below BAB.out)) | (have HXb2 := Lib.hid (show Blk wB wA.heap.size 29 [.slice none 0 0] from (Blk.new wA _ [.slice none 0 0]).below hb)) | skip); have BB := Lib.hid (BA.out.trans (BAB.out.mono BA.out.size)); have kC := Lib.hid (kS.out wB BB.out); have gF2 := Lib.hid (below_box wB (.cells #[.slice none 0 0] 29)); have kE := Lib.hid (kS.out (wB.alloc (.cells #[.slice none 0 0] 29)) (BB.out.trans (gF2.out.mono BB.out.size))); have gR2 := Lib.hid (Below.refl wB.heap.size wB); clear hO hF hb)
        | (go_at_call 31; (refine (sPut_at OA.out BAB.out OB.out (by first | (with_reducible exact gR2.out) | (with_reducible exact gF2.out)) SX.out SV.out CX.out CV.out hs1).mono ?_); rintro e wC ⟨ya, ca, uc, ua, rfl, hR, hO, hF, hb⟩; obtain ⟨yA, yn, yc, rfl⟩ := shelf_shape hO.rd'; have HR := Lib.hid hR; have OC := Lib.hid hO; (first | (have hbC := Lib.hid (gR2.out.trans hb); have BBC := hbC; clear hbC; have FC := Lib.hid (show Fresh wB wC ua from hF)) | (have hbC := Lib.hid (gF2.out.trans (hb.mono gF2.out.size)); have BBC := hbC; clear hbC; have FC := Lib.hid (show Fresh (wB.alloc (.cells #[.slice none 0 0] 29)) wC ua from hF)) | fail "xC"); (first | (have HXc := Lib.hid (HXb2.out.below BBC.out); obtain ⟨cX, fX⟩ := blk_rules HXc.out) | (have HXc := Lib.hid (show Blk wC wB.heap.size 29 [.slice none 0 0] from (Blk.new wB _ [.slice none 0 0]).below hb); obtain ⟨cX, fX⟩ := blk_rules HXc.out) | skip); have BC := Lib.hid (BB.out.trans (BBC.out.mono BB.out.size)); have kD := Lib.hid (kS.out wC BC.out); have kH := Lib.hid (kS.out (wC.alloc (.cells #[.slice none 0 0] 29)) (BC.out.trans ((below_box wC _).mono BC.out.size))); have kI := Lib.hid (kS.out (wC.alloc (.cells #[.slice yA yn yc] 29)) (BC.out.trans ((below_box wC _).mono BC.out.size))); have kJ := Lib.hid (kS.out (wC.setCell ⟨w1b.heap.size, 0, none⟩ (.slice yA yn yc)) (BC.out.setCell (Nat.le_refl _) _)); have kM := Lib.hid (kS.out (wC.setCell ⟨wA.heap.size, 0, none⟩ (.slice yA yn yc)) (BC.out.setCell BA.out.size _)); have kL := Lib.hid (kS.out (wC.setCell ⟨wB.heap.size, 0, none⟩ (.slice yA yn yc)) (BC.out.setCell BB.out.size _)); clear hR hO hF hb)
        | fail "no arm")
    all_goals go_wp2_with fail
    all_goals go_meet
    · exact cutPut_of HR.out KK.out (BC.out.trans ((below_box wC _).mono BC.out.size)) (Blk.new wC 29 [.slice yA yn yc]) OC.out FC.out BB.out.size BC.out.size (.inr (Nat.le_refl _)) (fun p hp _ => Below.heap_alloc _ _ _ hp) (by simp)
    · exact cutPut_of HR.out KK.out (BC.out.setCell BB.out.size _) (HXc.out.set_ 0 _) OC.out FC.out (BB.out.trans (gF2.out.mono BB.out.size)).size BB.out.size (.inl (by simp)) (fun p _ hp => Below.heap_setCell _ _ _ _ hp) (by simp [World.setCell])
    · exact cutPut_of HR.out KK.out (BC.out.setCell BA.out.size _) (HXc.out.set_ 0 _) OC.out FC.out BB.out.size BA.out.size (.inl HXb2.out.lt) (fun p _ hp => Below.heap_setCell _ _ _ _ hp) (by simp [World.setCell])
    · exact cutPut_of HR.out KK.out (BC.out.setCell (Nat.le_refl _) _) (HXc.out.set_ 0 _) OC.out FC.out BB.out.size (Nat.le_refl _) (.inl HXb2.out.lt) (fun p _ hp => Below.heap_setCell _ _ _ _ hp) (by simp [World.setCell])
  case rest =>
    obtain ⟨ya, ca, b0, gA, gn, gc, fa, rfl, rfl, hR, K2, OW, N2, hb, pb0, qb0⟩ := hcut
    obtain ⟨w3, hwc⟩ : ∃ w' : World, w' = wc := ⟨_, rfl⟩
    subst hwc
    have LW := Lib.hid N2.out.2
    have B2 := Lib.hid (B1.out.trans (hb.out.mono z1))
    have z2 := B2.out.size
    have y2 := hb.out.size
    clear hb kxa0 kva0 kva1 kva2 kva3 kva4 K1 B1
    have kwa0 := K2.out.head 0 rfl
    have kxa0 := K2.out.tail.head 0 rfl
    have kva0 := K2.out.tail.tail.head 0 rfl
    have kva1 := K2.out.tail.tail.head 1 rfl
    have kva2 := K2.out.tail.tail.head 2 rfl
    have kva3 := K2.out.tail.tail.head 3 rfl
    have kva4 := K2.out.tail.tail.head 4 rfl
    have RS := Lib.hid hR.out
    clear hR
    have few := putIs_few RS.out FX FV
    go_wp2_with fail
    refine (toShelf_calls x [.slice A x.askers.length c] _ B (Nat.le_trans hB z2) (HX.out.below (B2.out.mono hB)) SX.out).mono ?_
    rintro e w4 ⟨qx, fx, rfl, hO, hF, hb⟩
    obtain ⟨xA, xn, xc, rfl⟩ := shelf_shape hO.rd'
    have OX := Lib.hid hO
    have LX0 := hF.2
    have LX := Lib.hid LX0
    have NX := Lib.hid hF.1
    clear hO hF LX0
    have K3 := Lib.hid (K2.out.below hb)
    have B3 := Lib.hid (B2.out.trans (hb.mono z2))
    have z3 := B3.out.size
    have y3 := hb.size
    have OW_ := Lib.hid (OW.out.below hb)
    clear OW
    have OW := OW_
    clear OW_
    clear hb kwa0 kxa0 kva0 kva1 kva2 kva3 kva4 K2 B2 
    have kwa0 := K3.out.head 0 rfl
    have kxa0 := K3.out.tail.head 0 rfl
    have kva0 := K3.out.tail.tail.head 0 rfl
    have kva1 := K3.out.tail.tail.head 1 rfl
    have kva2 := K3.out.tail.tail.head 2 rfl
    have kva3 := K3.out.tail.tail.head 3 rfl
    have kva4 := K3.out.tail.tail.head 4 rfl
    have X4 := below_box w4 (.cells #[.slice xA xn xc] 29)
    have K4 := Lib.hid (K3.out.alloc [.slice xA xn xc] 29)
    have B4 := Lib.hid (B3.out.trans (X4.mono z3))
    have z4 := B4.out.size
    have y4 : (w4.alloc (.cells #[.slice xA xn xc] 29)).heap.size = w4.heap.size + 1 := by simp
    have Y4 := Lib.hid y4
    have OW_ := Lib.hid (OW.out.below X4)
    clear OW
    have OW := OW_
    clear OW_
    have OX_ := Lib.hid (OX.out.below X4)
    clear OX
    have OX := OX_
    clear OX_
    clear y4 X4 kwa0 kxa0 kva0 kva1 kva2 kva3 kva4 K3 B3
    have kxb0 := K4.out.head 0 rfl
    have kwa0 := K4.out.tail.head 0 rfl
    have kxa0 := K4.out.tail.tail.head 0 rfl
    have kva0 := K4.out.tail.tail.tail.head 0 rfl
    have kva1 := K4.out.tail.tail.tail.head 1 rfl
    have kva2 := K4.out.tail.tail.tail.head 2 rfl
    have kva3 := K4.out.tail.tail.tail.head 3 rfl
    have kva4 := K4.out.tail.tail.tail.head 4 rfl
    go_wp2_with fail
    refine (toVal_calls v0 [.int .i64 v1, .int .i64 v2, .string v3, .slice vA vn vc, .slice vE vm vd] _ B (Nat.le_trans hB z4) (HV.out.below (B4.out.mono hB)) SV.out).mono ?_
    rintro e w4v ⟨qv, fv, rfl, hO, hF, hb⟩
    obtain ⟨u1, u2, u3, uA, un, uc, uE, um, ud, rfl⟩ := valDs_shape hO.rd'
    have OV := Lib.hid hO
    have LV0 := hF.2
    rw [Y4.out] at LV0
    have LV := Lib.hid LV0
    have NV := Lib.hid hF.1
    clear hO hF LV0
    have K5 := Lib.hid (K4.out.below hb)
    have B5 := Lib.hid (B4.out.trans (hb.mono z4))
    have z5 := B5.out.size
    have y5 := hb.size
    have OW_ := Lib.hid (OW.out.below hb)
    clear OW
    have OW := OW_
    clear OW_
    have OX_ := Lib.hid (OX.out.below hb)
    clear OX
    have OX := OX_
    clear OX_
    clear hb kxb0 kwa0 kxa0 kva0 kva1 kva2 kva3 kva4 K4 B4 
    have kxb0 := K5.out.head 0 rfl
    have kwa0 := K5.out.tail.head 0 rfl
    have kxa0 := K5.out.tail.tail.head 0 rfl
    have kva0 := K5.out.tail.tail.tail.head 0 rfl
    have kva1 := K5.out.tail.tail.tail.head 1 rfl
    have kva2 := K5.out.tail.tail.tail.head 2 rfl
    have kva3 := K5.out.tail.tail.tail.head 3 rfl
    have kva4 := K5.out.tail.tail.tail.head 4 rfl
    rw [Y4.out] at y5
    have X6 := below_box w4v (.cells #[.int .i64 u1, .int .i64 u2, .string u3, .slice uA un uc, .slice uE um ud] 39)
    have K6 := Lib.hid (K5.out.alloc [.int .i64 u1, .int .i64 u2, .string u3, .slice uA un uc, .slice uE um ud] 39)
    have B6 := Lib.hid (B5.out.trans (X6.mono z5))
    have z6 := B6.out.size
    have y6 : (w4v.alloc (.cells #[.int .i64 u1, .int .i64 u2, .string u3, .slice uA un uc, .slice uE um ud] 39)).heap.size = w4v.heap.size + 1 := by simp
    have Y6 := Lib.hid y6
    have OW_ := Lib.hid (OW.out.below X6)
    clear OW
    have OW := OW_
    clear OW_
    have OX_ := Lib.hid (OX.out.below X6)
    clear OX
    have OX := OX_
    clear OX_
    have OV_ := Lib.hid (OV.out.below X6)
    clear OV
    have OV := OV_
    clear OV_
    clear y6 X6 kxb0 kwa0 kxa0 kva0 kva1 kva2 kva3 kva4 K5 B5
    have kvb0 := K6.out.head 0 rfl
    have kvb1 := K6.out.head 1 rfl
    have kvb2 := K6.out.head 2 rfl
    have kvb3 := K6.out.head 3 rfl
    have kvb4 := K6.out.head 4 rfl
    have kxb0 := K6.out.tail.head 0 rfl
    have kwa0 := K6.out.tail.tail.head 0 rfl
    have kxa0 := K6.out.tail.tail.tail.head 0 rfl
    have kva0 := K6.out.tail.tail.tail.tail.head 0 rfl
    have kva1 := K6.out.tail.tail.tail.tail.head 1 rfl
    have kva2 := K6.out.tail.tail.tail.tail.head 2 rfl
    have kva3 := K6.out.tail.tail.tail.tail.head 3 rfl
    have kva4 := K6.out.tail.tail.tail.tail.head 4 rfl
    go_wp2_with fail
    refine (iPut_calls x [.slice xA xn xc] s1 s2 v0 [.int .i64 u1, .int .i64 u2, .string u3, .slice uA un uc, .slice uE um ud] _ _ (Nat.le_refl _) OX.out.rd' OV.out.rd' SX.out SV.out hs1).mono ?_
    rintro e w5 ⟨yb, cb, ub, fg, rfl, hg, hO, hF, hb⟩
    obtain ⟨rfl, rfl⟩ := RS.out.det hg
    obtain ⟨hA, hn, hc, rfl⟩ := shelf_shape hO.rd'
    have OG := Lib.hid hO
    have LG0 := hF.2
    rw [Y6.out] at LG0
    have LG := Lib.hid LG0
    have NG := Lib.hid hF.1
    clear hg hO hF LG0
    have K7 := Lib.hid (K6.out.below hb)
    have B7 := Lib.hid (B6.out.trans (hb.mono z6))
    have z7 := B7.out.size
    have y7 := hb.size
    have OW_ := Lib.hid (OW.out.below hb)
    clear OW
    have OW := OW_
    clear OW_
    have OX_ := Lib.hid (OX.out.below hb)
    clear OX
    have OX := OX_
    clear OX_
    have OV_ := Lib.hid (OV.out.below hb)
    clear OV
    have OV := OV_
    clear OV_
    clear hb kvb0 kvb1 kvb2 kvb3 kvb4 kxb0 kwa0 kxa0 kva0 kva1 kva2 kva3 kva4 K6 B6 
    have kvb0 := K7.out.head 0 rfl
    have kvb1 := K7.out.head 1 rfl
    have kvb2 := K7.out.head 2 rfl
    have kvb3 := K7.out.head 3 rfl
    have kvb4 := K7.out.head 4 rfl
    have kxb0 := K7.out.tail.head 0 rfl
    have kwa0 := K7.out.tail.tail.head 0 rfl
    have kxa0 := K7.out.tail.tail.tail.head 0 rfl
    have kva0 := K7.out.tail.tail.tail.tail.head 0 rfl
    have kva1 := K7.out.tail.tail.tail.tail.head 1 rfl
    have kva2 := K7.out.tail.tail.tail.tail.head 2 rfl
    have kva3 := K7.out.tail.tail.tail.tail.head 3 rfl
    have kva4 := K7.out.tail.tail.tail.tail.head 4 rfl
    rw [Y6.out] at y7
    have X8 := below_box w5 (.cells #[.slice hA hn hc] 29)
    have K8 := Lib.hid (K7.out.alloc [.slice hA hn hc] 29)
    have B8 := Lib.hid (B7.out.trans (X8.mono z7))
    have z8 := B8.out.size
    have y8 : (w5.alloc (.cells #[.slice hA hn hc] 29)).heap.size = w5.heap.size + 1 := by simp
    have Y8 := Lib.hid y8
    have OW_ := Lib.hid (OW.out.below X8)
    clear OW
    have OW := OW_
    clear OW_
    have OX_ := Lib.hid (OX.out.below X8)
    clear OX
    have OX := OX_
    clear OX_
    have OV_ := Lib.hid (OV.out.below X8)
    clear OV
    have OV := OV_
    clear OV_
    have OG_ := Lib.hid (OG.out.below X8)
    clear OG
    have OG := OG_
    clear OG_
    clear y8 X8 kvb0 kvb1 kvb2 kvb3 kvb4 kxb0 kwa0 kxa0 kva0 kva1 kva2 kva3 kva4 K7 B7
    have kga0 := K8.out.head 0 rfl
    have kvb0 := K8.out.tail.head 0 rfl
    have kvb1 := K8.out.tail.head 1 rfl
    have kvb2 := K8.out.tail.head 2 rfl
    have kvb3 := K8.out.tail.head 3 rfl
    have kvb4 := K8.out.tail.head 4 rfl
    have kxb0 := K8.out.tail.tail.head 0 rfl
    have kwa0 := K8.out.tail.tail.tail.head 0 rfl
    have kxa0 := K8.out.tail.tail.tail.tail.head 0 rfl
    have kva0 := K8.out.tail.tail.tail.tail.tail.head 0 rfl
    have kva1 := K8.out.tail.tail.tail.tail.tail.head 1 rfl
    have kva2 := K8.out.tail.tail.tail.tail.tail.head 2 rfl
    have kva3 := K8.out.tail.tail.tail.tail.tail.head 3 rfl
    have kva4 := K8.out.tail.tail.tail.tail.tail.head 4 rfl
    have n0 : (ca != ca) = false := by simp
    go_wp2_with fail
    refine (eqShelf_calls ya [.slice hA hn hc] [.slice gA gn gc] _ _ (Nat.le_refl _) OG.out.rd' OW.out.rd').mono ?_
    rintro e w6 ⟨rfl, hb⟩
    have K9 := Lib.hid (K8.out.below hb)
    have B9 := Lib.hid (B8.out.trans (hb.mono z8))
    have z9 := B9.out.size
    have y9 := hb.size
    have OW_ := Lib.hid (OW.out.below hb)
    clear OW
    have OW := OW_
    clear OW_
    have OX_ := Lib.hid (OX.out.below hb)
    clear OX
    have OX := OX_
    clear OX_
    have OV_ := Lib.hid (OV.out.below hb)
    clear OV
    have OV := OV_
    clear OV_
    have OG_ := Lib.hid (OG.out.below hb)
    clear OG
    have OG := OG_
    clear OG_
    clear hb kga0 kvb0 kvb1 kvb2 kvb3 kvb4 kxb0 kwa0 kxa0 kva0 kva1 kva2 kva3 kva4 K8 B8 
    have kga0 := K9.out.head 0 rfl
    have kvb0 := K9.out.tail.head 0 rfl
    have kvb1 := K9.out.tail.head 1 rfl
    have kvb2 := K9.out.tail.head 2 rfl
    have kvb3 := K9.out.tail.head 3 rfl
    have kvb4 := K9.out.tail.head 4 rfl
    have kxb0 := K9.out.tail.tail.head 0 rfl
    have kwa0 := K9.out.tail.tail.tail.head 0 rfl
    have kxa0 := K9.out.tail.tail.tail.tail.head 0 rfl
    have kva0 := K9.out.tail.tail.tail.tail.tail.head 0 rfl
    have kva1 := K9.out.tail.tail.tail.tail.tail.head 1 rfl
    have kva2 := K9.out.tail.tail.tail.tail.tail.head 2 rfl
    have kva3 := K9.out.tail.tail.tail.tail.tail.head 3 rfl
    have kva4 := K9.out.tail.tail.tail.tail.tail.head 4 rfl
    rw [Y8.out] at y9
    go_wp2_with fail
    have DR := Lib.hid (show Below w6.heap.size w6 w6.drew from (Below.refl _ _).drew)
    have HS := Lib.hid (HX.out.below ((B9.out.trans (DR.out.mono z9)).mono hB))
    have HM := Lib.hid (OX.out.below DR.out).rd'
    have hBw : B ≤ w6.drew.heap.size := Nat.le_trans hB z9
    have dxb0 := Lib.hid (show w6.drew.cell? ⟨w4.heap.size, 0, none⟩ = some (.slice xA xn xc) from (K9.out.below DR.out).tail.tail.head 0 rfl)
    have dxa0 := Lib.hid (show w6.drew.cell? ⟨w.heap.size, 0, none⟩ = some (.slice A x.askers.length c) from (K9.out.below DR.out).tail.tail.tail.tail.head 0 rfl)
    clear kga0 kvb0 kvb1 kvb2 kvb3 kvb4 kxb0 kwa0 kxa0 kva0 kva1 kva2 kva3 kva4
    go_region_held3 (fun w' => w'.cell? ⟨w4.heap.size, 0, none⟩ = some (.slice xA xn xc) ∧ w'.cell? ⟨w.heap.size, 0, none⟩ = some (.slice A x.askers.length c))
      (first | (with_reducible exact ⟨dxb0.out, dxa0.out⟩) | (with_reducible exact ⟨exb0.out, exa0.out⟩) | (with_reducible exact ⟨fxb0.out, fxa0.out⟩) | fail "keep")
      (first
        | (go_at_call 12; ((refine (toShelf_calls x [.slice A x.askers.length c] w6.drew B hBw HS.out SX.out).mono ?_); rintro e wt ⟨ut, ft, rfl, hOt, hFt, hbt⟩; have KT := Lib.hid (K9.out.below (DR.out.trans hbt)); have exb0 := Lib.hid (show wt.cell? ⟨w4.heap.size, 0, none⟩ = some (.slice xA xn xc) from KT.out.tail.tail.head 0 rfl); have exa0 := Lib.hid (show wt.cell? ⟨w.heap.size, 0, none⟩ = some (.slice A x.askers.length c) from KT.out.tail.tail.tail.tail.head 0 rfl)))
        | (go_at_call 14; ((refine (eqShelf_calls x [.slice xA xn xc] ut wt wt.heap.size (Nat.le_refl _) (HM.out.upto hbt hbt.size) hOt.rd').mono ?_); rintro e w8 ⟨rfl, hbq⟩; have KQ := Lib.hid (KT.out.below hbq); have fxb0 := Lib.hid (show w8.cell? ⟨w4.heap.size, 0, none⟩ = some (.slice xA xn xc) from KQ.out.tail.tail.head 0 rfl); have fxa0 := Lib.hid (show w8.cell? ⟨w.heap.size, 0, none⟩ = some (.slice A x.askers.length c) from KQ.out.tail.tail.tail.tail.head 0 rfl))))
    have hb := DR.out.trans (hbt.trans (hbq.mono hbt.size))
    clear hOt hFt hbt hbq KT KQ DR HS HM hBw dxb0 dxa0 exb0 exa0 fxb0 fxa0
    have K10 := Lib.hid (K9.out.below hb)
    have B10 := Lib.hid (B9.out.trans (hb.mono z9))
    have z10 := B10.out.size
    have y10 := hb.size
    have OW_ := Lib.hid (OW.out.below hb)
    clear OW
    have OW := OW_
    clear OW_
    have OX_ := Lib.hid (OX.out.below hb)
    clear OX
    have OX := OX_
    clear OX_
    have OV_ := Lib.hid (OV.out.below hb)
    clear OV
    have OV := OV_
    clear OV_
    have OG_ := Lib.hid (OG.out.below hb)
    clear OG
    have OG := OG_
    clear OG_
    clear hb K9 B9
    have kga0 := K10.out.head 0 rfl
    have kvb0 := K10.out.tail.head 0 rfl
    have kvb1 := K10.out.tail.head 1 rfl
    have kvb2 := K10.out.tail.head 2 rfl
    have kvb3 := K10.out.tail.head 3 rfl
    have kvb4 := K10.out.tail.head 4 rfl
    have kxb0 := K10.out.tail.tail.head 0 rfl
    have kwa0 := K10.out.tail.tail.tail.head 0 rfl
    have kxa0 := K10.out.tail.tail.tail.tail.head 0 rfl
    have kva0 := K10.out.tail.tail.tail.tail.tail.head 0 rfl
    have kva1 := K10.out.tail.tail.tail.tail.tail.head 1 rfl
    have kva2 := K10.out.tail.tail.tail.tail.tail.head 2 rfl
    have kva3 := K10.out.tail.tail.tail.tail.tail.head 3 rfl
    have kva4 := K10.out.tail.tail.tail.tail.tail.head 4 rfl
    go_wp2_with fail
    have DR := Lib.hid (show Below w8.heap.size w8 w8.drew from (Below.refl _ _).drew)
    have HS := Lib.hid (HV.out.below ((B10.out.trans (DR.out.mono z10)).mono hB))
    have HM := Lib.hid (OV.out.below DR.out).rd'
    have hBw : B ≤ w8.drew.heap.size := Nat.le_trans hB z10
    have dvb0 := Lib.hid (show w8.drew.cell? ⟨w4v.heap.size, 0, none⟩ = some (.int .i64 u1) from (K10.out.below DR.out).tail.head 0 rfl)
    have dvb1 := Lib.hid (show w8.drew.cell? ⟨w4v.heap.size, 1, none⟩ = some (.int .i64 u2) from (K10.out.below DR.out).tail.head 1 rfl)
    have dvb2 := Lib.hid (show w8.drew.cell? ⟨w4v.heap.size, 2, none⟩ = some (.string u3) from (K10.out.below DR.out).tail.head 2 rfl)
    have dvb3 := Lib.hid (show w8.drew.cell? ⟨w4v.heap.size, 3, none⟩ = some (.slice uA un uc) from (K10.out.below DR.out).tail.head 3 rfl)
    have dvb4 := Lib.hid (show w8.drew.cell? ⟨w4v.heap.size, 4, none⟩ = some (.slice uE um ud) from (K10.out.below DR.out).tail.head 4 rfl)
    have dva0 := Lib.hid (show w8.drew.cell? ⟨w.heap.size + 1, 0, none⟩ = some (.int .i64 v1) from (K10.out.below DR.out).tail.tail.tail.tail.tail.head 0 rfl)
    have dva1 := Lib.hid (show w8.drew.cell? ⟨w.heap.size + 1, 1, none⟩ = some (.int .i64 v2) from (K10.out.below DR.out).tail.tail.tail.tail.tail.head 1 rfl)
    have dva2 := Lib.hid (show w8.drew.cell? ⟨w.heap.size + 1, 2, none⟩ = some (.string v3) from (K10.out.below DR.out).tail.tail.tail.tail.tail.head 2 rfl)
    have dva3 := Lib.hid (show w8.drew.cell? ⟨w.heap.size + 1, 3, none⟩ = some (.slice vA vn vc) from (K10.out.below DR.out).tail.tail.tail.tail.tail.head 3 rfl)
    have dva4 := Lib.hid (show w8.drew.cell? ⟨w.heap.size + 1, 4, none⟩ = some (.slice vE vm vd) from (K10.out.below DR.out).tail.tail.tail.tail.tail.head 4 rfl)
    clear kga0 kvb0 kvb1 kvb2 kvb3 kvb4 kxb0 kwa0 kxa0 kva0 kva1 kva2 kva3 kva4
    go_region_held3 (fun w' => w'.cell? ⟨w4v.heap.size, 0, none⟩ = some (.int .i64 u1) ∧ w'.cell? ⟨w4v.heap.size, 1, none⟩ = some (.int .i64 u2) ∧ w'.cell? ⟨w4v.heap.size, 2, none⟩ = some (.string u3) ∧ w'.cell? ⟨w4v.heap.size, 3, none⟩ = some (.slice uA un uc) ∧ w'.cell? ⟨w4v.heap.size, 4, none⟩ = some (.slice uE um ud) ∧ w'.cell? ⟨w.heap.size + 1, 0, none⟩ = some (.int .i64 v1) ∧ w'.cell? ⟨w.heap.size + 1, 1, none⟩ = some (.int .i64 v2) ∧ w'.cell? ⟨w.heap.size + 1, 2, none⟩ = some (.string v3) ∧ w'.cell? ⟨w.heap.size + 1, 3, none⟩ = some (.slice vA vn vc) ∧ w'.cell? ⟨w.heap.size + 1, 4, none⟩ = some (.slice vE vm vd))
      (first | (with_reducible exact ⟨dvb0.out, dvb1.out, dvb2.out, dvb3.out, dvb4.out, dva0.out, dva1.out, dva2.out, dva3.out, dva4.out⟩) | (with_reducible exact ⟨evb0.out, evb1.out, evb2.out, evb3.out, evb4.out, eva0.out, eva1.out, eva2.out, eva3.out, eva4.out⟩) | (with_reducible exact ⟨fvb0.out, fvb1.out, fvb2.out, fvb3.out, fvb4.out, fva0.out, fva1.out, fva2.out, fva3.out, fva4.out⟩) | fail "keep")
      (first
        | (go_at_call 32; ((refine (toVal_calls v0 [.int .i64 v1, .int .i64 v2, .string v3, .slice vA vn vc, .slice vE vm vd] w8.drew B hBw HS.out SV.out).mono ?_); rintro e wt ⟨ut, ft, rfl, hOt, hFt, hbt⟩; have KT := Lib.hid (K10.out.below (DR.out.trans hbt)); have evb0 := Lib.hid (show wt.cell? ⟨w4v.heap.size, 0, none⟩ = some (.int .i64 u1) from KT.out.tail.head 0 rfl); have evb1 := Lib.hid (show wt.cell? ⟨w4v.heap.size, 1, none⟩ = some (.int .i64 u2) from KT.out.tail.head 1 rfl); have evb2 := Lib.hid (show wt.cell? ⟨w4v.heap.size, 2, none⟩ = some (.string u3) from KT.out.tail.head 2 rfl); have evb3 := Lib.hid (show wt.cell? ⟨w4v.heap.size, 3, none⟩ = some (.slice uA un uc) from KT.out.tail.head 3 rfl); have evb4 := Lib.hid (show wt.cell? ⟨w4v.heap.size, 4, none⟩ = some (.slice uE um ud) from KT.out.tail.head 4 rfl); have eva0 := Lib.hid (show wt.cell? ⟨w.heap.size + 1, 0, none⟩ = some (.int .i64 v1) from KT.out.tail.tail.tail.tail.tail.head 0 rfl); have eva1 := Lib.hid (show wt.cell? ⟨w.heap.size + 1, 1, none⟩ = some (.int .i64 v2) from KT.out.tail.tail.tail.tail.tail.head 1 rfl); have eva2 := Lib.hid (show wt.cell? ⟨w.heap.size + 1, 2, none⟩ = some (.string v3) from KT.out.tail.tail.tail.tail.tail.head 2 rfl); have eva3 := Lib.hid (show wt.cell? ⟨w.heap.size + 1, 3, none⟩ = some (.slice vA vn vc) from KT.out.tail.tail.tail.tail.tail.head 3 rfl); have eva4 := Lib.hid (show wt.cell? ⟨w.heap.size + 1, 4, none⟩ = some (.slice vE vm vd) from KT.out.tail.tail.tail.tail.tail.head 4 rfl)))
        | (go_at_call 21; ((refine (eqVal_calls v0 [.int .i64 u1, .int .i64 u2, .string u3, .slice uA un uc, .slice uE um ud] ut wt wt.heap.size (Nat.le_refl _) (HM.out.upto hbt hbt.size) hOt.rd').mono ?_); rintro e w8v ⟨rfl, hbq⟩; have KQ := Lib.hid (KT.out.below hbq); have fvb0 := Lib.hid (show w8v.cell? ⟨w4v.heap.size, 0, none⟩ = some (.int .i64 u1) from KQ.out.tail.head 0 rfl); have fvb1 := Lib.hid (show w8v.cell? ⟨w4v.heap.size, 1, none⟩ = some (.int .i64 u2) from KQ.out.tail.head 1 rfl); have fvb2 := Lib.hid (show w8v.cell? ⟨w4v.heap.size, 2, none⟩ = some (.string u3) from KQ.out.tail.head 2 rfl); have fvb3 := Lib.hid (show w8v.cell? ⟨w4v.heap.size, 3, none⟩ = some (.slice uA un uc) from KQ.out.tail.head 3 rfl); have fvb4 := Lib.hid (show w8v.cell? ⟨w4v.heap.size, 4, none⟩ = some (.slice uE um ud) from KQ.out.tail.head 4 rfl); have fva0 := Lib.hid (show w8v.cell? ⟨w.heap.size + 1, 0, none⟩ = some (.int .i64 v1) from KQ.out.tail.tail.tail.tail.tail.head 0 rfl); have fva1 := Lib.hid (show w8v.cell? ⟨w.heap.size + 1, 1, none⟩ = some (.int .i64 v2) from KQ.out.tail.tail.tail.tail.tail.head 1 rfl); have fva2 := Lib.hid (show w8v.cell? ⟨w.heap.size + 1, 2, none⟩ = some (.string v3) from KQ.out.tail.tail.tail.tail.tail.head 2 rfl); have fva3 := Lib.hid (show w8v.cell? ⟨w.heap.size + 1, 3, none⟩ = some (.slice vA vn vc) from KQ.out.tail.tail.tail.tail.tail.head 3 rfl); have fva4 := Lib.hid (show w8v.cell? ⟨w.heap.size + 1, 4, none⟩ = some (.slice vE vm vd) from KQ.out.tail.tail.tail.tail.tail.head 4 rfl))))
    have hb := DR.out.trans (hbt.trans (hbq.mono hbt.size))
    clear hOt hFt hbt hbq KT KQ DR HS HM hBw dvb0 dvb1 dvb2 dvb3 dvb4 dva0 dva1 dva2 dva3 dva4 evb0 evb1 evb2 evb3 evb4 eva0 eva1 eva2 eva3 eva4 fvb0 fvb1 fvb2 fvb3 fvb4 fva0 fva1 fva2 fva3 fva4
    have K11 := Lib.hid (K10.out.below hb)
    have B11 := Lib.hid (B10.out.trans (hb.mono z10))
    have z11 := B11.out.size
    have y11 := hb.size
    have OW_ := Lib.hid (OW.out.below hb)
    clear OW
    have OW := OW_
    clear OW_
    have OX_ := Lib.hid (OX.out.below hb)
    clear OX
    have OX := OX_
    clear OX_
    have OV_ := Lib.hid (OV.out.below hb)
    clear OV
    have OV := OV_
    clear OV_
    have OG_ := Lib.hid (OG.out.below hb)
    clear OG
    have OG := OG_
    clear OG_
    clear hb K10 B10
    have kga0 := K11.out.head 0 rfl
    have kvb0 := K11.out.tail.head 0 rfl
    have kvb1 := K11.out.tail.head 1 rfl
    have kvb2 := K11.out.tail.head 2 rfl
    have kvb3 := K11.out.tail.head 3 rfl
    have kvb4 := K11.out.tail.head 4 rfl
    have kxb0 := K11.out.tail.tail.head 0 rfl
    have kwa0 := K11.out.tail.tail.tail.head 0 rfl
    have kxa0 := K11.out.tail.tail.tail.tail.head 0 rfl
    have kva0 := K11.out.tail.tail.tail.tail.tail.head 0 rfl
    have kva1 := K11.out.tail.tail.tail.tail.tail.head 1 rfl
    have kva2 := K11.out.tail.tail.tail.tail.tail.head 2 rfl
    have kva3 := K11.out.tail.tail.tail.tail.tail.head 3 rfl
    have kva4 := K11.out.tail.tail.tail.tail.tail.head 4 rfl
    go_wp2_with fail
    refine (markShelf_calls x [.slice xA xn xc] 1 fx _ (by omega) (by omega) OX.out NX.out).mono ?_
    rintro e w9 ⟨rfl, hO, hu⟩
    clear hO OX
    have K12 := Lib.hid (K11.out.upd hu (by intro p hp hm; have h1 := LX.out _ hm; simp only [List.mem_cons, List.mem_nil_iff, or_false] at hp; rcases hp with rfl | rfl | rfl | rfl | rfl | rfl <;> (simp only [] at h1; omega)))
    have B12 := Lib.hid (B11.out.trans (hu.to_below (fun b hm => by have := LX.out b hm; omega) z11))
    have z12 := B12.out.size
    have y12 := hu.size
    have OW_ := Lib.hid (OW.out.upd hu (fun b hm hn => by have h1 := LW.out b hm; have h2 := LX.out b hn; omega))
    clear OW
    have OW := OW_
    clear OW_
    have OV_ := Lib.hid (OV.out.upd hu (fun b hm hn => by have h1 := LV.out b hm; have h2 := LX.out b hn; omega))
    clear OV
    have OV := OV_
    clear OV_
    have OG_ := Lib.hid (OG.out.upd hu (fun b hm hn => by have h1 := LG.out b hm; have h2 := LX.out b hn; omega))
    clear OG
    have OG := OG_
    clear OG_
    clear hu kga0 kvb0 kvb1 kvb2 kvb3 kvb4 kxb0 kwa0 kxa0 kva0 kva1 kva2 kva3 kva4 K11 B11
    have kga0 := K12.out.head 0 rfl
    have kvb0 := K12.out.tail.head 0 rfl
    have kvb1 := K12.out.tail.head 1 rfl
    have kvb2 := K12.out.tail.head 2 rfl
    have kvb3 := K12.out.tail.head 3 rfl
    have kvb4 := K12.out.tail.head 4 rfl
    have kxb0 := K12.out.tail.tail.head 0 rfl
    have kwa0 := K12.out.tail.tail.tail.head 0 rfl
    have kxa0 := K12.out.tail.tail.tail.tail.head 0 rfl
    have kva0 := K12.out.tail.tail.tail.tail.tail.head 0 rfl
    have kva1 := K12.out.tail.tail.tail.tail.tail.head 1 rfl
    have kva2 := K12.out.tail.tail.tail.tail.tail.head 2 rfl
    have kva3 := K12.out.tail.tail.tail.tail.tail.head 3 rfl
    have kva4 := K12.out.tail.tail.tail.tail.tail.head 4 rfl
    have n1 : ¬ (1 + (asCnt x.askers : Int) < 0) := by omega
    go_wp2_with fail
    refine (markVal_calls v0 [.int .i64 u1, .int .i64 u2, .string u3, .slice uA un uc, .slice uE um ud] _ fv _ (by omega) (by have := topCnt_le v0; omega) OV.out NV.out).mono ?_
    rintro e w9v ⟨rfl, hO, hu⟩
    clear hO OV
    have K13 := Lib.hid (K12.out.upd hu (by intro p hp hm; have h1 := LV.out _ hm; simp only [List.mem_cons, List.mem_nil_iff, or_false] at hp; rcases hp with rfl | rfl | rfl | rfl | rfl | rfl <;> (simp only [] at h1; omega)))
    have B13 := Lib.hid (B12.out.trans (hu.to_below (fun b hm => by have := LV.out b hm; omega) z12))
    have z13 := B13.out.size
    have y13 := hu.size
    have OW_ := Lib.hid (OW.out.upd hu (fun b hm hn => by have h1 := LW.out b hm; have h2 := LV.out b hn; omega))
    clear OW
    have OW := OW_
    clear OW_
    have OG_ := Lib.hid (OG.out.upd hu (fun b hm hn => by have h1 := LG.out b hm; have h2 := LV.out b hn; omega))
    clear OG
    have OG := OG_
    clear OG_
    clear hu kga0 kvb0 kvb1 kvb2 kvb3 kvb4 kxb0 kwa0 kxa0 kva0 kva1 kva2 kva3 kva4 K12 B12
    have kga0 := K13.out.head 0 rfl
    have kvb0 := K13.out.tail.head 0 rfl
    have kvb1 := K13.out.tail.head 1 rfl
    have kvb2 := K13.out.tail.head 2 rfl
    have kvb3 := K13.out.tail.head 3 rfl
    have kvb4 := K13.out.tail.head 4 rfl
    have kxb0 := K13.out.tail.tail.head 0 rfl
    have kwa0 := K13.out.tail.tail.tail.head 0 rfl
    have kxa0 := K13.out.tail.tail.tail.tail.head 0 rfl
    have kva0 := K13.out.tail.tail.tail.tail.tail.head 0 rfl
    have kva1 := K13.out.tail.tail.tail.tail.tail.head 1 rfl
    have kva2 := K13.out.tail.tail.tail.tail.tail.head 2 rfl
    have kva3 := K13.out.tail.tail.tail.tail.tail.head 3 rfl
    have kva4 := K13.out.tail.tail.tail.tail.tail.head 4 rfl
    have n1v : ¬ (1 + (asCnt x.askers : Int) + topCnt v0 < 0) := by omega
    go_wp2_with fail
    refine (eqShelf_calls ya [.slice hA hn hc] [.slice gA gn gc] _ _ (Nat.le_refl _) OG.out.rd' OW.out.rd').mono ?_
    rintro e w10 ⟨rfl, hb⟩
    have K14 := Lib.hid (K13.out.below hb)
    have B14 := Lib.hid (B13.out.trans (hb.mono z13))
    have z14 := B14.out.size
    have y14 := hb.size
    have OW_ := Lib.hid (OW.out.below hb)
    clear OW
    have OW := OW_
    clear OW_
    have OG_ := Lib.hid (OG.out.below hb)
    clear OG
    have OG := OG_
    clear OG_
    clear hb kga0 kvb0 kvb1 kvb2 kvb3 kvb4 kxb0 kwa0 kxa0 kva0 kva1 kva2 kva3 kva4 K13 B13 
    have kga0 := K14.out.head 0 rfl
    have kvb0 := K14.out.tail.head 0 rfl
    have kvb1 := K14.out.tail.head 1 rfl
    have kvb2 := K14.out.tail.head 2 rfl
    have kvb3 := K14.out.tail.head 3 rfl
    have kvb4 := K14.out.tail.head 4 rfl
    have kxb0 := K14.out.tail.tail.head 0 rfl
    have kwa0 := K14.out.tail.tail.tail.head 0 rfl
    have kxa0 := K14.out.tail.tail.tail.tail.head 0 rfl
    have kva0 := K14.out.tail.tail.tail.tail.tail.head 0 rfl
    have kva1 := K14.out.tail.tail.tail.tail.tail.head 1 rfl
    have kva2 := K14.out.tail.tail.tail.tail.tail.head 2 rfl
    have kva3 := K14.out.tail.tail.tail.tail.tail.head 3 rfl
    have kva4 := K14.out.tail.tail.tail.tail.tail.head 4 rfl
    go_wp2_with fail
    refine (markShelf_calls ya [.slice hA hn hc] 1 fg _ (by omega) (by omega) OG.out NG.out).mono ?_
    rintro e w11 ⟨rfl, hO, hu⟩
    have OM := Lib.hid hO
    clear hO OG
    have K15 := Lib.hid (K14.out.upd hu (by intro p hp hm; have h1 := LG.out _ hm; simp only [List.mem_cons, List.mem_nil_iff, or_false] at hp; rcases hp with rfl | rfl | rfl | rfl | rfl | rfl <;> (simp only [] at h1; omega)))
    have B15 := Lib.hid (B14.out.trans (hu.to_below (fun b hm => by have := LG.out b hm; omega) z14))
    have z15 := B15.out.size
    have y15 := hu.size
    have OW_ := Lib.hid (OW.out.upd hu (fun b hm hn => by have h1 := LW.out b hm; have h2 := LG.out b hn; omega))
    clear OW
    have OW := OW_
    clear OW_
    clear hu kga0 kvb0 kvb1 kvb2 kvb3 kvb4 kxb0 kwa0 kxa0 kva0 kva1 kva2 kva3 kva4 K14 B14
    have kga0 := K15.out.head 0 rfl
    have kvb0 := K15.out.tail.head 0 rfl
    have kvb1 := K15.out.tail.head 1 rfl
    have kvb2 := K15.out.tail.head 2 rfl
    have kvb3 := K15.out.tail.head 3 rfl
    have kvb4 := K15.out.tail.head 4 rfl
    have kxb0 := K15.out.tail.tail.head 0 rfl
    have kwa0 := K15.out.tail.tail.tail.head 0 rfl
    have kxa0 := K15.out.tail.tail.tail.tail.head 0 rfl
    have kva0 := K15.out.tail.tail.tail.tail.tail.head 0 rfl
    have kva1 := K15.out.tail.tail.tail.tail.tail.head 1 rfl
    have kva2 := K15.out.tail.tail.tail.tail.tail.head 2 rfl
    have kva3 := K15.out.tail.tail.tail.tail.tail.head 3 rfl
    have kva4 := K15.out.tail.tail.tail.tail.tail.head 4 rfl
    have n2 : ¬ (1 + (asCnt ya.askers : Int) < 0) := by omega
    have n3 : ((1 + (asCnt ya.askers : Int)) != 1 + (asCnt ya.askers : Int)) = false := by simp
    go_wp2_with fail
    refine (heldShelf_calls ya [.slice hA hn hc] 1 _ _ (Nat.le_refl _) (by omega) (by omega) OM.out.rd').mono ?_
    rintro e w12 ⟨rfl, hb⟩
    have K16 := Lib.hid (K15.out.below hb)
    have B16 := Lib.hid (B15.out.trans (hb.mono z15))
    have z16 := B16.out.size
    have y16 := hb.size
    have OW_ := Lib.hid (OW.out.below hb)
    clear OW
    have OW := OW_
    clear OW_
    have OM_ := Lib.hid (OM.out.below hb)
    clear OM
    have OM := OM_
    clear OM_
    clear hb kga0 kvb0 kvb1 kvb2 kvb3 kvb4 kxb0 kwa0 kxa0 kva0 kva1 kva2 kva3 kva4 K15 B15 
    have kga0 := K16.out.head 0 rfl
    have kvb0 := K16.out.tail.head 0 rfl
    have kvb1 := K16.out.tail.head 1 rfl
    have kvb2 := K16.out.tail.head 2 rfl
    have kvb3 := K16.out.tail.head 3 rfl
    have kvb4 := K16.out.tail.head 4 rfl
    have kxb0 := K16.out.tail.tail.head 0 rfl
    have kwa0 := K16.out.tail.tail.tail.head 0 rfl
    have kxa0 := K16.out.tail.tail.tail.tail.head 0 rfl
    have kva0 := K16.out.tail.tail.tail.tail.tail.head 0 rfl
    have kva1 := K16.out.tail.tail.tail.tail.tail.head 1 rfl
    have kva2 := K16.out.tail.tail.tail.tail.tail.head 2 rfl
    have kva3 := K16.out.tail.tail.tail.tail.tail.head 3 rfl
    have kva4 := K16.out.tail.tail.tail.tail.tail.head 4 rfl
    go_upto_region 40 with fail
    go_cut [19, 20] (fun sa sb wx => CutPut x s1 s2 v0 w12 [(w5.heap.size, [.slice hA hn hc]), (w4v.heap.size, [.int .i64 u1, .int .i64 u2, .string u3, .slice uA un uc, .slice uE um ud]), (w4.heap.size, [.slice xA xn xc]), (b0, [.slice gA gn gc]), (w.heap.size, [.slice A x.askers.length c]), (w.heap.size + 1, [.int .i64 v1, .int .i64 v2, .string v3, .slice vA vn vc, .slice vE vm vd])] sa sb wx)
    case first =>
      have kS := Lib.hid (show ∀ w' : World, Below w12.heap.size w12 w' → (w'.cell? ⟨w.heap.size, 0, none⟩ = some (.slice A x.askers.length c) ∧ w'.cell? ⟨w.heap.size + 1, 0, none⟩ = some (.int .i64 v1) ∧ w'.cell? ⟨w.heap.size + 1, 1, none⟩ = some (.int .i64 v2) ∧ w'.cell? ⟨w.heap.size + 1, 2, none⟩ = some (.string v3) ∧ w'.cell? ⟨w.heap.size + 1, 3, none⟩ = some (.slice vA vn vc) ∧ w'.cell? ⟨w.heap.size + 1, 4, none⟩ = some (.slice vE vm vd)) from fun w' hb => ⟨(K16.out.below hb).tail.tail.tail.tail.head 0 rfl, (K16.out.below hb).tail.tail.tail.tail.tail.head 0 rfl, (K16.out.below hb).tail.tail.tail.tail.tail.head 1 rfl, (K16.out.below hb).tail.tail.tail.tail.tail.head 2 rfl, (K16.out.below hb).tail.tail.tail.tail.tail.head 3 rfl, (K16.out.below hb).tail.tail.tail.tail.tail.head 4 rfl⟩)
      have KK := Lib.hid (show Has [(w5.heap.size, [.slice hA hn hc]), (w4v.heap.size, [.int .i64 u1, .int .i64 u2, .string u3, .slice uA un uc, .slice uE um ud]), (w4.heap.size, [.slice xA xn xc]), (b0, [.slice gA gn gc]), (w.heap.size, [.slice A x.askers.length c]), (w.heap.size + 1, [.int .i64 v1, .int .i64 v2, .string v3, .slice vA vn vc, .slice vE vm vd])] w12 from K16.out)
      have hbW : B ≤ w12.heap.size := Nat.le_trans hB z16
      have HXw := Lib.hid (HX.out.below (B16.out.mono hB))
      have HVw := Lib.hid (HV.out.below (B16.out.mono hB))
      have eA := Lib.hid (show Below w12.heap.size w12 w12.drew from (Below.refl _ _).drew)
      have eG := Lib.hid (show Below w12.heap.size w12 (w12.alloc (.cells #[.slice none 0 0] 29)).drew from (below_box w12 _).drew)
      have kA := Lib.hid (kS.out _ eA.out)
      have kG := Lib.hid (kS.out _ eG.out)
      clear kga0 kvb0 kvb1 kvb2 kvb3 kvb4 kxb0 kwa0 kxa0 kva0 kva1 kva2 kva3 kva4
      go_region_held3 (fun w' => w'.cell? ⟨w.heap.size, 0, none⟩ = some (.slice A x.askers.length c) ∧ w'.cell? ⟨w.heap.size + 1, 0, none⟩ = some (.int .i64 v1) ∧ w'.cell? ⟨w.heap.size + 1, 1, none⟩ = some (.int .i64 v2) ∧ w'.cell? ⟨w.heap.size + 1, 2, none⟩ = some (.string v3) ∧ w'.cell? ⟨w.heap.size + 1, 3, none⟩ = some (.slice vA vn vc) ∧ w'.cell? ⟨w.heap.size + 1, 4, none⟩ = some (.slice vE vm vd))
        (first | (with_reducible exact kA.out) | (with_reducible exact kG.out) | (with_reducible exact kB.out) | (with_reducible exact kF.out) | (with_reducible exact kC.out) | (with_reducible exact kE.out) | (with_reducible exact kD.out) | (with_reducible exact kH.out) | (with_reducible exact kI.out) | (with_reducible exact kJ.out) | (with_reducible exact kM.out) | (with_reducible exact kL.out) | fail "keep")
        (first
          | (go_at_call 12; (refine (toShelf_at hbW HXw.out SX.out (by first | (with_reducible exact eA.out) | (with_reducible exact eG.out))).mono ?_); rintro e wA ⟨qA, fA, rfl, hO, hF, hb⟩; have OA := Lib.hid hO; (first | (have hbA := Lib.hid (eA.out.trans (hb.mono eA.out.size)); have BA := hbA; clear hbA) | (have hbA := Lib.hid (eG.out.trans (hb.mono eG.out.size)); have BA := hbA; clear hbA; have HXb := Lib.hid (show Blk wA w12.heap.size 29 [.slice none 0 0] from (Blk.new w12 _ [.slice none 0 0]).drew.below hb)) | fail "xA"); have kB := Lib.hid (kS.out wA BA.out); have gF := Lib.hid (below_box wA (.cells #[.slice none 0 0] 29)); have BAz := Lib.hid (BA.out.trans (gF.out.mono BA.out.size)); have kF := Lib.hid (kS.out (wA.alloc (.cells #[.slice none 0 0] 29)) BAz.out); have gR := Lib.hid (Below.refl wA.heap.size wA); clear hO hF hb)
          | (go_at_call 32; (refine (toVal_at hbW HVw.out SV.out (by first | (with_reducible exact BA.out) | (with_reducible exact BAz.out))).mono ?_); rintro e wB ⟨qB, fB, rfl, hO, hF, hb⟩; have OB := Lib.hid hO; (first | (have hbB := Lib.hid (gR.out.trans hb); have BAB := hbB; clear hbB) | (have hbB := Lib.hid (gF.out.trans (hb.mono gF.out.size)); have BAB := hbB; clear hbB) | fail "xB"); (first | (have HXb2 := Lib.hid (HXb.out.below BAB.out)) | (have HXb2 := Lib.hid (show Blk wB wA.heap.size 29 [.slice none 0 0] from (Blk.new wA _ [.slice none 0 0]).below hb)) | skip); have BB := Lib.hid (BA.out.trans (BAB.out.mono BA.out.size)); have kC := Lib.hid (kS.out wB BB.out); have gF2 := Lib.hid (below_box wB (.cells #[.slice none 0 0] 29)); have kE := Lib.hid (kS.out (wB.alloc (.cells #[.slice none 0 0] 29)) (BB.out.trans (gF2.out.mono BB.out.size))); have gR2 := Lib.hid (Below.refl wB.heap.size wB); clear hO hF hb)
          | (go_at_call 33; (refine (iPut_at OA.out BAB.out OB.out (by first | (with_reducible exact gR2.out) | (with_reducible exact gF2.out)) SX.out SV.out hs1).mono ?_); rintro e wC ⟨ya, ca, uc, ua, rfl, hR, hO, hF, hb⟩; obtain ⟨yA, yn, yc, rfl⟩ := shelf_shape hO.rd'; have HR := Lib.hid hR; have OC := Lib.hid hO; (first | (have hbC := Lib.hid (gR2.out.trans hb); have BBC := hbC; clear hbC; have FC := Lib.hid (show Fresh wB wC ua from hF)) | (have hbC := Lib.hid (gF2.out.trans (hb.mono gF2.out.size)); have BBC := hbC; clear hbC; have FC := Lib.hid (show Fresh (wB.alloc (.cells #[.slice none 0 0] 29)) wC ua from hF)) | fail "xC"); (first | (have HXc := Lib.hid (HXb2.out.below BBC.out); obtain ⟨cX, fX⟩ := blk_rules HXc.out) | (have HXc := Lib.hid (show Blk wC wB.heap.size 29 [.slice none 0 0] from (Blk.new wB _ [.slice none 0 0]).below hb); obtain ⟨cX, fX⟩ := blk_rules HXc.out) | skip); have BC := Lib.hid (BB.out.trans (BBC.out.mono BB.out.size)); have kD := Lib.hid (kS.out wC BC.out); have kH := Lib.hid (kS.out (wC.alloc (.cells #[.slice none 0 0] 29)) (BC.out.trans ((below_box wC _).mono BC.out.size))); have kI := Lib.hid (kS.out (wC.alloc (.cells #[.slice yA yn yc] 29)) (BC.out.trans ((below_box wC _).mono BC.out.size))); have kJ := Lib.hid (kS.out (wC.setCell ⟨w12.heap.size, 0, none⟩ (.slice yA yn yc)) (BC.out.setCell (Nat.le_refl _) _)); have kM := Lib.hid (kS.out (wC.setCell ⟨wA.heap.size, 0, none⟩ (.slice yA yn yc)) (BC.out.setCell BA.out.size _)); have kL := Lib.hid (kS.out (wC.setCell ⟨wB.heap.size, 0, none⟩ (.slice yA yn yc)) (BC.out.setCell BB.out.size _)); clear hR hO hF hb)
          | fail "no arm")
      all_goals go_wp2_with fail
      all_goals go_meet
      · exact cutPut_of HR.out KK.out (BC.out.trans ((below_box wC _).mono BC.out.size)) (Blk.new wC 29 [.slice yA yn yc]) OC.out FC.out BB.out.size BC.out.size (.inr (Nat.le_refl _)) (fun p hp _ => Below.heap_alloc _ _ _ hp) (by simp)
      · exact cutPut_of HR.out KK.out (BC.out.setCell BB.out.size _) (HXc.out.set_ 0 _) OC.out FC.out (BB.out.trans (gF2.out.mono BB.out.size)).size BB.out.size (.inl (by simp)) (fun p _ hp => Below.heap_setCell _ _ _ _ hp) (by simp [World.setCell])
      · exact cutPut_of HR.out KK.out (BC.out.setCell BA.out.size _) (HXc.out.set_ 0 _) OC.out FC.out BB.out.size BA.out.size (.inl HXb2.out.lt) (fun p _ hp => Below.heap_setCell _ _ _ _ hp) (by simp [World.setCell])
      · exact cutPut_of HR.out KK.out (BC.out.setCell (Nat.le_refl _) _) (HXc.out.set_ 0 _) OC.out FC.out BB.out.size (Nat.le_refl _) (.inl HXb2.out.lt) (fun p _ hp => Below.heap_setCell _ _ _ _ hp) (by simp [World.setCell])
    case rest =>
      obtain ⟨yb, cb, b2, jA, jn, jc, fh, rfl, rfl, hR, K17, OH, N17, hb, pb2, qb2⟩ := hcut
      obtain ⟨w14, hwc⟩ : ∃ w' : World, w' = wc := ⟨_, rfl⟩
      subst hwc
      have LH := Lib.hid N17.out.2
      have B17 := Lib.hid (B16.out.trans (hb.out.mono z16))
      have z17 := B17.out.size
      have y17 := hb.out.size
      have OW_ := Lib.hid (OW.out.below hb.out)
      clear OW
      have OW := OW_
      clear OW_
      have OM_ := Lib.hid (OM.out.below hb.out)
      clear OM
      have OM := OM_
      clear OM_
      clear hb kga0 kvb0 kvb1 kvb2 kvb3 kvb4 kxb0 kwa0 kxa0 kva0 kva1 kva2 kva3 kva4 K16 B16
      have kha0 := K17.out.head 0 rfl
      have kga0 := K17.out.tail.head 0 rfl
      have kvb0 := K17.out.tail.tail.head 0 rfl
      have kvb1 := K17.out.tail.tail.head 1 rfl
      have kvb2 := K17.out.tail.tail.head 2 rfl
      have kvb3 := K17.out.tail.tail.head 3 rfl
      have kvb4 := K17.out.tail.tail.head 4 rfl
      have kxb0 := K17.out.tail.tail.tail.head 0 rfl
      have kwa0 := K17.out.tail.tail.tail.tail.head 0 rfl
      have kxa0 := K17.out.tail.tail.tail.tail.tail.head 0 rfl
      have kva0 := K17.out.tail.tail.tail.tail.tail.tail.head 0 rfl
      have kva1 := K17.out.tail.tail.tail.tail.tail.tail.head 1 rfl
      have kva2 := K17.out.tail.tail.tail.tail.tail.tail.head 2 rfl
      have kva3 := K17.out.tail.tail.tail.tail.tail.tail.head 3 rfl
      have kva4 := K17.out.tail.tail.tail.tail.tail.tail.head 4 rfl
      obtain ⟨rfl, rfl⟩ := RS.out.det hR.out
      clear hR
      go_wp2_with fail
      refine (eqShelf_calls ya [.slice jA jn jc] [.slice gA gn gc] _ _ (Nat.le_refl _) OH.out.rd' OW.out.rd').mono ?_
      rintro e w15 ⟨rfl, hb⟩
      have K18 := Lib.hid (K17.out.below hb)
      have B18 := Lib.hid (B17.out.trans (hb.mono z17))
      have z18 := B18.out.size
      have y18 := hb.size
      have OW_ := Lib.hid (OW.out.below hb)
      clear OW
      have OW := OW_
      clear OW_
      have OM_ := Lib.hid (OM.out.below hb)
      clear OM
      have OM := OM_
      clear OM_
      have OH_ := Lib.hid (OH.out.below hb)
      clear OH
      have OH := OH_
      clear OH_
      clear hb kha0 kga0 kvb0 kvb1 kvb2 kvb3 kvb4 kxb0 kwa0 kxa0 kva0 kva1 kva2 kva3 kva4 K17 B17 
      have kha0 := K18.out.head 0 rfl
      have kga0 := K18.out.tail.head 0 rfl
      have kvb0 := K18.out.tail.tail.head 0 rfl
      have kvb1 := K18.out.tail.tail.head 1 rfl
      have kvb2 := K18.out.tail.tail.head 2 rfl
      have kvb3 := K18.out.tail.tail.head 3 rfl
      have kvb4 := K18.out.tail.tail.head 4 rfl
      have kxb0 := K18.out.tail.tail.tail.head 0 rfl
      have kwa0 := K18.out.tail.tail.tail.tail.head 0 rfl
      have kxa0 := K18.out.tail.tail.tail.tail.tail.head 0 rfl
      have kva0 := K18.out.tail.tail.tail.tail.tail.tail.head 0 rfl
      have kva1 := K18.out.tail.tail.tail.tail.tail.tail.head 1 rfl
      have kva2 := K18.out.tail.tail.tail.tail.tail.tail.head 2 rfl
      have kva3 := K18.out.tail.tail.tail.tail.tail.tail.head 3 rfl
      have kva4 := K18.out.tail.tail.tail.tail.tail.tail.head 4 rfl
      go_wp2_with fail
      refine (heldShelf_calls ya [.slice hA hn hc] 1 _ _ (Nat.le_refl _) (by omega) (by omega) OM.out.rd').mono ?_
      rintro e w16 ⟨rfl, hb⟩
      have K19 := Lib.hid (K18.out.below hb)
      have B19 := Lib.hid (B18.out.trans (hb.mono z18))
      have z19 := B19.out.size
      have y19 := hb.size
      have OW_ := Lib.hid (OW.out.below hb)
      clear OW
      have OW := OW_
      clear OW_
      have OM_ := Lib.hid (OM.out.below hb)
      clear OM
      have OM := OM_
      clear OM_
      have OH_ := Lib.hid (OH.out.below hb)
      clear OH
      have OH := OH_
      clear OH_
      clear hb kha0 kga0 kvb0 kvb1 kvb2 kvb3 kvb4 kxb0 kwa0 kxa0 kva0 kva1 kva2 kva3 kva4 K18 B18 
      have kha0 := K19.out.head 0 rfl
      have kga0 := K19.out.tail.head 0 rfl
      have kvb0 := K19.out.tail.tail.head 0 rfl
      have kvb1 := K19.out.tail.tail.head 1 rfl
      have kvb2 := K19.out.tail.tail.head 2 rfl
      have kvb3 := K19.out.tail.tail.head 3 rfl
      have kvb4 := K19.out.tail.tail.head 4 rfl
      have kxb0 := K19.out.tail.tail.tail.head 0 rfl
      have kwa0 := K19.out.tail.tail.tail.tail.head 0 rfl
      have kxa0 := K19.out.tail.tail.tail.tail.tail.head 0 rfl
      have kva0 := K19.out.tail.tail.tail.tail.tail.tail.head 0 rfl
      have kva1 := K19.out.tail.tail.tail.tail.tail.tail.head 1 rfl
      have kva2 := K19.out.tail.tail.tail.tail.tail.tail.head 2 rfl
      have kva3 := K19.out.tail.tail.tail.tail.tail.tail.head 3 rfl
      have kva4 := K19.out.tail.tail.tail.tail.tail.tail.head 4 rfl
      have BE := Lib.hid B19.out
      clear kha0 kga0 kvb0 kvb1 kvb2 kvb3 kvb4 kxb0 kwa0 kxa0 kva0 kva1 kva2 kva3 kva4 OW OM OH
      go_wp2
      go_ret
      exact PBool.yes trivial BE.out
end Go.Proofs.Ytppfgepoegicgaa
