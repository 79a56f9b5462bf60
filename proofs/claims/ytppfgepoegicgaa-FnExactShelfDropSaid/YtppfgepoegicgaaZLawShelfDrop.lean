/- The law FnExactShelfDrop walked: it returns true. -/
import Derived.Test.YtppfgepoegicgaaZDrop
import Derived.Test.YtppfgepoegicgaaZDropS
import Derived.Test.YtppfgepoegicgaaGh
import Derived.Test.YtppfgepoegicgaaGb
import Derived.Test.YtppfgepoegicgaaGf
import Derived.Deep.DrawnRows
import Derived.Deep.RegionHeld3
namespace Go.Proofs.Ytppfgepoegicgaa
open Go Go.RowKit

theorem ksCnt_out : ∀ (l : List Kept) (m : Nat), ksCnt (l.eraseIdx m) ≤ ksCnt l
  | [], _ => by simp
  | x :: r, 0 => by simp [ksCnt]
  | x :: r, m + 1 => by
    have := ksCnt_out r m
    simp only [List.eraseIdx_cons_succ, ksCnt]
    omega
theorem dropIs_few {x : Shelf} {who nm : ByteArray} {y : Shelf} {c : Int} (h : DropIs x who nm y c) (hx : asCnt x.askers ≤ 10000000) : asCnt y.askers ≤ 20000000 := by
  rcases h with ⟨_, rfl, _⟩ | ⟨_, ⟨_, rfl, _⟩ | ⟨k, a, h1, _, ⟨_, rfl, _⟩ | ⟨m, _, rfl, _⟩⟩⟩
  · simp [asCnt]
  · omega
  · omega
  · have h2 := List.take_append_drop k x.askers
    have h3 := ksCnt_out a.trees m
    have h4 := drop_get h1
    obtain ⟨hk, _⟩ := List.getElem?_eq_some_iff.1 h4
    rw [← h2, h1, asCnt_append] at hx
    simp only [List.set_eq_take_append_cons_drop, if_pos hk, asCnt_append]
    simp only [asCnt, aCnt, without] at hx ⊢
    omega

set_option maxRecDepth 100000 in
set_option maxHeartbeats 8000000 in
theorem lawShelfDrop (x : Shelf) (s1 s2 : ByteArray) (ux : List Value) (w : World) (B : Nat) (hB : B ≤ w.heap.size) (hx : RDv w B (shelfDs x) ux) (hs0 : s1.size ≤ 9223372036854775807) (hs1 : s2.size ≤ 9223372036854775807) :
    Calls Try.prog 8 #[.agg ux.toArray, .string s1, .string s2] w (PBool True w) := by
  obtain ⟨A, c, rfl, _⟩ := shelfDs_open hx
  have HX := Lib.hid hx
  clear hx
  obtain ⟨l1, e1⟩ : ∃ l, l = szDs (shelfDs x) 1048576 := ⟨_, rfl⟩
  have E1 := Lib.hid e1
  have r1 := szDs_range (shelfDs x) 1048576 (by omega)
  rw [← e1] at r1
  clear e1
  have hbx := fun o1 => below_box w o1
  by_cases t0 : (1048576 : Int) < (s1.size : Int)
  · go_enter Try.func8, Try.ntmps8
    go_wp2
    go_ret
    exact PBool.yes trivial (hbx _)
  by_cases t1 : (1048576 : Int) < (s2.size : Int)
  · go_enter Try.func8, Try.ntmps8
    go_wp2
    go_ret
    exact PBool.yes trivial (hbx _)
  by_cases zc1 : l1 < 0
  · go_enter Try.func8, Try.ntmps8
    go_wp2_with fail
    refine (szShelf_calls x [_] _ _ B (Nat.le_trans hB (hbx _).size) (HX.out.below ((hbx _).mono hB)) (by omega) (by omega)).mono ?_
    rintro e w1 ⟨rfl, hb1⟩
    rw [← E1.out]
    obtain ⟨hb, hz, bP⟩ := boxes1 (P := [.slice A x.askers.length c]) (boxes1_of hb1)
    clear hb1 bP
    go_wp2
    go_ret
    exact PBool.yes trivial hb
  have SX := Lib.hid (smalls_of_sz (shelfDs x) 1048576 (by omega) (by omega) (by rw [← E1.out]; omega))
  have CX := Lib.hid (shelf_of_sz x 1048576 (by omega) (by omega) (by rw [← E1.out]; omega))
  have FX := shelf_few x (l := 1048576) (by omega) (by omega) (by rw [← E1.out]; omega)
  go_enter Try.func8, Try.ntmps8
  go_wp2_with fail
  refine (szShelf_calls x [_] _ _ B (Nat.le_trans hB (hbx _).size) (HX.out.below ((hbx _).mono hB)) (by omega) (by omega)).mono ?_
  rintro e w1 ⟨rfl, hb1⟩
  rw [← E1.out]
  obtain ⟨hb, hz, bP⟩ := boxes1 (P := [.slice A x.askers.length c]) (boxes1_of hb1)
  have K1 := Lib.hid (show Has [(w.heap.size, [.slice A x.askers.length c])] w1 from Has.cons (by omega) (fun i u hu => (bP.cell i).trans hu) (Has.nil _))
  have B1 := Lib.hid (show Below w.heap.size w w1 from hb)
  have z1 := B1.out.size
  have kxa0 := K1.out.head 0 rfl
  clear hb1 bP hbx hb hz
  go_wp2_with fail
  refine (toShelf_calls x [.slice A x.askers.length c] _ B (Nat.le_trans hB z1) (HX.out.below (B1.out.mono hB)) SX.out).mono ?_
  rintro e w2 ⟨q1, f1, rfl, hO, hF, hb⟩
  have RA := Lib.hid hO
  clear hO hF
  have K2 := Lib.hid (K1.out.below hb)
  have B2 := Lib.hid (B1.out.trans (hb.mono z1))
  have z2 := B2.out.size
  have y2 := hb.size
  clear hb kxa0 K1 B1 
  have kxa0 := K2.out.head 0 rfl
  go_wp2_with fail
  refine (sDrop_calls x _ s1 s2 w2 w2.heap.size (Nat.le_refl _) RA.out.rd' SX.out CX.out).mono ?_
  rintro e w3 ⟨ya, ca, ua, fa, rfl, ha, hO, hF, hb⟩
  obtain ⟨gA, gn, gc, rfl⟩ := shelf_shape hO.rd'
  have RS := Lib.hid ha
  have OW := Lib.hid hO
  have LW := Lib.hid hF.2
  clear ha hO hF RA
  have K3 := Lib.hid (K2.out.below hb)
  have B3 := Lib.hid (B2.out.trans (hb.mono z2))
  have z3 := B3.out.size
  have y3 := hb.size
  clear hb kxa0 K2 B2 
  have kxa0 := K3.out.head 0 rfl
  have few := dropIs_few RS.out FX
  have X4 := below_box w3 (.cells #[.slice gA gn gc] 29)
  have K4 := Lib.hid (K3.out.alloc [.slice gA gn gc] 29)
  have B4 := Lib.hid (B3.out.trans (X4.mono z3))
  have z4 := B4.out.size
  have y4 : (w3.alloc (.cells #[.slice gA gn gc] 29)).heap.size = w3.heap.size + 1 := by simp
  have Y4 := Lib.hid y4
  have OW_ := Lib.hid (OW.out.below X4)
  clear OW
  have OW := OW_
  clear OW_
  clear y4 X4 kxa0 K3 B3
  have kwa0 := K4.out.head 0 rfl
  have kxa0 := K4.out.tail.head 0 rfl
  go_wp2_with fail
  refine (toShelf_calls x [.slice A x.askers.length c] _ B (Nat.le_trans hB z4) (HX.out.below (B4.out.mono hB)) SX.out).mono ?_
  rintro e w4 ⟨qx, fx, rfl, hO, hF, hb⟩
  obtain ⟨xA, xn, xc, rfl⟩ := shelf_shape hO.rd'
  have OX := Lib.hid hO
  have LX0 := hF.2
  rw [Y4.out] at LX0
  have LX := Lib.hid LX0
  have NX := Lib.hid hF.1
  clear hO hF LX0
  have K5 := Lib.hid (K4.out.below hb)
  have B5 := Lib.hid (B4.out.trans (hb.mono z4))
  have z5 := B5.out.size
  have y5 := hb.size
  have OW_ := Lib.hid (OW.out.below hb)
  clear OW
  have OW := OW_
  clear OW_
  clear hb kwa0 kxa0 K4 B4 
  have kwa0 := K5.out.head 0 rfl
  have kxa0 := K5.out.tail.head 0 rfl
  rw [Y4.out] at y5
  have X6 := below_box w4 (.cells #[.slice xA xn xc] 29)
  have K6 := Lib.hid (K5.out.alloc [.slice xA xn xc] 29)
  have B6 := Lib.hid (B5.out.trans (X6.mono z5))
  have z6 := B6.out.size
  have y6 : (w4.alloc (.cells #[.slice xA xn xc] 29)).heap.size = w4.heap.size + 1 := by simp
  have Y6 := Lib.hid y6
  have OW_ := Lib.hid (OW.out.below X6)
  clear OW
  have OW := OW_
  clear OW_
  have OX_ := Lib.hid (OX.out.below X6)
  clear OX
  have OX := OX_
  clear OX_
  clear y6 X6 kwa0 kxa0 K5 B5
  have kxb0 := K6.out.head 0 rfl
  have kwa0 := K6.out.tail.head 0 rfl
  have kxa0 := K6.out.tail.tail.head 0 rfl
  go_wp2_with fail
  refine (iDrop_calls x [.slice xA xn xc] s1 s2 _ _ (Nat.le_refl _) OX.out.rd' SX.out).mono ?_
  rintro e w5 ⟨yb, cb, ub, fg, rfl, hg, hO, hF, hb⟩
  obtain ⟨rfl, rfl⟩ := RS.out.det hg
  obtain ⟨hA, hn, hc, rfl⟩ := shelf_shape hO.rd'
  have OG := Lib.hid hO
  have LG0 := hF.2
  rw [Y6.out] at LG0
  have LG := Lib.hid LG0
  have NG := Lib.hid hF.1
  clear hg hO hF LG0
  have K7 := Lib.hid (K6.out.below hb)
  have B7 := Lib.hid (B6.out.trans (hb.mono z6))
  have z7 := B7.out.size
  have y7 := hb.size
  have OW_ := Lib.hid (OW.out.below hb)
  clear OW
  have OW := OW_
  clear OW_
  have OX_ := Lib.hid (OX.out.below hb)
  clear OX
  have OX := OX_
  clear OX_
  clear hb kxb0 kwa0 kxa0 K6 B6 
  have kxb0 := K7.out.head 0 rfl
  have kwa0 := K7.out.tail.head 0 rfl
  have kxa0 := K7.out.tail.tail.head 0 rfl
  rw [Y6.out] at y7
  have X8 := below_box w5 (.cells #[.slice hA hn hc] 29)
  have K8 := Lib.hid (K7.out.alloc [.slice hA hn hc] 29)
  have B8 := Lib.hid (B7.out.trans (X8.mono z7))
  have z8 := B8.out.size
  have y8 : (w5.alloc (.cells #[.slice hA hn hc] 29)).heap.size = w5.heap.size + 1 := by simp
  have Y8 := Lib.hid y8
  have OW_ := Lib.hid (OW.out.below X8)
  clear OW
  have OW := OW_
  clear OW_
  have OX_ := Lib.hid (OX.out.below X8)
  clear OX
  have OX := OX_
  clear OX_
  have OG_ := Lib.hid (OG.out.below X8)
  clear OG
  have OG := OG_
  clear OG_
  clear y8 X8 kxb0 kwa0 kxa0 K7 B7
  have kga0 := K8.out.head 0 rfl
  have kxb0 := K8.out.tail.head 0 rfl
  have kwa0 := K8.out.tail.tail.head 0 rfl
  have kxa0 := K8.out.tail.tail.tail.head 0 rfl
  have n0 : (ca != ca) = false := by simp
  go_wp2_with fail
  refine (eqShelf_calls ya [.slice hA hn hc] [.slice gA gn gc] _ _ (Nat.le_refl _) OG.out.rd' OW.out.rd').mono ?_
  rintro e w6 ⟨rfl, hb⟩
  have K9 := Lib.hid (K8.out.below hb)
  have B9 := Lib.hid (B8.out.trans (hb.mono z8))
  have z9 := B9.out.size
  have y9 := hb.size
  have OW_ := Lib.hid (OW.out.below hb)
  clear OW
  have OW := OW_
  clear OW_
  have OX_ := Lib.hid (OX.out.below hb)
  clear OX
  have OX := OX_
  clear OX_
  have OG_ := Lib.hid (OG.out.below hb)
  clear OG
  have OG := OG_
  clear OG_
  clear hb kga0 kxb0 kwa0 kxa0 K8 B8 
  have kga0 := K9.out.head 0 rfl
  have kxb0 := K9.out.tail.head 0 rfl
  have kwa0 := K9.out.tail.tail.head 0 rfl
  have kxa0 := K9.out.tail.tail.tail.head 0 rfl
  rw [Y8.out] at y9
  go_wp2_with fail
  have DR := Lib.hid (show Below w6.heap.size w6 w6.drew from (Below.refl _ _).drew)
  have HS := Lib.hid (HX.out.below ((B9.out.trans (DR.out.mono z9)).mono hB))
  have HM := Lib.hid (OX.out.below DR.out).rd'
  have hBw : B ≤ w6.drew.heap.size := Nat.le_trans hB z9
  have dxb0 := Lib.hid (show w6.drew.cell? ⟨w4.heap.size, 0, none⟩ = some (.slice xA xn xc) from (K9.out.below DR.out).tail.head 0 rfl)
  have dxa0 := Lib.hid (show w6.drew.cell? ⟨w.heap.size, 0, none⟩ = some (.slice A x.askers.length c) from (K9.out.below DR.out).tail.tail.tail.head 0 rfl)
  clear kga0 kxb0 kwa0 kxa0
  go_region_held3 (fun w' => w'.cell? ⟨w4.heap.size, 0, none⟩ = some (.slice xA xn xc) ∧ w'.cell? ⟨w.heap.size, 0, none⟩ = some (.slice A x.askers.length c))
    (first | (with_reducible exact ⟨dxb0.out, dxa0.out⟩) | (with_reducible exact ⟨exb0.out, exa0.out⟩) | (with_reducible exact ⟨fxb0.out, fxa0.out⟩) | fail "keep")
    (first
      | (go_at_call 12; ((refine (toShelf_calls x [.slice A x.askers.length c] w6.drew B hBw HS.out SX.out).mono ?_); rintro e wt ⟨ut, ft, rfl, hOt, hFt, hbt⟩; have KT := Lib.hid (K9.out.below (DR.out.trans hbt)); have exb0 := Lib.hid (show wt.cell? ⟨w4.heap.size, 0, none⟩ = some (.slice xA xn xc) from KT.out.tail.head 0 rfl); have exa0 := Lib.hid (show wt.cell? ⟨w.heap.size, 0, none⟩ = some (.slice A x.askers.length c) from KT.out.tail.tail.tail.head 0 rfl)))
      | (go_at_call 14; ((refine (eqShelf_calls x [.slice xA xn xc] ut wt wt.heap.size (Nat.le_refl _) (HM.out.upto hbt hbt.size) hOt.rd').mono ?_); rintro e w8 ⟨rfl, hbq⟩; have KQ := Lib.hid (KT.out.below hbq); have fxb0 := Lib.hid (show w8.cell? ⟨w4.heap.size, 0, none⟩ = some (.slice xA xn xc) from KQ.out.tail.head 0 rfl); have fxa0 := Lib.hid (show w8.cell? ⟨w.heap.size, 0, none⟩ = some (.slice A x.askers.length c) from KQ.out.tail.tail.tail.head 0 rfl))))
  have hb := DR.out.trans (hbt.trans (hbq.mono hbt.size))
  clear hOt hFt hbt hbq KT KQ DR HS HM hBw dxb0 dxa0 exb0 exa0 fxb0 fxa0
  have K10 := Lib.hid (K9.out.below hb)
  have B10 := Lib.hid (B9.out.trans (hb.mono z9))
  have z10 := B10.out.size
  have y10 := hb.size
  have OW_ := Lib.hid (OW.out.below hb)
  clear OW
  have OW := OW_
  clear OW_
  have OX_ := Lib.hid (OX.out.below hb)
  clear OX
  have OX := OX_
  clear OX_
  have OG_ := Lib.hid (OG.out.below hb)
  clear OG
  have OG := OG_
  clear OG_
  clear hb K9 B9
  have kga0 := K10.out.head 0 rfl
  have kxb0 := K10.out.tail.head 0 rfl
  have kwa0 := K10.out.tail.tail.head 0 rfl
  have kxa0 := K10.out.tail.tail.tail.head 0 rfl
  go_wp2_with fail
  refine (markShelf_calls x [.slice xA xn xc] 1 fx _ (by omega) (by omega) OX.out NX.out).mono ?_
  rintro e w9 ⟨rfl, hO, hu⟩
  clear hO OX
  have K11 := Lib.hid (K10.out.upd hu (by intro p hp hm; have h1 := LX.out _ hm; simp only [List.mem_cons, List.mem_nil_iff, or_false] at hp; rcases hp with rfl | rfl | rfl | rfl <;> (simp only [] at h1; omega)))
  have B11 := Lib.hid (B10.out.trans (hu.to_below (fun b hm => by have := LX.out b hm; omega) z10))
  have z11 := B11.out.size
  have y11 := hu.size
  have OW_ := Lib.hid (OW.out.upd hu (fun b hm hn => by have h1 := LW.out b hm; have h2 := LX.out b hn; omega))
  clear OW
  have OW := OW_
  clear OW_
  have OG_ := Lib.hid (OG.out.upd hu (fun b hm hn => by have h1 := LG.out b hm; have h2 := LX.out b hn; omega))
  clear OG
  have OG := OG_
  clear OG_
  clear hu kga0 kxb0 kwa0 kxa0 K10 B10
  have kga0 := K11.out.head 0 rfl
  have kxb0 := K11.out.tail.head 0 rfl
  have kwa0 := K11.out.tail.tail.head 0 rfl
  have kxa0 := K11.out.tail.tail.tail.head 0 rfl
  have n1 : ¬ (1 + (asCnt x.askers : Int) < 0) := by omega
  go_wp2_with fail
  refine (eqShelf_calls ya [.slice hA hn hc] [.slice gA gn gc] _ _ (Nat.le_refl _) OG.out.rd' OW.out.rd').mono ?_
  rintro e w10 ⟨rfl, hb⟩
  have K12 := Lib.hid (K11.out.below hb)
  have B12 := Lib.hid (B11.out.trans (hb.mono z11))
  have z12 := B12.out.size
  have y12 := hb.size
  have OW_ := Lib.hid (OW.out.below hb)
  clear OW
  have OW := OW_
  clear OW_
  have OG_ := Lib.hid (OG.out.below hb)
  clear OG
  have OG := OG_
  clear OG_
  clear hb kga0 kxb0 kwa0 kxa0 K11 B11 
  have kga0 := K12.out.head 0 rfl
  have kxb0 := K12.out.tail.head 0 rfl
  have kwa0 := K12.out.tail.tail.head 0 rfl
  have kxa0 := K12.out.tail.tail.tail.head 0 rfl
  go_wp2_with fail
  refine (markShelf_calls ya [.slice hA hn hc] 1 fg _ (by omega) (by omega) OG.out NG.out).mono ?_
  rintro e w11 ⟨rfl, hO, hu⟩
  have OM := Lib.hid hO
  clear hO OG
  have K13 := Lib.hid (K12.out.upd hu (by intro p hp hm; have h1 := LG.out _ hm; simp only [List.mem_cons, List.mem_nil_iff, or_false] at hp; rcases hp with rfl | rfl | rfl | rfl <;> (simp only [] at h1; omega)))
  have B13 := Lib.hid (B12.out.trans (hu.to_below (fun b hm => by have := LG.out b hm; omega) z12))
  have z13 := B13.out.size
  have y13 := hu.size
  have OW_ := Lib.hid (OW.out.upd hu (fun b hm hn => by have h1 := LW.out b hm; have h2 := LG.out b hn; omega))
  clear OW
  have OW := OW_
  clear OW_
  clear hu kga0 kxb0 kwa0 kxa0 K12 B12
  have kga0 := K13.out.head 0 rfl
  have kxb0 := K13.out.tail.head 0 rfl
  have kwa0 := K13.out.tail.tail.head 0 rfl
  have kxa0 := K13.out.tail.tail.tail.head 0 rfl
  have n2 : ¬ (1 + (asCnt ya.askers : Int) < 0) := by omega
  have n3 : ((1 + (asCnt ya.askers : Int)) != 1 + (asCnt ya.askers : Int)) = false := by simp
  go_wp2_with fail
  refine (heldShelf_calls ya [.slice hA hn hc] 1 _ _ (Nat.le_refl _) (by omega) (by omega) OM.out.rd').mono ?_
  rintro e w12 ⟨rfl, hb⟩
  have K14 := Lib.hid (K13.out.below hb)
  have B14 := Lib.hid (B13.out.trans (hb.mono z13))
  have z14 := B14.out.size
  have y14 := hb.size
  have OW_ := Lib.hid (OW.out.below hb)
  clear OW
  have OW := OW_
  clear OW_
  have OM_ := Lib.hid (OM.out.below hb)
  clear OM
  have OM := OM_
  clear OM_
  clear hb kga0 kxb0 kwa0 kxa0 K13 B13 
  have kga0 := K14.out.head 0 rfl
  have kxb0 := K14.out.tail.head 0 rfl
  have kwa0 := K14.out.tail.tail.head 0 rfl
  have kxa0 := K14.out.tail.tail.tail.head 0 rfl
  go_wp2_with fail
  refine (toShelf_calls x [.slice A x.askers.length c] _ B (Nat.le_trans hB z14) (HX.out.below (B14.out.mono hB)) SX.out).mono ?_
  rintro e w13 ⟨q13, f13, rfl, hO, hF, hb⟩
  have RA := Lib.hid hO
  clear hO hF
  have K15 := Lib.hid (K14.out.below hb)
  have B15 := Lib.hid (B14.out.trans (hb.mono z14))
  have z15 := B15.out.size
  have y15 := hb.size
  have OW_ := Lib.hid (OW.out.below hb)
  clear OW
  have OW := OW_
  clear OW_
  have OM_ := Lib.hid (OM.out.below hb)
  clear OM
  have OM := OM_
  clear OM_
  clear hb kga0 kxb0 kwa0 kxa0 K14 B14 
  have kga0 := K15.out.head 0 rfl
  have kxb0 := K15.out.tail.head 0 rfl
  have kwa0 := K15.out.tail.tail.head 0 rfl
  have kxa0 := K15.out.tail.tail.tail.head 0 rfl
  go_wp2_with fail
  refine (iDrop_calls x _ s1 s2 w13 w13.heap.size (Nat.le_refl _) RA.out.rd' SX.out).mono ?_
  rintro e w14 ⟨yb, cb, ub, fh, rfl, hg, hO, hF, hb⟩
  obtain ⟨rfl, rfl⟩ := RS.out.det hg
  obtain ⟨jA, jn, jc, rfl⟩ := shelf_shape hO.rd'
  have OH := Lib.hid hO
  clear hg hO hF RA
  have K16 := Lib.hid (K15.out.below hb)
  have B16 := Lib.hid (B15.out.trans (hb.mono z15))
  have z16 := B16.out.size
  have y16 := hb.size
  have OW_ := Lib.hid (OW.out.below hb)
  clear OW
  have OW := OW_
  clear OW_
  have OM_ := Lib.hid (OM.out.below hb)
  clear OM
  have OM := OM_
  clear OM_
  clear hb kga0 kxb0 kwa0 kxa0 K15 B15 
  have kga0 := K16.out.head 0 rfl
  have kxb0 := K16.out.tail.head 0 rfl
  have kwa0 := K16.out.tail.tail.head 0 rfl
  have kxa0 := K16.out.tail.tail.tail.head 0 rfl
  have X17 := below_box w14 (.cells #[.slice jA jn jc] 29)
  have K17 := Lib.hid (K16.out.alloc [.slice jA jn jc] 29)
  have B17 := Lib.hid (B16.out.trans (X17.mono z16))
  have z17 := B17.out.size
  have y17 : (w14.alloc (.cells #[.slice jA jn jc] 29)).heap.size = w14.heap.size + 1 := by simp
  have Y17 := Lib.hid y17
  have OW_ := Lib.hid (OW.out.below X17)
  clear OW
  have OW := OW_
  clear OW_
  have OM_ := Lib.hid (OM.out.below X17)
  clear OM
  have OM := OM_
  clear OM_
  have OH_ := Lib.hid (OH.out.below X17)
  clear OH
  have OH := OH_
  clear OH_
  clear y17 X17 kga0 kxb0 kwa0 kxa0 K16 B16
  have kha0 := K17.out.head 0 rfl
  have kga0 := K17.out.tail.head 0 rfl
  have kxb0 := K17.out.tail.tail.head 0 rfl
  have kwa0 := K17.out.tail.tail.tail.head 0 rfl
  have kxa0 := K17.out.tail.tail.tail.tail.head 0 rfl
  go_wp2_with fail
  refine (eqShelf_calls ya [.slice jA jn jc] [.slice gA gn gc] _ _ (Nat.le_refl _) OH.out.rd' OW.out.rd').mono ?_
  rintro e w15 ⟨rfl, hb⟩
  have K18 := Lib.hid (K17.out.below hb)
  have B18 := Lib.hid (B17.out.trans (hb.mono z17))
  have z18 := B18.out.size
  have y18 := hb.size
  have OW_ := Lib.hid (OW.out.below hb)
  clear OW
  have OW := OW_
  clear OW_
  have OM_ := Lib.hid (OM.out.below hb)
  clear OM
  have OM := OM_
  clear OM_
  have OH_ := Lib.hid (OH.out.below hb)
  clear OH
  have OH := OH_
  clear OH_
  clear hb kha0 kga0 kxb0 kwa0 kxa0 K17 B17 
  have kha0 := K18.out.head 0 rfl
  have kga0 := K18.out.tail.head 0 rfl
  have kxb0 := K18.out.tail.tail.head 0 rfl
  have kwa0 := K18.out.tail.tail.tail.head 0 rfl
  have kxa0 := K18.out.tail.tail.tail.tail.head 0 rfl
  go_wp2_with fail
  refine (heldShelf_calls ya [.slice hA hn hc] 1 _ _ (Nat.le_refl _) (by omega) (by omega) OM.out.rd').mono ?_
  rintro e w16 ⟨rfl, hb⟩
  have K19 := Lib.hid (K18.out.below hb)
  have B19 := Lib.hid (B18.out.trans (hb.mono z18))
  have z19 := B19.out.size
  have y19 := hb.size
  have OW_ := Lib.hid (OW.out.below hb)
  clear OW
  have OW := OW_
  clear OW_
  have OM_ := Lib.hid (OM.out.below hb)
  clear OM
  have OM := OM_
  clear OM_
  have OH_ := Lib.hid (OH.out.below hb)
  clear OH
  have OH := OH_
  clear OH_
  clear hb kha0 kga0 kxb0 kwa0 kxa0 K18 B18 
  have kha0 := K19.out.head 0 rfl
  have kga0 := K19.out.tail.head 0 rfl
  have kxb0 := K19.out.tail.tail.head 0 rfl
  have kwa0 := K19.out.tail.tail.tail.head 0 rfl
  have kxa0 := K19.out.tail.tail.tail.tail.head 0 rfl
  have BE := Lib.hid B19.out
  clear kha0 kga0 kxb0 kwa0 kxa0 OW OM OH
  go_wp2
  go_ret
  exact PBool.yes trivial BE.out
end Go.Proofs.Ytppfgepoegicgaa
