/- The law FnExactSlim walked: it returns true. -/
import Derived.Test.YtppfgepoegicgaaGreatDoorZSlimTop
import Derived.Test.YtppfgepoegicgaaGreatDoorGy
import Derived.Test.YtppfgepoegicgaaGreatDoorZFiltEq
import Derived.Test.YtppfgepoegicgaaGreatDoorGac
import Derived.Test.YtppfgepoegicgaaGreatDoorGt
import Derived.Test.YtppfgepoegicgaaGreatDoorGv
import Derived.Test.YtppfgepoegicgaaGreatDoorGad
import Derived.Deep.DrawnRows
import Derived.Deep.RegionHeld3
namespace Go.Proofs.YtppfgepoegicgaaGreatDoor
open Go Go.RowKit

theorem tab_upto {w : World} {B B' : Nat} (h : Tab w B) (hB : B ≤ B') : Tab w B' := by
  obtain ⟨h0, tb, c, h1, h2, h3⟩ := h
  exact ⟨by omega, tb, c, h1, by omega, h3⟩

set_option maxRecDepth 100000 in
set_option maxHeartbeats 16000000 in
theorem lawSlim (x : Filt) (ux : List Value) (w : World) (B : Nat) (hB : B ≤ w.heap.size) (hx : RDv w B (filtDs x) ux) (hT : Tab w B) :
    Calls Tryz.prog 3 #[.agg ux.toArray] w (PBool True w) := by
  obtain ⟨a0, a1, a2, a3, a4, a5, A6, n6, q6, A7, n7, q7, A8, n8, q8, rfl⟩ := filtDs_shape hx
  have HX := Lib.hid hx
  have HT := Lib.hid hT
  clear hx hT
  obtain ⟨l1, e1⟩ : ∃ l, l = szDs (filtDs x) 1048576 := ⟨_, rfl⟩
  have E1 := Lib.hid e1
  have r1 := szDs_range (filtDs x) 1048576 (by omega)
  rw [← e1] at r1
  clear e1
  have hbx := fun o1 => below_box w o1
  by_cases t1 : l1 < 0
  · go_enter Tryz.func3, Tryz.ntmps3
    go_wp2_with fail
    refine (szFilt_calls x [_, _, _, _, _, _, _, _, _] _ _ B (Nat.le_trans hB (hbx _).size) (HX.out.below ((hbx _).mono hB)) (by omega) (by omega)).mono ?_
    rintro e w1 ⟨rfl, hb1⟩
    rw [← E1.out]
    obtain ⟨hb, hz, bP⟩ := boxes1 (P := [.int .i64 a0, .int .i64 a1, .string a2, .int .i64 a3, .int .i64 a4, .string a5, .slice A6 n6 q6, .slice A7 n7 q7, .slice A8 n8 q8]) (boxes1_of hb1)
    clear hb1 bP
    go_wp2
    go_ret
    exact PBool.yes trivial hb
  have SX := Lib.hid (smalls_of_sz (filtDs x) 1048576 (by omega) (by omega) (by rw [← E1.out]; omega))
  have CX := Lib.hid (fcnt_of_sz x 1048576 (by omega) (by omega) (by rw [← E1.out]; omega))
  have FX := filt_few x (l := 1048576) (by omega) (by omega) (by rw [← E1.out]; omega)
  have FT := topF_le x
  have hcnt : filtCnt x ≤ 1099511627776 := by
    have h1 := CX.out.1
    rw [← E1.out] at h1
    omega
  go_enter Tryz.func3, Tryz.ntmps3
  go_wp2_with fail
  refine (szFilt_calls x [_, _, _, _, _, _, _, _, _] _ _ B (Nat.le_trans hB (hbx _).size) (HX.out.below ((hbx _).mono hB)) (by omega) (by omega)).mono ?_
  rintro e w1 ⟨rfl, hb1⟩
  rw [← E1.out]
  obtain ⟨hb, hz, bP⟩ := boxes1 (P := [.int .i64 a0, .int .i64 a1, .string a2, .int .i64 a3, .int .i64 a4, .string a5, .slice A6 n6 q6, .slice A7 n7 q7, .slice A8 n8 q8]) (boxes1_of hb1)
  have K1 := Lib.hid (show Has [(w.heap.size, [.int .i64 a0, .int .i64 a1, .string a2, .int .i64 a3, .int .i64 a4, .string a5, .slice A6 n6 q6, .slice A7 n7 q7, .slice A8 n8 q8])] w1 from Has.cons (by omega) (fun i u hu => (bP.cell i).trans hu) (Has.nil _))
  have B1 := Lib.hid (show Below w.heap.size w w1 from hb)
  have z1 := B1.out.size
  have kxa0 := K1.out.head 0 rfl
  have kxa1 := K1.out.head 1 rfl
  have kxa2 := K1.out.head 2 rfl
  have kxa3 := K1.out.head 3 rfl
  have kxa4 := K1.out.head 4 rfl
  have kxa5 := K1.out.head 5 rfl
  have kxa6 := K1.out.head 6 rfl
  have kxa7 := K1.out.head 7 rfl
  have kxa8 := K1.out.head 8 rfl
  clear hb1 bP hbx hb
  go_wp2_with fail
  refine (toFilt_calls x [.int .i64 a0, .int .i64 a1, .string a2, .int .i64 a3, .int .i64 a4, .string a5, .slice A6 n6 q6, .slice A7 n7 q7, .slice A8 n8 q8] _ B (Nat.le_trans hB z1) (HX.out.below (B1.out.mono hB)) SX.out).mono ?_
  rintro e w2 ⟨q1, f1, rfl, hO, hF, hb⟩
  have RA := Lib.hid hO
  clear hO hF
  have K2 := Lib.hid (K1.out.below hb)
  have B2 := Lib.hid (B1.out.trans (hb.mono z1))
  have z2 := B2.out.size
  have y2 := hb.size
  clear hb kxa0 kxa1 kxa2 kxa3 kxa4 kxa5 kxa6 kxa7 kxa8 K1 B1
  have kxa0 := K2.out.head 0 rfl
  have kxa1 := K2.out.head 1 rfl
  have kxa2 := K2.out.head 2 rfl
  have kxa3 := K2.out.head 3 rfl
  have kxa4 := K2.out.head 4 rfl
  have kxa5 := K2.out.head 5 rfl
  have kxa6 := K2.out.head 6 rfl
  have kxa7 := K2.out.head 7 rfl
  have kxa8 := K2.out.head 8 rfl
  go_wp2_with fail
  refine (sSlim_calls x _ w2 w2.heap.size (Nat.le_refl _) RA.out.rd' CX.out.2 hcnt).mono ?_
  rintro e w3 ⟨y0, vw, fw, rfl, RS, hO, hF, hb⟩
  obtain ⟨p0, p1, p2, p3, p4, p5, pA, pB, pC, pD, pE, pG, pH, pI, pJ, rfl⟩ := filtDs_shape hO.out.rd'
  have OW := Lib.hid hO.out
  have LW := Lib.hid hF.out.2
  have few := slimmed_few RS.out
  have hb3 := hb.out
  clear hO hF RA hb
  have K3 := Lib.hid (K2.out.below hb3)
  have B3 := Lib.hid (B2.out.trans (hb3.mono z2))
  have z3 := B3.out.size
  have y3 := hb3.size
  clear hb3 kxa0 kxa1 kxa2 kxa3 kxa4 kxa5 kxa6 kxa7 kxa8 K2 B2
  have kxa0 := K3.out.head 0 rfl
  have kxa1 := K3.out.head 1 rfl
  have kxa2 := K3.out.head 2 rfl
  have kxa3 := K3.out.head 3 rfl
  have kxa4 := K3.out.head 4 rfl
  have kxa5 := K3.out.head 5 rfl
  have kxa6 := K3.out.head 6 rfl
  have kxa7 := K3.out.head 7 rfl
  have kxa8 := K3.out.head 8 rfl
  have X4 := below_box w3 (.cells #[.int .i64 p0, .int .i64 p1, .string p2, .int .i64 p3, .int .i64 p4, .string p5, .slice pA pB pC, .slice pD pE pG, .slice pH pI pJ] 35)
  have K4 := Lib.hid (K3.out.alloc [.int .i64 p0, .int .i64 p1, .string p2, .int .i64 p3, .int .i64 p4, .string p5, .slice pA pB pC, .slice pD pE pG, .slice pH pI pJ] 35)
  have B4 := Lib.hid (B3.out.trans (X4.mono z3))
  have z4 := B4.out.size
  have y4 : (w3.alloc (.cells #[.int .i64 p0, .int .i64 p1, .string p2, .int .i64 p3, .int .i64 p4, .string p5, .slice pA pB pC, .slice pD pE pG, .slice pH pI pJ] 35)).heap.size = w3.heap.size + 1 := by simp
  have Y4 := Lib.hid y4
  have OW_ := Lib.hid (OW.out.below X4)
  clear OW
  have OW := OW_
  clear OW_
  clear y4 X4 kxa0 kxa1 kxa2 kxa3 kxa4 kxa5 kxa6 kxa7 kxa8 K3 B3
  have kxw0 := K4.out.head 0 rfl
  have kxw1 := K4.out.head 1 rfl
  have kxw2 := K4.out.head 2 rfl
  have kxw3 := K4.out.head 3 rfl
  have kxw4 := K4.out.head 4 rfl
  have kxw5 := K4.out.head 5 rfl
  have kxw6 := K4.out.head 6 rfl
  have kxw7 := K4.out.head 7 rfl
  have kxw8 := K4.out.head 8 rfl
  have kxa0 := K4.out.tail.head 0 rfl
  have kxa1 := K4.out.tail.head 1 rfl
  have kxa2 := K4.out.tail.head 2 rfl
  have kxa3 := K4.out.tail.head 3 rfl
  have kxa4 := K4.out.tail.head 4 rfl
  have kxa5 := K4.out.tail.head 5 rfl
  have kxa6 := K4.out.tail.head 6 rfl
  have kxa7 := K4.out.tail.head 7 rfl
  have kxa8 := K4.out.tail.head 8 rfl
  go_wp2_with fail
  refine (toFilt_calls x [.int .i64 a0, .int .i64 a1, .string a2, .int .i64 a3, .int .i64 a4, .string a5, .slice A6 n6 q6, .slice A7 n7 q7, .slice A8 n8 q8] _ B (Nat.le_trans hB z4) (HX.out.below (B4.out.mono hB)) SX.out).mono ?_
  rintro e w4 ⟨qx, fx, rfl, hO, hF, hb⟩
  obtain ⟨b0, b1, b2, b3, b4, b5, C6, m6, p6, C7, m7, p7, C8, m8, p8, rfl⟩ := filtDs_shape hO.rd'
  have OX := Lib.hid hO
  have LX0 := hF.2
  rw [Y4.out] at LX0
  have LX := Lib.hid LX0
  clear LX0
  have NX := Lib.hid hF.1
  clear hO hF
  have K5 := Lib.hid (K4.out.below hb)
  have B5 := Lib.hid (B4.out.trans (hb.mono z4))
  have z5 := B5.out.size
  have y5 := hb.size
  have OW_ := Lib.hid (OW.out.below hb)
  clear OW
  have OW := OW_
  clear OW_
  clear hb kxw0 kxw1 kxw2 kxw3 kxw4 kxw5 kxw6 kxw7 kxw8 kxa0 kxa1 kxa2 kxa3 kxa4 kxa5 kxa6 kxa7 kxa8 K4 B4
  rw [Y4.out] at y5
  have kxw0 := K5.out.head 0 rfl
  have kxw1 := K5.out.head 1 rfl
  have kxw2 := K5.out.head 2 rfl
  have kxw3 := K5.out.head 3 rfl
  have kxw4 := K5.out.head 4 rfl
  have kxw5 := K5.out.head 5 rfl
  have kxw6 := K5.out.head 6 rfl
  have kxw7 := K5.out.head 7 rfl
  have kxw8 := K5.out.head 8 rfl
  have kxa0 := K5.out.tail.head 0 rfl
  have kxa1 := K5.out.tail.head 1 rfl
  have kxa2 := K5.out.tail.head 2 rfl
  have kxa3 := K5.out.tail.head 3 rfl
  have kxa4 := K5.out.tail.head 4 rfl
  have kxa5 := K5.out.tail.head 5 rfl
  have kxa6 := K5.out.tail.head 6 rfl
  have kxa7 := K5.out.tail.head 7 rfl
  have kxa8 := K5.out.tail.head 8 rfl
  have X6 := below_box w4 (.cells #[.int .i64 b0, .int .i64 b1, .string b2, .int .i64 b3, .int .i64 b4, .string b5, .slice C6 m6 p6, .slice C7 m7 p7, .slice C8 m8 p8] 35)
  have K6 := Lib.hid (K5.out.alloc [.int .i64 b0, .int .i64 b1, .string b2, .int .i64 b3, .int .i64 b4, .string b5, .slice C6 m6 p6, .slice C7 m7 p7, .slice C8 m8 p8] 35)
  have B6 := Lib.hid (B5.out.trans (X6.mono z5))
  have z6 := B6.out.size
  have y6 : (w4.alloc (.cells #[.int .i64 b0, .int .i64 b1, .string b2, .int .i64 b3, .int .i64 b4, .string b5, .slice C6 m6 p6, .slice C7 m7 p7, .slice C8 m8 p8] 35)).heap.size = w4.heap.size + 1 := by simp
  have Y6 := Lib.hid y6
  have OW_ := Lib.hid (OW.out.below X6)
  clear OW
  have OW := OW_
  clear OW_
  have OX_ := Lib.hid (OX.out.below X6)
  clear OX
  have OX := OX_
  clear OX_
  clear y6 X6 kxw0 kxw1 kxw2 kxw3 kxw4 kxw5 kxw6 kxw7 kxw8 kxa0 kxa1 kxa2 kxa3 kxa4 kxa5 kxa6 kxa7 kxa8 K5 B5
  have kxb0 := K6.out.head 0 rfl
  have kxb1 := K6.out.head 1 rfl
  have kxb2 := K6.out.head 2 rfl
  have kxb3 := K6.out.head 3 rfl
  have kxb4 := K6.out.head 4 rfl
  have kxb5 := K6.out.head 5 rfl
  have kxb6 := K6.out.head 6 rfl
  have kxb7 := K6.out.head 7 rfl
  have kxb8 := K6.out.head 8 rfl
  have kxw0 := K6.out.tail.head 0 rfl
  have kxw1 := K6.out.tail.head 1 rfl
  have kxw2 := K6.out.tail.head 2 rfl
  have kxw3 := K6.out.tail.head 3 rfl
  have kxw4 := K6.out.tail.head 4 rfl
  have kxw5 := K6.out.tail.head 5 rfl
  have kxw6 := K6.out.tail.head 6 rfl
  have kxw7 := K6.out.tail.head 7 rfl
  have kxw8 := K6.out.tail.head 8 rfl
  have kxa0 := K6.out.tail.tail.head 0 rfl
  have kxa1 := K6.out.tail.tail.head 1 rfl
  have kxa2 := K6.out.tail.tail.head 2 rfl
  have kxa3 := K6.out.tail.tail.head 3 rfl
  have kxa4 := K6.out.tail.tail.head 4 rfl
  have kxa5 := K6.out.tail.tail.head 5 rfl
  have kxa6 := K6.out.tail.tail.head 6 rfl
  have kxa7 := K6.out.tail.tail.head 7 rfl
  have kxa8 := K6.out.tail.tail.head 8 rfl
  go_wp2_with fail
  refine (iSlim_calls x [_, _, _, _, _, _, _, _, _] _ _ (Nat.le_refl _) OX.out.rd' (tab_upto (HT.out.below (B6.out.mono hB)) (Nat.le_trans hB z6))).mono ?_
  rintro e w5 ⟨y1, vg, fg, rfl, hg, hO, hF, hb⟩
  obtain rfl := RS.out.det hg.out
  obtain ⟨g0, g1, g2, g3, g4, g5, gA, gB, gC, gD, gE, gG, gH, gI, gJ, rfl⟩ := filtDs_shape hO.out.rd'
  have OG := Lib.hid hO.out
  have LG0 := hF.out.2
  rw [Y6.out] at LG0
  have LG := Lib.hid LG0
  clear LG0
  have NG := Lib.hid hF.out.1
  have hb5 := hb.out
  clear hg hO hF hb
  have K7 := Lib.hid (K6.out.below hb5)
  have B7 := Lib.hid (B6.out.trans (hb5.mono z6))
  have z7 := B7.out.size
  have y7 := hb5.size
  have OW_ := Lib.hid (OW.out.below hb5)
  clear OW
  have OW := OW_
  clear OW_
  have OX_ := Lib.hid (OX.out.below hb5)
  clear OX
  have OX := OX_
  clear OX_
  clear hb5 kxb0 kxb1 kxb2 kxb3 kxb4 kxb5 kxb6 kxb7 kxb8 kxw0 kxw1 kxw2 kxw3 kxw4 kxw5 kxw6 kxw7 kxw8 kxa0 kxa1 kxa2 kxa3 kxa4 kxa5 kxa6 kxa7 kxa8 K6 B6
  rw [Y6.out] at y7
  have kxb0 := K7.out.head 0 rfl
  have kxb1 := K7.out.head 1 rfl
  have kxb2 := K7.out.head 2 rfl
  have kxb3 := K7.out.head 3 rfl
  have kxb4 := K7.out.head 4 rfl
  have kxb5 := K7.out.head 5 rfl
  have kxb6 := K7.out.head 6 rfl
  have kxb7 := K7.out.head 7 rfl
  have kxb8 := K7.out.head 8 rfl
  have kxw0 := K7.out.tail.head 0 rfl
  have kxw1 := K7.out.tail.head 1 rfl
  have kxw2 := K7.out.tail.head 2 rfl
  have kxw3 := K7.out.tail.head 3 rfl
  have kxw4 := K7.out.tail.head 4 rfl
  have kxw5 := K7.out.tail.head 5 rfl
  have kxw6 := K7.out.tail.head 6 rfl
  have kxw7 := K7.out.tail.head 7 rfl
  have kxw8 := K7.out.tail.head 8 rfl
  have kxa0 := K7.out.tail.tail.head 0 rfl
  have kxa1 := K7.out.tail.tail.head 1 rfl
  have kxa2 := K7.out.tail.tail.head 2 rfl
  have kxa3 := K7.out.tail.tail.head 3 rfl
  have kxa4 := K7.out.tail.tail.head 4 rfl
  have kxa5 := K7.out.tail.tail.head 5 rfl
  have kxa6 := K7.out.tail.tail.head 6 rfl
  have kxa7 := K7.out.tail.tail.head 7 rfl
  have kxa8 := K7.out.tail.tail.head 8 rfl
  have X8 := below_box w5 (.cells #[.int .i64 g0, .int .i64 g1, .string g2, .int .i64 g3, .int .i64 g4, .string g5, .slice gA gB gC, .slice gD gE gG, .slice gH gI gJ] 35)
  have K8 := Lib.hid (K7.out.alloc [.int .i64 g0, .int .i64 g1, .string g2, .int .i64 g3, .int .i64 g4, .string g5, .slice gA gB gC, .slice gD gE gG, .slice gH gI gJ] 35)
  have B8 := Lib.hid (B7.out.trans (X8.mono z7))
  have z8 := B8.out.size
  have y8 : (w5.alloc (.cells #[.int .i64 g0, .int .i64 g1, .string g2, .int .i64 g3, .int .i64 g4, .string g5, .slice gA gB gC, .slice gD gE gG, .slice gH gI gJ] 35)).heap.size = w5.heap.size + 1 := by simp
  have Y8 := Lib.hid y8
  have OW_ := Lib.hid (OW.out.below X8)
  clear OW
  have OW := OW_
  clear OW_
  have OX_ := Lib.hid (OX.out.below X8)
  clear OX
  have OX := OX_
  clear OX_
  have OG_ := Lib.hid (OG.out.below X8)
  clear OG
  have OG := OG_
  clear OG_
  clear y8 X8 kxb0 kxb1 kxb2 kxb3 kxb4 kxb5 kxb6 kxb7 kxb8 kxw0 kxw1 kxw2 kxw3 kxw4 kxw5 kxw6 kxw7 kxw8 kxa0 kxa1 kxa2 kxa3 kxa4 kxa5 kxa6 kxa7 kxa8 K7 B7
  have kxg0 := K8.out.head 0 rfl
  have kxg1 := K8.out.head 1 rfl
  have kxg2 := K8.out.head 2 rfl
  have kxg3 := K8.out.head 3 rfl
  have kxg4 := K8.out.head 4 rfl
  have kxg5 := K8.out.head 5 rfl
  have kxg6 := K8.out.head 6 rfl
  have kxg7 := K8.out.head 7 rfl
  have kxg8 := K8.out.head 8 rfl
  have kxb0 := K8.out.tail.head 0 rfl
  have kxb1 := K8.out.tail.head 1 rfl
  have kxb2 := K8.out.tail.head 2 rfl
  have kxb3 := K8.out.tail.head 3 rfl
  have kxb4 := K8.out.tail.head 4 rfl
  have kxb5 := K8.out.tail.head 5 rfl
  have kxb6 := K8.out.tail.head 6 rfl
  have kxb7 := K8.out.tail.head 7 rfl
  have kxb8 := K8.out.tail.head 8 rfl
  have kxw0 := K8.out.tail.tail.head 0 rfl
  have kxw1 := K8.out.tail.tail.head 1 rfl
  have kxw2 := K8.out.tail.tail.head 2 rfl
  have kxw3 := K8.out.tail.tail.head 3 rfl
  have kxw4 := K8.out.tail.tail.head 4 rfl
  have kxw5 := K8.out.tail.tail.head 5 rfl
  have kxw6 := K8.out.tail.tail.head 6 rfl
  have kxw7 := K8.out.tail.tail.head 7 rfl
  have kxw8 := K8.out.tail.tail.head 8 rfl
  have kxa0 := K8.out.tail.tail.tail.head 0 rfl
  have kxa1 := K8.out.tail.tail.tail.head 1 rfl
  have kxa2 := K8.out.tail.tail.tail.head 2 rfl
  have kxa3 := K8.out.tail.tail.tail.head 3 rfl
  have kxa4 := K8.out.tail.tail.tail.head 4 rfl
  have kxa5 := K8.out.tail.tail.tail.head 5 rfl
  have kxa6 := K8.out.tail.tail.tail.head 6 rfl
  have kxa7 := K8.out.tail.tail.tail.head 7 rfl
  have kxa8 := K8.out.tail.tail.tail.head 8 rfl
  go_wp2_with fail
  refine (eqFilt_calls y0 [.int .i64 g0, .int .i64 g1, .string g2, .int .i64 g3, .int .i64 g4, .string g5, .slice gA gB gC, .slice gD gE gG, .slice gH gI gJ] [.int .i64 p0, .int .i64 p1, .string p2, .int .i64 p3, .int .i64 p4, .string p5, .slice pA pB pC, .slice pD pE pG, .slice pH pI pJ] _ _ (Nat.le_refl _) OG.out.rd' OW.out.rd').mono ?_
  rintro e w6 ⟨rfl, hb⟩
  have K9 := Lib.hid (K8.out.below hb)
  have B9 := Lib.hid (B8.out.trans (hb.mono z8))
  have z9 := B9.out.size
  have y9 := hb.size
  have OW_ := Lib.hid (OW.out.below hb)
  clear OW
  have OW := OW_
  clear OW_
  have OX_ := Lib.hid (OX.out.below hb)
  clear OX
  have OX := OX_
  clear OX_
  have OG_ := Lib.hid (OG.out.below hb)
  clear OG
  have OG := OG_
  clear OG_
  clear hb kxg0 kxg1 kxg2 kxg3 kxg4 kxg5 kxg6 kxg7 kxg8 kxb0 kxb1 kxb2 kxb3 kxb4 kxb5 kxb6 kxb7 kxb8 kxw0 kxw1 kxw2 kxw3 kxw4 kxw5 kxw6 kxw7 kxw8 kxa0 kxa1 kxa2 kxa3 kxa4 kxa5 kxa6 kxa7 kxa8 K8 B8
  rw [Y8.out] at y9
  have kxg0 := K9.out.head 0 rfl
  have kxg1 := K9.out.head 1 rfl
  have kxg2 := K9.out.head 2 rfl
  have kxg3 := K9.out.head 3 rfl
  have kxg4 := K9.out.head 4 rfl
  have kxg5 := K9.out.head 5 rfl
  have kxg6 := K9.out.head 6 rfl
  have kxg7 := K9.out.head 7 rfl
  have kxg8 := K9.out.head 8 rfl
  have kxb0 := K9.out.tail.head 0 rfl
  have kxb1 := K9.out.tail.head 1 rfl
  have kxb2 := K9.out.tail.head 2 rfl
  have kxb3 := K9.out.tail.head 3 rfl
  have kxb4 := K9.out.tail.head 4 rfl
  have kxb5 := K9.out.tail.head 5 rfl
  have kxb6 := K9.out.tail.head 6 rfl
  have kxb7 := K9.out.tail.head 7 rfl
  have kxb8 := K9.out.tail.head 8 rfl
  have kxw0 := K9.out.tail.tail.head 0 rfl
  have kxw1 := K9.out.tail.tail.head 1 rfl
  have kxw2 := K9.out.tail.tail.head 2 rfl
  have kxw3 := K9.out.tail.tail.head 3 rfl
  have kxw4 := K9.out.tail.tail.head 4 rfl
  have kxw5 := K9.out.tail.tail.head 5 rfl
  have kxw6 := K9.out.tail.tail.head 6 rfl
  have kxw7 := K9.out.tail.tail.head 7 rfl
  have kxw8 := K9.out.tail.tail.head 8 rfl
  have kxa0 := K9.out.tail.tail.tail.head 0 rfl
  have kxa1 := K9.out.tail.tail.tail.head 1 rfl
  have kxa2 := K9.out.tail.tail.tail.head 2 rfl
  have kxa3 := K9.out.tail.tail.tail.head 3 rfl
  have kxa4 := K9.out.tail.tail.tail.head 4 rfl
  have kxa5 := K9.out.tail.tail.tail.head 5 rfl
  have kxa6 := K9.out.tail.tail.tail.head 6 rfl
  have kxa7 := K9.out.tail.tail.tail.head 7 rfl
  have kxa8 := K9.out.tail.tail.tail.head 8 rfl
  go_wp2_with fail
  have DR := Lib.hid (show Below w6.heap.size w6 w6.drew from (Below.refl _ _).drew)
  have HS := Lib.hid (HX.out.below ((B9.out.trans (DR.out.mono z9)).mono hB))
  have HM := Lib.hid (OX.out.below DR.out).rd'
  have hBw : B ≤ w6.drew.heap.size := Nat.le_trans hB z9
  have dxb0 := Lib.hid (show w6.drew.cell? ⟨w4.heap.size, 0, none⟩ = some (.int .i64 b0) from (K9.out.below DR.out).tail.head 0 rfl)
  have dxb1 := Lib.hid (show w6.drew.cell? ⟨w4.heap.size, 1, none⟩ = some (.int .i64 b1) from (K9.out.below DR.out).tail.head 1 rfl)
  have dxb2 := Lib.hid (show w6.drew.cell? ⟨w4.heap.size, 2, none⟩ = some (.string b2) from (K9.out.below DR.out).tail.head 2 rfl)
  have dxb3 := Lib.hid (show w6.drew.cell? ⟨w4.heap.size, 3, none⟩ = some (.int .i64 b3) from (K9.out.below DR.out).tail.head 3 rfl)
  have dxb4 := Lib.hid (show w6.drew.cell? ⟨w4.heap.size, 4, none⟩ = some (.int .i64 b4) from (K9.out.below DR.out).tail.head 4 rfl)
  have dxb5 := Lib.hid (show w6.drew.cell? ⟨w4.heap.size, 5, none⟩ = some (.string b5) from (K9.out.below DR.out).tail.head 5 rfl)
  have dxb6 := Lib.hid (show w6.drew.cell? ⟨w4.heap.size, 6, none⟩ = some (.slice C6 m6 p6) from (K9.out.below DR.out).tail.head 6 rfl)
  have dxb7 := Lib.hid (show w6.drew.cell? ⟨w4.heap.size, 7, none⟩ = some (.slice C7 m7 p7) from (K9.out.below DR.out).tail.head 7 rfl)
  have dxb8 := Lib.hid (show w6.drew.cell? ⟨w4.heap.size, 8, none⟩ = some (.slice C8 m8 p8) from (K9.out.below DR.out).tail.head 8 rfl)
  have dxa0 := Lib.hid (show w6.drew.cell? ⟨w.heap.size, 0, none⟩ = some (.int .i64 a0) from (K9.out.below DR.out).tail.tail.tail.head 0 rfl)
  have dxa1 := Lib.hid (show w6.drew.cell? ⟨w.heap.size, 1, none⟩ = some (.int .i64 a1) from (K9.out.below DR.out).tail.tail.tail.head 1 rfl)
  have dxa2 := Lib.hid (show w6.drew.cell? ⟨w.heap.size, 2, none⟩ = some (.string a2) from (K9.out.below DR.out).tail.tail.tail.head 2 rfl)
  have dxa3 := Lib.hid (show w6.drew.cell? ⟨w.heap.size, 3, none⟩ = some (.int .i64 a3) from (K9.out.below DR.out).tail.tail.tail.head 3 rfl)
  have dxa4 := Lib.hid (show w6.drew.cell? ⟨w.heap.size, 4, none⟩ = some (.int .i64 a4) from (K9.out.below DR.out).tail.tail.tail.head 4 rfl)
  have dxa5 := Lib.hid (show w6.drew.cell? ⟨w.heap.size, 5, none⟩ = some (.string a5) from (K9.out.below DR.out).tail.tail.tail.head 5 rfl)
  have dxa6 := Lib.hid (show w6.drew.cell? ⟨w.heap.size, 6, none⟩ = some (.slice A6 n6 q6) from (K9.out.below DR.out).tail.tail.tail.head 6 rfl)
  have dxa7 := Lib.hid (show w6.drew.cell? ⟨w.heap.size, 7, none⟩ = some (.slice A7 n7 q7) from (K9.out.below DR.out).tail.tail.tail.head 7 rfl)
  have dxa8 := Lib.hid (show w6.drew.cell? ⟨w.heap.size, 8, none⟩ = some (.slice A8 n8 q8) from (K9.out.below DR.out).tail.tail.tail.head 8 rfl)
  clear kxg0 kxg1 kxg2 kxg3 kxg4 kxg5 kxg6 kxg7 kxg8 kxb0 kxb1 kxb2 kxb3 kxb4 kxb5 kxb6 kxb7 kxb8 kxw0 kxw1 kxw2 kxw3 kxw4 kxw5 kxw6 kxw7 kxw8 kxa0 kxa1 kxa2 kxa3 kxa4 kxa5 kxa6 kxa7 kxa8
  go_region_held3 (fun w' => w'.cell? ⟨w4.heap.size, 0, none⟩ = some (.int .i64 b0) ∧ w'.cell? ⟨w4.heap.size, 1, none⟩ = some (.int .i64 b1) ∧ w'.cell? ⟨w4.heap.size, 2, none⟩ = some (.string b2) ∧ w'.cell? ⟨w4.heap.size, 3, none⟩ = some (.int .i64 b3) ∧ w'.cell? ⟨w4.heap.size, 4, none⟩ = some (.int .i64 b4) ∧ w'.cell? ⟨w4.heap.size, 5, none⟩ = some (.string b5) ∧ w'.cell? ⟨w4.heap.size, 6, none⟩ = some (.slice C6 m6 p6) ∧ w'.cell? ⟨w4.heap.size, 7, none⟩ = some (.slice C7 m7 p7) ∧ w'.cell? ⟨w4.heap.size, 8, none⟩ = some (.slice C8 m8 p8) ∧ w'.cell? ⟨w.heap.size, 0, none⟩ = some (.int .i64 a0) ∧ w'.cell? ⟨w.heap.size, 1, none⟩ = some (.int .i64 a1) ∧ w'.cell? ⟨w.heap.size, 2, none⟩ = some (.string a2) ∧ w'.cell? ⟨w.heap.size, 3, none⟩ = some (.int .i64 a3) ∧ w'.cell? ⟨w.heap.size, 4, none⟩ = some (.int .i64 a4) ∧ w'.cell? ⟨w.heap.size, 5, none⟩ = some (.string a5) ∧ w'.cell? ⟨w.heap.size, 6, none⟩ = some (.slice A6 n6 q6) ∧ w'.cell? ⟨w.heap.size, 7, none⟩ = some (.slice A7 n7 q7) ∧ w'.cell? ⟨w.heap.size, 8, none⟩ = some (.slice A8 n8 q8))
    (first | (with_reducible exact ⟨dxb0.out, dxb1.out, dxb2.out, dxb3.out, dxb4.out, dxb5.out, dxb6.out, dxb7.out, dxb8.out, dxa0.out, dxa1.out, dxa2.out, dxa3.out, dxa4.out, dxa5.out, dxa6.out, dxa7.out, dxa8.out⟩) | (with_reducible exact ⟨exb0.out, exb1.out, exb2.out, exb3.out, exb4.out, exb5.out, exb6.out, exb7.out, exb8.out, exa0.out, exa1.out, exa2.out, exa3.out, exa4.out, exa5.out, exa6.out, exa7.out, exa8.out⟩) | (with_reducible exact ⟨fxb0.out, fxb1.out, fxb2.out, fxb3.out, fxb4.out, fxb5.out, fxb6.out, fxb7.out, fxb8.out, fxa0.out, fxa1.out, fxa2.out, fxa3.out, fxa4.out, fxa5.out, fxa6.out, fxa7.out, fxa8.out⟩) | fail "keep")
    (first
      | (go_at_call 6; ((refine (toFilt_calls x [.int .i64 a0, .int .i64 a1, .string a2, .int .i64 a3, .int .i64 a4, .string a5, .slice A6 n6 q6, .slice A7 n7 q7, .slice A8 n8 q8] w6.drew B hBw HS.out SX.out).mono ?_); rintro e wt ⟨ut, ft, rfl, hOt, hFt, hbt⟩; have KT := Lib.hid (K9.out.below (DR.out.trans hbt)); have exb0 := Lib.hid (show wt.cell? ⟨w4.heap.size, 0, none⟩ = some (.int .i64 b0) from KT.out.tail.head 0 rfl); have exb1 := Lib.hid (show wt.cell? ⟨w4.heap.size, 1, none⟩ = some (.int .i64 b1) from KT.out.tail.head 1 rfl); have exb2 := Lib.hid (show wt.cell? ⟨w4.heap.size, 2, none⟩ = some (.string b2) from KT.out.tail.head 2 rfl); have exb3 := Lib.hid (show wt.cell? ⟨w4.heap.size, 3, none⟩ = some (.int .i64 b3) from KT.out.tail.head 3 rfl); have exb4 := Lib.hid (show wt.cell? ⟨w4.heap.size, 4, none⟩ = some (.int .i64 b4) from KT.out.tail.head 4 rfl); have exb5 := Lib.hid (show wt.cell? ⟨w4.heap.size, 5, none⟩ = some (.string b5) from KT.out.tail.head 5 rfl); have exb6 := Lib.hid (show wt.cell? ⟨w4.heap.size, 6, none⟩ = some (.slice C6 m6 p6) from KT.out.tail.head 6 rfl); have exb7 := Lib.hid (show wt.cell? ⟨w4.heap.size, 7, none⟩ = some (.slice C7 m7 p7) from KT.out.tail.head 7 rfl); have exb8 := Lib.hid (show wt.cell? ⟨w4.heap.size, 8, none⟩ = some (.slice C8 m8 p8) from KT.out.tail.head 8 rfl); have exa0 := Lib.hid (show wt.cell? ⟨w.heap.size, 0, none⟩ = some (.int .i64 a0) from KT.out.tail.tail.tail.head 0 rfl); have exa1 := Lib.hid (show wt.cell? ⟨w.heap.size, 1, none⟩ = some (.int .i64 a1) from KT.out.tail.tail.tail.head 1 rfl); have exa2 := Lib.hid (show wt.cell? ⟨w.heap.size, 2, none⟩ = some (.string a2) from KT.out.tail.tail.tail.head 2 rfl); have exa3 := Lib.hid (show wt.cell? ⟨w.heap.size, 3, none⟩ = some (.int .i64 a3) from KT.out.tail.tail.tail.head 3 rfl); have exa4 := Lib.hid (show wt.cell? ⟨w.heap.size, 4, none⟩ = some (.int .i64 a4) from KT.out.tail.tail.tail.head 4 rfl); have exa5 := Lib.hid (show wt.cell? ⟨w.heap.size, 5, none⟩ = some (.string a5) from KT.out.tail.tail.tail.head 5 rfl); have exa6 := Lib.hid (show wt.cell? ⟨w.heap.size, 6, none⟩ = some (.slice A6 n6 q6) from KT.out.tail.tail.tail.head 6 rfl); have exa7 := Lib.hid (show wt.cell? ⟨w.heap.size, 7, none⟩ = some (.slice A7 n7 q7) from KT.out.tail.tail.tail.head 7 rfl); have exa8 := Lib.hid (show wt.cell? ⟨w.heap.size, 8, none⟩ = some (.slice A8 n8 q8) from KT.out.tail.tail.tail.head 8 rfl)))
      | (go_at_call 8; ((refine (eqFilt_calls x [.int .i64 b0, .int .i64 b1, .string b2, .int .i64 b3, .int .i64 b4, .string b5, .slice C6 m6 p6, .slice C7 m7 p7, .slice C8 m8 p8] ut wt wt.heap.size (Nat.le_refl _) (HM.out.upto hbt hbt.size) hOt.rd').mono ?_); rintro e w8 ⟨rfl, hbq⟩; have KQ := Lib.hid (KT.out.below hbq); have fxb0 := Lib.hid (show w8.cell? ⟨w4.heap.size, 0, none⟩ = some (.int .i64 b0) from KQ.out.tail.head 0 rfl); have fxb1 := Lib.hid (show w8.cell? ⟨w4.heap.size, 1, none⟩ = some (.int .i64 b1) from KQ.out.tail.head 1 rfl); have fxb2 := Lib.hid (show w8.cell? ⟨w4.heap.size, 2, none⟩ = some (.string b2) from KQ.out.tail.head 2 rfl); have fxb3 := Lib.hid (show w8.cell? ⟨w4.heap.size, 3, none⟩ = some (.int .i64 b3) from KQ.out.tail.head 3 rfl); have fxb4 := Lib.hid (show w8.cell? ⟨w4.heap.size, 4, none⟩ = some (.int .i64 b4) from KQ.out.tail.head 4 rfl); have fxb5 := Lib.hid (show w8.cell? ⟨w4.heap.size, 5, none⟩ = some (.string b5) from KQ.out.tail.head 5 rfl); have fxb6 := Lib.hid (show w8.cell? ⟨w4.heap.size, 6, none⟩ = some (.slice C6 m6 p6) from KQ.out.tail.head 6 rfl); have fxb7 := Lib.hid (show w8.cell? ⟨w4.heap.size, 7, none⟩ = some (.slice C7 m7 p7) from KQ.out.tail.head 7 rfl); have fxb8 := Lib.hid (show w8.cell? ⟨w4.heap.size, 8, none⟩ = some (.slice C8 m8 p8) from KQ.out.tail.head 8 rfl); have fxa0 := Lib.hid (show w8.cell? ⟨w.heap.size, 0, none⟩ = some (.int .i64 a0) from KQ.out.tail.tail.tail.head 0 rfl); have fxa1 := Lib.hid (show w8.cell? ⟨w.heap.size, 1, none⟩ = some (.int .i64 a1) from KQ.out.tail.tail.tail.head 1 rfl); have fxa2 := Lib.hid (show w8.cell? ⟨w.heap.size, 2, none⟩ = some (.string a2) from KQ.out.tail.tail.tail.head 2 rfl); have fxa3 := Lib.hid (show w8.cell? ⟨w.heap.size, 3, none⟩ = some (.int .i64 a3) from KQ.out.tail.tail.tail.head 3 rfl); have fxa4 := Lib.hid (show w8.cell? ⟨w.heap.size, 4, none⟩ = some (.int .i64 a4) from KQ.out.tail.tail.tail.head 4 rfl); have fxa5 := Lib.hid (show w8.cell? ⟨w.heap.size, 5, none⟩ = some (.string a5) from KQ.out.tail.tail.tail.head 5 rfl); have fxa6 := Lib.hid (show w8.cell? ⟨w.heap.size, 6, none⟩ = some (.slice A6 n6 q6) from KQ.out.tail.tail.tail.head 6 rfl); have fxa7 := Lib.hid (show w8.cell? ⟨w.heap.size, 7, none⟩ = some (.slice A7 n7 q7) from KQ.out.tail.tail.tail.head 7 rfl); have fxa8 := Lib.hid (show w8.cell? ⟨w.heap.size, 8, none⟩ = some (.slice A8 n8 q8) from KQ.out.tail.tail.tail.head 8 rfl))))
  have hb := DR.out.trans (hbt.trans (hbq.mono hbt.size))
  clear hOt hFt hbt hbq KT KQ DR HS HM hBw dxb0 dxb1 dxb2 dxb3 dxb4 dxb5 dxb6 dxb7 dxb8 dxa0 dxa1 dxa2 dxa3 dxa4 dxa5 dxa6 dxa7 dxa8 exb0 exb1 exb2 exb3 exb4 exb5 exb6 exb7 exb8 exa0 exa1 exa2 exa3 exa4 exa5 exa6 exa7 exa8 fxb0 fxb1 fxb2 fxb3 fxb4 fxb5 fxb6 fxb7 fxb8 fxa0 fxa1 fxa2 fxa3 fxa4 fxa5 fxa6 fxa7 fxa8
  have K10 := Lib.hid (K9.out.below hb)
  have B10 := Lib.hid (B9.out.trans (hb.mono z9))
  have z10 := B10.out.size
  have y10 := hb.size
  have OW_ := Lib.hid (OW.out.below hb)
  clear OW
  have OW := OW_
  clear OW_
  have OX_ := Lib.hid (OX.out.below hb)
  clear OX
  have OX := OX_
  clear OX_
  have OG_ := Lib.hid (OG.out.below hb)
  clear OG
  have OG := OG_
  clear OG_
  clear hb K9 B9
  have kxg0 := K10.out.head 0 rfl
  have kxg1 := K10.out.head 1 rfl
  have kxg2 := K10.out.head 2 rfl
  have kxg3 := K10.out.head 3 rfl
  have kxg4 := K10.out.head 4 rfl
  have kxg5 := K10.out.head 5 rfl
  have kxg6 := K10.out.head 6 rfl
  have kxg7 := K10.out.head 7 rfl
  have kxg8 := K10.out.head 8 rfl
  have kxb0 := K10.out.tail.head 0 rfl
  have kxb1 := K10.out.tail.head 1 rfl
  have kxb2 := K10.out.tail.head 2 rfl
  have kxb3 := K10.out.tail.head 3 rfl
  have kxb4 := K10.out.tail.head 4 rfl
  have kxb5 := K10.out.tail.head 5 rfl
  have kxb6 := K10.out.tail.head 6 rfl
  have kxb7 := K10.out.tail.head 7 rfl
  have kxb8 := K10.out.tail.head 8 rfl
  have kxw0 := K10.out.tail.tail.head 0 rfl
  have kxw1 := K10.out.tail.tail.head 1 rfl
  have kxw2 := K10.out.tail.tail.head 2 rfl
  have kxw3 := K10.out.tail.tail.head 3 rfl
  have kxw4 := K10.out.tail.tail.head 4 rfl
  have kxw5 := K10.out.tail.tail.head 5 rfl
  have kxw6 := K10.out.tail.tail.head 6 rfl
  have kxw7 := K10.out.tail.tail.head 7 rfl
  have kxw8 := K10.out.tail.tail.head 8 rfl
  have kxa0 := K10.out.tail.tail.tail.head 0 rfl
  have kxa1 := K10.out.tail.tail.tail.head 1 rfl
  have kxa2 := K10.out.tail.tail.tail.head 2 rfl
  have kxa3 := K10.out.tail.tail.tail.head 3 rfl
  have kxa4 := K10.out.tail.tail.tail.head 4 rfl
  have kxa5 := K10.out.tail.tail.tail.head 5 rfl
  have kxa6 := K10.out.tail.tail.tail.head 6 rfl
  have kxa7 := K10.out.tail.tail.tail.head 7 rfl
  have kxa8 := K10.out.tail.tail.tail.head 8 rfl
  go_wp2_with fail
  refine (markFilt_calls x [.int .i64 b0, .int .i64 b1, .string b2, .int .i64 b3, .int .i64 b4, .string b5, .slice C6 m6 p6, .slice C7 m7 p7, .slice C8 m8 p8] 1 fx _ (by omega) (by omega) OX.out NX.out).mono ?_
  rintro e w9 ⟨rfl, hO, hu⟩
  clear hO OX
  have K11 := Lib.hid (K10.out.upd hu (by intro p hp hm; have h1 := LX.out _ hm; simp only [List.mem_cons, List.mem_nil_iff, or_false] at hp; rcases hp with rfl | rfl | rfl | rfl <;> (simp only [] at h1; omega)))
  have B11 := Lib.hid (B10.out.trans (hu.to_below (fun b hm => by have := LX.out b hm; omega) z10))
  have z11 := B11.out.size
  have y11 := hu.size
  have OW_ := Lib.hid (OW.out.upd hu (fun b hm hn => by have h1 := LW.out b hm; have h2 := LX.out b hn; omega))
  clear OW
  have OW := OW_
  clear OW_
  have OG_ := Lib.hid (OG.out.upd hu (fun b hm hn => by have h1 := LG.out b hm; have h2 := LX.out b hn; omega))
  clear OG
  have OG := OG_
  clear OG_
  clear hu kxg0 kxg1 kxg2 kxg3 kxg4 kxg5 kxg6 kxg7 kxg8 kxb0 kxb1 kxb2 kxb3 kxb4 kxb5 kxb6 kxb7 kxb8 kxw0 kxw1 kxw2 kxw3 kxw4 kxw5 kxw6 kxw7 kxw8 kxa0 kxa1 kxa2 kxa3 kxa4 kxa5 kxa6 kxa7 kxa8 K10 B10
  have kxg0 := K11.out.head 0 rfl
  have kxg1 := K11.out.head 1 rfl
  have kxg2 := K11.out.head 2 rfl
  have kxg3 := K11.out.head 3 rfl
  have kxg4 := K11.out.head 4 rfl
  have kxg5 := K11.out.head 5 rfl
  have kxg6 := K11.out.head 6 rfl
  have kxg7 := K11.out.head 7 rfl
  have kxg8 := K11.out.head 8 rfl
  have kxb0 := K11.out.tail.head 0 rfl
  have kxb1 := K11.out.tail.head 1 rfl
  have kxb2 := K11.out.tail.head 2 rfl
  have kxb3 := K11.out.tail.head 3 rfl
  have kxb4 := K11.out.tail.head 4 rfl
  have kxb5 := K11.out.tail.head 5 rfl
  have kxb6 := K11.out.tail.head 6 rfl
  have kxb7 := K11.out.tail.head 7 rfl
  have kxb8 := K11.out.tail.head 8 rfl
  have kxw0 := K11.out.tail.tail.head 0 rfl
  have kxw1 := K11.out.tail.tail.head 1 rfl
  have kxw2 := K11.out.tail.tail.head 2 rfl
  have kxw3 := K11.out.tail.tail.head 3 rfl
  have kxw4 := K11.out.tail.tail.head 4 rfl
  have kxw5 := K11.out.tail.tail.head 5 rfl
  have kxw6 := K11.out.tail.tail.head 6 rfl
  have kxw7 := K11.out.tail.tail.head 7 rfl
  have kxw8 := K11.out.tail.tail.head 8 rfl
  have kxa0 := K11.out.tail.tail.tail.head 0 rfl
  have kxa1 := K11.out.tail.tail.tail.head 1 rfl
  have kxa2 := K11.out.tail.tail.tail.head 2 rfl
  have kxa3 := K11.out.tail.tail.tail.head 3 rfl
  have kxa4 := K11.out.tail.tail.tail.head 4 rfl
  have kxa5 := K11.out.tail.tail.tail.head 5 rfl
  have kxa6 := K11.out.tail.tail.tail.head 6 rfl
  have kxa7 := K11.out.tail.tail.tail.head 7 rfl
  have kxa8 := K11.out.tail.tail.tail.head 8 rfl
  have n1 : ¬ (1 + (topF x : Int) < 0) := by omega
  go_wp2_with fail
  refine (eqFilt_calls y0 [.int .i64 g0, .int .i64 g1, .string g2, .int .i64 g3, .int .i64 g4, .string g5, .slice gA gB gC, .slice gD gE gG, .slice gH gI gJ] [.int .i64 p0, .int .i64 p1, .string p2, .int .i64 p3, .int .i64 p4, .string p5, .slice pA pB pC, .slice pD pE pG, .slice pH pI pJ] _ _ (Nat.le_refl _) OG.out.rd' OW.out.rd').mono ?_
  rintro e w10 ⟨rfl, hb⟩
  have K12 := Lib.hid (K11.out.below hb)
  have B12 := Lib.hid (B11.out.trans (hb.mono z11))
  have z12 := B12.out.size
  have y12 := hb.size
  have OW_ := Lib.hid (OW.out.below hb)
  clear OW
  have OW := OW_
  clear OW_
  have OG_ := Lib.hid (OG.out.below hb)
  clear OG
  have OG := OG_
  clear OG_
  clear hb kxg0 kxg1 kxg2 kxg3 kxg4 kxg5 kxg6 kxg7 kxg8 kxb0 kxb1 kxb2 kxb3 kxb4 kxb5 kxb6 kxb7 kxb8 kxw0 kxw1 kxw2 kxw3 kxw4 kxw5 kxw6 kxw7 kxw8 kxa0 kxa1 kxa2 kxa3 kxa4 kxa5 kxa6 kxa7 kxa8 K11 B11
  have kxg0 := K12.out.head 0 rfl
  have kxg1 := K12.out.head 1 rfl
  have kxg2 := K12.out.head 2 rfl
  have kxg3 := K12.out.head 3 rfl
  have kxg4 := K12.out.head 4 rfl
  have kxg5 := K12.out.head 5 rfl
  have kxg6 := K12.out.head 6 rfl
  have kxg7 := K12.out.head 7 rfl
  have kxg8 := K12.out.head 8 rfl
  have kxb0 := K12.out.tail.head 0 rfl
  have kxb1 := K12.out.tail.head 1 rfl
  have kxb2 := K12.out.tail.head 2 rfl
  have kxb3 := K12.out.tail.head 3 rfl
  have kxb4 := K12.out.tail.head 4 rfl
  have kxb5 := K12.out.tail.head 5 rfl
  have kxb6 := K12.out.tail.head 6 rfl
  have kxb7 := K12.out.tail.head 7 rfl
  have kxb8 := K12.out.tail.head 8 rfl
  have kxw0 := K12.out.tail.tail.head 0 rfl
  have kxw1 := K12.out.tail.tail.head 1 rfl
  have kxw2 := K12.out.tail.tail.head 2 rfl
  have kxw3 := K12.out.tail.tail.head 3 rfl
  have kxw4 := K12.out.tail.tail.head 4 rfl
  have kxw5 := K12.out.tail.tail.head 5 rfl
  have kxw6 := K12.out.tail.tail.head 6 rfl
  have kxw7 := K12.out.tail.tail.head 7 rfl
  have kxw8 := K12.out.tail.tail.head 8 rfl
  have kxa0 := K12.out.tail.tail.tail.head 0 rfl
  have kxa1 := K12.out.tail.tail.tail.head 1 rfl
  have kxa2 := K12.out.tail.tail.tail.head 2 rfl
  have kxa3 := K12.out.tail.tail.tail.head 3 rfl
  have kxa4 := K12.out.tail.tail.tail.head 4 rfl
  have kxa5 := K12.out.tail.tail.tail.head 5 rfl
  have kxa6 := K12.out.tail.tail.tail.head 6 rfl
  have kxa7 := K12.out.tail.tail.tail.head 7 rfl
  have kxa8 := K12.out.tail.tail.tail.head 8 rfl
  go_wp2_with fail
  refine (markFilt_calls y0 [.int .i64 g0, .int .i64 g1, .string g2, .int .i64 g3, .int .i64 g4, .string g5, .slice gA gB gC, .slice gD gE gG, .slice gH gI gJ] 1 fg _ (by omega) (by omega) OG.out NG.out).mono ?_
  rintro e w11 ⟨rfl, hO, hu⟩
  have OM := Lib.hid hO
  clear hO OG
  have K13 := Lib.hid (K12.out.upd hu (by intro p hp hm; have h1 := LG.out _ hm; simp only [List.mem_cons, List.mem_nil_iff, or_false] at hp; rcases hp with rfl | rfl | rfl | rfl <;> (simp only [] at h1; omega)))
  have B13 := Lib.hid (B12.out.trans (hu.to_below (fun b hm => by have := LG.out b hm; omega) z12))
  have z13 := B13.out.size
  have y13 := hu.size
  have OW_ := Lib.hid (OW.out.upd hu (fun b hm hn => by have h1 := LW.out b hm; have h2 := LG.out b hn; omega))
  clear OW
  have OW := OW_
  clear OW_
  clear hu kxg0 kxg1 kxg2 kxg3 kxg4 kxg5 kxg6 kxg7 kxg8 kxb0 kxb1 kxb2 kxb3 kxb4 kxb5 kxb6 kxb7 kxb8 kxw0 kxw1 kxw2 kxw3 kxw4 kxw5 kxw6 kxw7 kxw8 kxa0 kxa1 kxa2 kxa3 kxa4 kxa5 kxa6 kxa7 kxa8 K12 B12
  have kxg0 := K13.out.head 0 rfl
  have kxg1 := K13.out.head 1 rfl
  have kxg2 := K13.out.head 2 rfl
  have kxg3 := K13.out.head 3 rfl
  have kxg4 := K13.out.head 4 rfl
  have kxg5 := K13.out.head 5 rfl
  have kxg6 := K13.out.head 6 rfl
  have kxg7 := K13.out.head 7 rfl
  have kxg8 := K13.out.head 8 rfl
  have kxb0 := K13.out.tail.head 0 rfl
  have kxb1 := K13.out.tail.head 1 rfl
  have kxb2 := K13.out.tail.head 2 rfl
  have kxb3 := K13.out.tail.head 3 rfl
  have kxb4 := K13.out.tail.head 4 rfl
  have kxb5 := K13.out.tail.head 5 rfl
  have kxb6 := K13.out.tail.head 6 rfl
  have kxb7 := K13.out.tail.head 7 rfl
  have kxb8 := K13.out.tail.head 8 rfl
  have kxw0 := K13.out.tail.tail.head 0 rfl
  have kxw1 := K13.out.tail.tail.head 1 rfl
  have kxw2 := K13.out.tail.tail.head 2 rfl
  have kxw3 := K13.out.tail.tail.head 3 rfl
  have kxw4 := K13.out.tail.tail.head 4 rfl
  have kxw5 := K13.out.tail.tail.head 5 rfl
  have kxw6 := K13.out.tail.tail.head 6 rfl
  have kxw7 := K13.out.tail.tail.head 7 rfl
  have kxw8 := K13.out.tail.tail.head 8 rfl
  have kxa0 := K13.out.tail.tail.tail.head 0 rfl
  have kxa1 := K13.out.tail.tail.tail.head 1 rfl
  have kxa2 := K13.out.tail.tail.tail.head 2 rfl
  have kxa3 := K13.out.tail.tail.tail.head 3 rfl
  have kxa4 := K13.out.tail.tail.tail.head 4 rfl
  have kxa5 := K13.out.tail.tail.tail.head 5 rfl
  have kxa6 := K13.out.tail.tail.tail.head 6 rfl
  have kxa7 := K13.out.tail.tail.tail.head 7 rfl
  have kxa8 := K13.out.tail.tail.tail.head 8 rfl
  have n2 : ¬ (1 + (topF y0 : Int) < 0) := by omega
  have n3 : ((1 + (topF y0 : Int)) != 1 + (topF y0 : Int)) = false := by simp
  go_wp2_with fail
  refine (heldFilt_calls y0 [.int .i64 g0, .int .i64 g1, .string g2, .int .i64 g3, .int .i64 g4, .string g5, .slice gA gB gC, .slice gD gE gG, .slice gH gI gJ] 1 _ _ (Nat.le_refl _) (by omega) (by omega) OM.out.rd').mono ?_
  rintro e w12 ⟨rfl, hb⟩
  have K14 := Lib.hid (K13.out.below hb)
  have B14 := Lib.hid (B13.out.trans (hb.mono z13))
  have z14 := B14.out.size
  have y14 := hb.size
  have OW_ := Lib.hid (OW.out.below hb)
  clear OW
  have OW := OW_
  clear OW_
  have OM_ := Lib.hid (OM.out.below hb)
  clear OM
  have OM := OM_
  clear OM_
  clear hb kxg0 kxg1 kxg2 kxg3 kxg4 kxg5 kxg6 kxg7 kxg8 kxb0 kxb1 kxb2 kxb3 kxb4 kxb5 kxb6 kxb7 kxb8 kxw0 kxw1 kxw2 kxw3 kxw4 kxw5 kxw6 kxw7 kxw8 kxa0 kxa1 kxa2 kxa3 kxa4 kxa5 kxa6 kxa7 kxa8 K13 B13
  have kxg0 := K14.out.head 0 rfl
  have kxg1 := K14.out.head 1 rfl
  have kxg2 := K14.out.head 2 rfl
  have kxg3 := K14.out.head 3 rfl
  have kxg4 := K14.out.head 4 rfl
  have kxg5 := K14.out.head 5 rfl
  have kxg6 := K14.out.head 6 rfl
  have kxg7 := K14.out.head 7 rfl
  have kxg8 := K14.out.head 8 rfl
  have kxb0 := K14.out.tail.head 0 rfl
  have kxb1 := K14.out.tail.head 1 rfl
  have kxb2 := K14.out.tail.head 2 rfl
  have kxb3 := K14.out.tail.head 3 rfl
  have kxb4 := K14.out.tail.head 4 rfl
  have kxb5 := K14.out.tail.head 5 rfl
  have kxb6 := K14.out.tail.head 6 rfl
  have kxb7 := K14.out.tail.head 7 rfl
  have kxb8 := K14.out.tail.head 8 rfl
  have kxw0 := K14.out.tail.tail.head 0 rfl
  have kxw1 := K14.out.tail.tail.head 1 rfl
  have kxw2 := K14.out.tail.tail.head 2 rfl
  have kxw3 := K14.out.tail.tail.head 3 rfl
  have kxw4 := K14.out.tail.tail.head 4 rfl
  have kxw5 := K14.out.tail.tail.head 5 rfl
  have kxw6 := K14.out.tail.tail.head 6 rfl
  have kxw7 := K14.out.tail.tail.head 7 rfl
  have kxw8 := K14.out.tail.tail.head 8 rfl
  have kxa0 := K14.out.tail.tail.tail.head 0 rfl
  have kxa1 := K14.out.tail.tail.tail.head 1 rfl
  have kxa2 := K14.out.tail.tail.tail.head 2 rfl
  have kxa3 := K14.out.tail.tail.tail.head 3 rfl
  have kxa4 := K14.out.tail.tail.tail.head 4 rfl
  have kxa5 := K14.out.tail.tail.tail.head 5 rfl
  have kxa6 := K14.out.tail.tail.tail.head 6 rfl
  have kxa7 := K14.out.tail.tail.tail.head 7 rfl
  have kxa8 := K14.out.tail.tail.tail.head 8 rfl
  go_wp2_with fail
  refine (toFilt_calls x [.int .i64 a0, .int .i64 a1, .string a2, .int .i64 a3, .int .i64 a4, .string a5, .slice A6 n6 q6, .slice A7 n7 q7, .slice A8 n8 q8] _ B (Nat.le_trans hB z14) (HX.out.below (B14.out.mono hB)) SX.out).mono ?_
  rintro e w13 ⟨q13, f13, rfl, hO, hF, hb⟩
  have RA := Lib.hid hO
  obtain ⟨u0, u1, u2, u3, u4, u5, uA, uB, uC, uD, uE, uG, uH, uI, uJ, rfl⟩ := filtDs_shape hO.rd'
  clear hO hF
  have K15 := Lib.hid (K14.out.below hb)
  have B15 := Lib.hid (B14.out.trans (hb.mono z14))
  have z15 := B15.out.size
  have y15 := hb.size
  have OW_ := Lib.hid (OW.out.below hb)
  clear OW
  have OW := OW_
  clear OW_
  have OM_ := Lib.hid (OM.out.below hb)
  clear OM
  have OM := OM_
  clear OM_
  clear hb kxg0 kxg1 kxg2 kxg3 kxg4 kxg5 kxg6 kxg7 kxg8 kxb0 kxb1 kxb2 kxb3 kxb4 kxb5 kxb6 kxb7 kxb8 kxw0 kxw1 kxw2 kxw3 kxw4 kxw5 kxw6 kxw7 kxw8 kxa0 kxa1 kxa2 kxa3 kxa4 kxa5 kxa6 kxa7 kxa8 K14 B14
  have kxg0 := K15.out.head 0 rfl
  have kxg1 := K15.out.head 1 rfl
  have kxg2 := K15.out.head 2 rfl
  have kxg3 := K15.out.head 3 rfl
  have kxg4 := K15.out.head 4 rfl
  have kxg5 := K15.out.head 5 rfl
  have kxg6 := K15.out.head 6 rfl
  have kxg7 := K15.out.head 7 rfl
  have kxg8 := K15.out.head 8 rfl
  have kxb0 := K15.out.tail.head 0 rfl
  have kxb1 := K15.out.tail.head 1 rfl
  have kxb2 := K15.out.tail.head 2 rfl
  have kxb3 := K15.out.tail.head 3 rfl
  have kxb4 := K15.out.tail.head 4 rfl
  have kxb5 := K15.out.tail.head 5 rfl
  have kxb6 := K15.out.tail.head 6 rfl
  have kxb7 := K15.out.tail.head 7 rfl
  have kxb8 := K15.out.tail.head 8 rfl
  have kxw0 := K15.out.tail.tail.head 0 rfl
  have kxw1 := K15.out.tail.tail.head 1 rfl
  have kxw2 := K15.out.tail.tail.head 2 rfl
  have kxw3 := K15.out.tail.tail.head 3 rfl
  have kxw4 := K15.out.tail.tail.head 4 rfl
  have kxw5 := K15.out.tail.tail.head 5 rfl
  have kxw6 := K15.out.tail.tail.head 6 rfl
  have kxw7 := K15.out.tail.tail.head 7 rfl
  have kxw8 := K15.out.tail.tail.head 8 rfl
  have kxa0 := K15.out.tail.tail.tail.head 0 rfl
  have kxa1 := K15.out.tail.tail.tail.head 1 rfl
  have kxa2 := K15.out.tail.tail.tail.head 2 rfl
  have kxa3 := K15.out.tail.tail.tail.head 3 rfl
  have kxa4 := K15.out.tail.tail.tail.head 4 rfl
  have kxa5 := K15.out.tail.tail.tail.head 5 rfl
  have kxa6 := K15.out.tail.tail.tail.head 6 rfl
  have kxa7 := K15.out.tail.tail.tail.head 7 rfl
  have kxa8 := K15.out.tail.tail.tail.head 8 rfl
  go_wp2_with fail
  refine (iSlim_calls x [_, _, _, _, _, _, _, _, _] _ _ (Nat.le_refl _) RA.out.rd' (tab_upto (HT.out.below (B15.out.mono hB)) (Nat.le_trans hB z15))).mono ?_
  rintro e w14 ⟨y1, vh, fh, rfl, hg, hO, hF, hb⟩
  obtain rfl := RS.out.det hg.out
  obtain ⟨h0, h1, h2, h3, h4, h5, hA, hB, hC, hD, hE, hG, hH, hI, hJ, rfl⟩ := filtDs_shape hO.out.rd'
  have OH := Lib.hid hO.out
  have hb14 := hb.out
  clear hg hO hF RA hb
  have K16 := Lib.hid (K15.out.below hb14)
  have B16 := Lib.hid (B15.out.trans (hb14.mono z15))
  have z16 := B16.out.size
  have y16 := hb14.size
  have OW_ := Lib.hid (OW.out.below hb14)
  clear OW
  have OW := OW_
  clear OW_
  have OM_ := Lib.hid (OM.out.below hb14)
  clear OM
  have OM := OM_
  clear OM_
  clear hb14 kxg0 kxg1 kxg2 kxg3 kxg4 kxg5 kxg6 kxg7 kxg8 kxb0 kxb1 kxb2 kxb3 kxb4 kxb5 kxb6 kxb7 kxb8 kxw0 kxw1 kxw2 kxw3 kxw4 kxw5 kxw6 kxw7 kxw8 kxa0 kxa1 kxa2 kxa3 kxa4 kxa5 kxa6 kxa7 kxa8 K15 B15
  have kxg0 := K16.out.head 0 rfl
  have kxg1 := K16.out.head 1 rfl
  have kxg2 := K16.out.head 2 rfl
  have kxg3 := K16.out.head 3 rfl
  have kxg4 := K16.out.head 4 rfl
  have kxg5 := K16.out.head 5 rfl
  have kxg6 := K16.out.head 6 rfl
  have kxg7 := K16.out.head 7 rfl
  have kxg8 := K16.out.head 8 rfl
  have kxb0 := K16.out.tail.head 0 rfl
  have kxb1 := K16.out.tail.head 1 rfl
  have kxb2 := K16.out.tail.head 2 rfl
  have kxb3 := K16.out.tail.head 3 rfl
  have kxb4 := K16.out.tail.head 4 rfl
  have kxb5 := K16.out.tail.head 5 rfl
  have kxb6 := K16.out.tail.head 6 rfl
  have kxb7 := K16.out.tail.head 7 rfl
  have kxb8 := K16.out.tail.head 8 rfl
  have kxw0 := K16.out.tail.tail.head 0 rfl
  have kxw1 := K16.out.tail.tail.head 1 rfl
  have kxw2 := K16.out.tail.tail.head 2 rfl
  have kxw3 := K16.out.tail.tail.head 3 rfl
  have kxw4 := K16.out.tail.tail.head 4 rfl
  have kxw5 := K16.out.tail.tail.head 5 rfl
  have kxw6 := K16.out.tail.tail.head 6 rfl
  have kxw7 := K16.out.tail.tail.head 7 rfl
  have kxw8 := K16.out.tail.tail.head 8 rfl
  have kxa0 := K16.out.tail.tail.tail.head 0 rfl
  have kxa1 := K16.out.tail.tail.tail.head 1 rfl
  have kxa2 := K16.out.tail.tail.tail.head 2 rfl
  have kxa3 := K16.out.tail.tail.tail.head 3 rfl
  have kxa4 := K16.out.tail.tail.tail.head 4 rfl
  have kxa5 := K16.out.tail.tail.tail.head 5 rfl
  have kxa6 := K16.out.tail.tail.tail.head 6 rfl
  have kxa7 := K16.out.tail.tail.tail.head 7 rfl
  have kxa8 := K16.out.tail.tail.tail.head 8 rfl
  have X17 := below_box w14 (.cells #[.int .i64 h0, .int .i64 h1, .string h2, .int .i64 h3, .int .i64 h4, .string h5, .slice hA hB hC, .slice hD hE hG, .slice hH hI hJ] 35)
  have K17 := Lib.hid (K16.out.alloc [.int .i64 h0, .int .i64 h1, .string h2, .int .i64 h3, .int .i64 h4, .string h5, .slice hA hB hC, .slice hD hE hG, .slice hH hI hJ] 35)
  have B17 := Lib.hid (B16.out.trans (X17.mono z16))
  have z17 := B17.out.size
  have y17 : (w14.alloc (.cells #[.int .i64 h0, .int .i64 h1, .string h2, .int .i64 h3, .int .i64 h4, .string h5, .slice hA hB hC, .slice hD hE hG, .slice hH hI hJ] 35)).heap.size = w14.heap.size + 1 := by simp
  have Y17 := Lib.hid y17
  have OW_ := Lib.hid (OW.out.below X17)
  clear OW
  have OW := OW_
  clear OW_
  have OM_ := Lib.hid (OM.out.below X17)
  clear OM
  have OM := OM_
  clear OM_
  have OH_ := Lib.hid (OH.out.below X17)
  clear OH
  have OH := OH_
  clear OH_
  clear y17 X17 kxg0 kxg1 kxg2 kxg3 kxg4 kxg5 kxg6 kxg7 kxg8 kxb0 kxb1 kxb2 kxb3 kxb4 kxb5 kxb6 kxb7 kxb8 kxw0 kxw1 kxw2 kxw3 kxw4 kxw5 kxw6 kxw7 kxw8 kxa0 kxa1 kxa2 kxa3 kxa4 kxa5 kxa6 kxa7 kxa8 K16 B16
  have kxh0 := K17.out.head 0 rfl
  have kxh1 := K17.out.head 1 rfl
  have kxh2 := K17.out.head 2 rfl
  have kxh3 := K17.out.head 3 rfl
  have kxh4 := K17.out.head 4 rfl
  have kxh5 := K17.out.head 5 rfl
  have kxh6 := K17.out.head 6 rfl
  have kxh7 := K17.out.head 7 rfl
  have kxh8 := K17.out.head 8 rfl
  have kxg0 := K17.out.tail.head 0 rfl
  have kxg1 := K17.out.tail.head 1 rfl
  have kxg2 := K17.out.tail.head 2 rfl
  have kxg3 := K17.out.tail.head 3 rfl
  have kxg4 := K17.out.tail.head 4 rfl
  have kxg5 := K17.out.tail.head 5 rfl
  have kxg6 := K17.out.tail.head 6 rfl
  have kxg7 := K17.out.tail.head 7 rfl
  have kxg8 := K17.out.tail.head 8 rfl
  have kxb0 := K17.out.tail.tail.head 0 rfl
  have kxb1 := K17.out.tail.tail.head 1 rfl
  have kxb2 := K17.out.tail.tail.head 2 rfl
  have kxb3 := K17.out.tail.tail.head 3 rfl
  have kxb4 := K17.out.tail.tail.head 4 rfl
  have kxb5 := K17.out.tail.tail.head 5 rfl
  have kxb6 := K17.out.tail.tail.head 6 rfl
  have kxb7 := K17.out.tail.tail.head 7 rfl
  have kxb8 := K17.out.tail.tail.head 8 rfl
  have kxw0 := K17.out.tail.tail.tail.head 0 rfl
  have kxw1 := K17.out.tail.tail.tail.head 1 rfl
  have kxw2 := K17.out.tail.tail.tail.head 2 rfl
  have kxw3 := K17.out.tail.tail.tail.head 3 rfl
  have kxw4 := K17.out.tail.tail.tail.head 4 rfl
  have kxw5 := K17.out.tail.tail.tail.head 5 rfl
  have kxw6 := K17.out.tail.tail.tail.head 6 rfl
  have kxw7 := K17.out.tail.tail.tail.head 7 rfl
  have kxw8 := K17.out.tail.tail.tail.head 8 rfl
  have kxa0 := K17.out.tail.tail.tail.tail.head 0 rfl
  have kxa1 := K17.out.tail.tail.tail.tail.head 1 rfl
  have kxa2 := K17.out.tail.tail.tail.tail.head 2 rfl
  have kxa3 := K17.out.tail.tail.tail.tail.head 3 rfl
  have kxa4 := K17.out.tail.tail.tail.tail.head 4 rfl
  have kxa5 := K17.out.tail.tail.tail.tail.head 5 rfl
  have kxa6 := K17.out.tail.tail.tail.tail.head 6 rfl
  have kxa7 := K17.out.tail.tail.tail.tail.head 7 rfl
  have kxa8 := K17.out.tail.tail.tail.tail.head 8 rfl
  go_wp2_with fail
  refine (eqFilt_calls y0 [.int .i64 h0, .int .i64 h1, .string h2, .int .i64 h3, .int .i64 h4, .string h5, .slice hA hB hC, .slice hD hE hG, .slice hH hI hJ] [.int .i64 p0, .int .i64 p1, .string p2, .int .i64 p3, .int .i64 p4, .string p5, .slice pA pB pC, .slice pD pE pG, .slice pH pI pJ] _ _ (Nat.le_refl _) OH.out.rd' OW.out.rd').mono ?_
  rintro e w15 ⟨rfl, hb⟩
  have K18 := Lib.hid (K17.out.below hb)
  have B18 := Lib.hid (B17.out.trans (hb.mono z17))
  have z18 := B18.out.size
  have y18 := hb.size
  have OW_ := Lib.hid (OW.out.below hb)
  clear OW
  have OW := OW_
  clear OW_
  have OM_ := Lib.hid (OM.out.below hb)
  clear OM
  have OM := OM_
  clear OM_
  have OH_ := Lib.hid (OH.out.below hb)
  clear OH
  have OH := OH_
  clear OH_
  clear hb kxh0 kxh1 kxh2 kxh3 kxh4 kxh5 kxh6 kxh7 kxh8 kxg0 kxg1 kxg2 kxg3 kxg4 kxg5 kxg6 kxg7 kxg8 kxb0 kxb1 kxb2 kxb3 kxb4 kxb5 kxb6 kxb7 kxb8 kxw0 kxw1 kxw2 kxw3 kxw4 kxw5 kxw6 kxw7 kxw8 kxa0 kxa1 kxa2 kxa3 kxa4 kxa5 kxa6 kxa7 kxa8 K17 B17
  rw [Y17.out] at y18
  have kxh0 := K18.out.head 0 rfl
  have kxh1 := K18.out.head 1 rfl
  have kxh2 := K18.out.head 2 rfl
  have kxh3 := K18.out.head 3 rfl
  have kxh4 := K18.out.head 4 rfl
  have kxh5 := K18.out.head 5 rfl
  have kxh6 := K18.out.head 6 rfl
  have kxh7 := K18.out.head 7 rfl
  have kxh8 := K18.out.head 8 rfl
  have kxg0 := K18.out.tail.head 0 rfl
  have kxg1 := K18.out.tail.head 1 rfl
  have kxg2 := K18.out.tail.head 2 rfl
  have kxg3 := K18.out.tail.head 3 rfl
  have kxg4 := K18.out.tail.head 4 rfl
  have kxg5 := K18.out.tail.head 5 rfl
  have kxg6 := K18.out.tail.head 6 rfl
  have kxg7 := K18.out.tail.head 7 rfl
  have kxg8 := K18.out.tail.head 8 rfl
  have kxb0 := K18.out.tail.tail.head 0 rfl
  have kxb1 := K18.out.tail.tail.head 1 rfl
  have kxb2 := K18.out.tail.tail.head 2 rfl
  have kxb3 := K18.out.tail.tail.head 3 rfl
  have kxb4 := K18.out.tail.tail.head 4 rfl
  have kxb5 := K18.out.tail.tail.head 5 rfl
  have kxb6 := K18.out.tail.tail.head 6 rfl
  have kxb7 := K18.out.tail.tail.head 7 rfl
  have kxb8 := K18.out.tail.tail.head 8 rfl
  have kxw0 := K18.out.tail.tail.tail.head 0 rfl
  have kxw1 := K18.out.tail.tail.tail.head 1 rfl
  have kxw2 := K18.out.tail.tail.tail.head 2 rfl
  have kxw3 := K18.out.tail.tail.tail.head 3 rfl
  have kxw4 := K18.out.tail.tail.tail.head 4 rfl
  have kxw5 := K18.out.tail.tail.tail.head 5 rfl
  have kxw6 := K18.out.tail.tail.tail.head 6 rfl
  have kxw7 := K18.out.tail.tail.tail.head 7 rfl
  have kxw8 := K18.out.tail.tail.tail.head 8 rfl
  have kxa0 := K18.out.tail.tail.tail.tail.head 0 rfl
  have kxa1 := K18.out.tail.tail.tail.tail.head 1 rfl
  have kxa2 := K18.out.tail.tail.tail.tail.head 2 rfl
  have kxa3 := K18.out.tail.tail.tail.tail.head 3 rfl
  have kxa4 := K18.out.tail.tail.tail.tail.head 4 rfl
  have kxa5 := K18.out.tail.tail.tail.tail.head 5 rfl
  have kxa6 := K18.out.tail.tail.tail.tail.head 6 rfl
  have kxa7 := K18.out.tail.tail.tail.tail.head 7 rfl
  have kxa8 := K18.out.tail.tail.tail.tail.head 8 rfl
  go_wp2_with fail
  refine (heldFilt_calls y0 [.int .i64 g0, .int .i64 g1, .string g2, .int .i64 g3, .int .i64 g4, .string g5, .slice gA gB gC, .slice gD gE gG, .slice gH gI gJ] 1 _ _ (Nat.le_refl _) (by omega) (by omega) OM.out.rd').mono ?_
  rintro e w16 ⟨rfl, hb⟩
  have K19 := Lib.hid (K18.out.below hb)
  have B19 := Lib.hid (B18.out.trans (hb.mono z18))
  have z19 := B19.out.size
  have y19 := hb.size
  have OW_ := Lib.hid (OW.out.below hb)
  clear OW
  have OW := OW_
  clear OW_
  have OM_ := Lib.hid (OM.out.below hb)
  clear OM
  have OM := OM_
  clear OM_
  have OH_ := Lib.hid (OH.out.below hb)
  clear OH
  have OH := OH_
  clear OH_
  clear hb kxh0 kxh1 kxh2 kxh3 kxh4 kxh5 kxh6 kxh7 kxh8 kxg0 kxg1 kxg2 kxg3 kxg4 kxg5 kxg6 kxg7 kxg8 kxb0 kxb1 kxb2 kxb3 kxb4 kxb5 kxb6 kxb7 kxb8 kxw0 kxw1 kxw2 kxw3 kxw4 kxw5 kxw6 kxw7 kxw8 kxa0 kxa1 kxa2 kxa3 kxa4 kxa5 kxa6 kxa7 kxa8 K18 B18
  have kxh0 := K19.out.head 0 rfl
  have kxh1 := K19.out.head 1 rfl
  have kxh2 := K19.out.head 2 rfl
  have kxh3 := K19.out.head 3 rfl
  have kxh4 := K19.out.head 4 rfl
  have kxh5 := K19.out.head 5 rfl
  have kxh6 := K19.out.head 6 rfl
  have kxh7 := K19.out.head 7 rfl
  have kxh8 := K19.out.head 8 rfl
  have kxg0 := K19.out.tail.head 0 rfl
  have kxg1 := K19.out.tail.head 1 rfl
  have kxg2 := K19.out.tail.head 2 rfl
  have kxg3 := K19.out.tail.head 3 rfl
  have kxg4 := K19.out.tail.head 4 rfl
  have kxg5 := K19.out.tail.head 5 rfl
  have kxg6 := K19.out.tail.head 6 rfl
  have kxg7 := K19.out.tail.head 7 rfl
  have kxg8 := K19.out.tail.head 8 rfl
  have kxb0 := K19.out.tail.tail.head 0 rfl
  have kxb1 := K19.out.tail.tail.head 1 rfl
  have kxb2 := K19.out.tail.tail.head 2 rfl
  have kxb3 := K19.out.tail.tail.head 3 rfl
  have kxb4 := K19.out.tail.tail.head 4 rfl
  have kxb5 := K19.out.tail.tail.head 5 rfl
  have kxb6 := K19.out.tail.tail.head 6 rfl
  have kxb7 := K19.out.tail.tail.head 7 rfl
  have kxb8 := K19.out.tail.tail.head 8 rfl
  have kxw0 := K19.out.tail.tail.tail.head 0 rfl
  have kxw1 := K19.out.tail.tail.tail.head 1 rfl
  have kxw2 := K19.out.tail.tail.tail.head 2 rfl
  have kxw3 := K19.out.tail.tail.tail.head 3 rfl
  have kxw4 := K19.out.tail.tail.tail.head 4 rfl
  have kxw5 := K19.out.tail.tail.tail.head 5 rfl
  have kxw6 := K19.out.tail.tail.tail.head 6 rfl
  have kxw7 := K19.out.tail.tail.tail.head 7 rfl
  have kxw8 := K19.out.tail.tail.tail.head 8 rfl
  have kxa0 := K19.out.tail.tail.tail.tail.head 0 rfl
  have kxa1 := K19.out.tail.tail.tail.tail.head 1 rfl
  have kxa2 := K19.out.tail.tail.tail.tail.head 2 rfl
  have kxa3 := K19.out.tail.tail.tail.tail.head 3 rfl
  have kxa4 := K19.out.tail.tail.tail.tail.head 4 rfl
  have kxa5 := K19.out.tail.tail.tail.tail.head 5 rfl
  have kxa6 := K19.out.tail.tail.tail.tail.head 6 rfl
  have kxa7 := K19.out.tail.tail.tail.tail.head 7 rfl
  have kxa8 := K19.out.tail.tail.tail.tail.head 8 rfl
  have BE := Lib.hid B19.out
  clear kxh0 kxh1 kxh2 kxh3 kxh4 kxh5 kxh6 kxh7 kxh8 kxg0 kxg1 kxg2 kxg3 kxg4 kxg5 kxg6 kxg7 kxg8 kxb0 kxb1 kxb2 kxb3 kxb4 kxb5 kxb6 kxb7 kxb8 kxw0 kxw1 kxw2 kxw3 kxw4 kxw5 kxw6 kxw7 kxw8 kxa0 kxa1 kxa2 kxa3 kxa4 kxa5 kxa6 kxa7 kxa8 OW OM OH
  go_wp2
  go_ret
  exact PBool.yes trivial BE.out
end Go.Proofs.YtppfgepoegicgaaGreatDoor
