/- The law FnExactSlimKeys walked: it returns true. -/
import Derived.Test.YtppfgepoegicgaaDoorZKeysTop
import Derived.Test.YtppfgepoegicgaaDoorZKeysTopS
import Derived.Test.YtppfgepoegicgaaDoorZFiltTo
import Derived.Test.YtppfgepoegicgaaDoorZFiltEq
import Derived.Test.YtppfgepoegicgaaDoorZMarkFTop
import Derived.Test.YtppfgepoegicgaaDoorZHeldS
import Derived.Test.YtppfgepoegicgaaDoorZLawKitB
import Derived.Deep.DrawnRows
import Derived.Deep.RegionHeld3
namespace Go.Proofs.YtppfgepoegicgaaDoor
open Go Go.RowKit

theorem tab_upto {w : World} {B B' : Nat} (h : Tab w B) (hB : B ≤ B') : Tab w B' := by
  obtain ⟨h0, tb, c, h1, h2, h3⟩ := h
  exact ⟨by omega, tb, c, h1, by omega, h3⟩
theorem keyed_few {x : Filt} {r : List ByteArray} (h : Keyed x r) : r.length ≤ 16 := by
  by_cases hf : FOk x
  · rw [h.1 hf]
    have h1 := insAll_len (fks x) []
    have h2 := fks_le x
    have h3 := hf.2
    simp only [List.length_nil] at h1
    omega
  · rw [h.2 hf]
    simp

set_option maxRecDepth 100000 in
set_option maxHeartbeats 8000000 in
theorem lawSlimKeys (x : Filt) (ux : List Value) (w : World) (B : Nat) (hB : B ≤ w.heap.size) (hx : RDv w B (filtDs x) ux) (hT : Tab w B) :
    Calls Tryd.prog 5 #[.agg ux.toArray] w (PBool True w) := by
  obtain ⟨a0, a1, a2, a3, a4, a5, A6, n6, q6, A7, n7, q7, A8, n8, q8, rfl⟩ := filtDs_shape hx
  have HX := Lib.hid hx
  have HT := Lib.hid hT
  clear hx hT
  obtain ⟨l1, e1⟩ : ∃ l, l = szDs (filtDs x) 1048576 := ⟨_, rfl⟩
  have E1 := Lib.hid e1
  have r1 := szDs_range (filtDs x) 1048576 (by omega)
  rw [← e1] at r1
  clear e1
  have hbx := fun o1 => below_box w o1
  by_cases t1 : l1 < 0
  · go_enter Tryd.func5, Tryd.ntmps5
    go_wp2_with fail
    refine (szFilt_calls x [_, _, _, _, _, _, _, _, _] _ _ B (Nat.le_trans hB (hbx _).size) (HX.out.below ((hbx _).mono hB)) (by omega) (by omega)).mono ?_
    rintro e w1 ⟨rfl, hb1⟩
    rw [← E1.out]
    obtain ⟨hb, hz, bP⟩ := boxes1 (P := [.int .i64 a0, .int .i64 a1, .string a2, .int .i64 a3, .int .i64 a4, .string a5, .slice A6 n6 q6, .slice A7 n7 q7, .slice A8 n8 q8]) (boxes1_of hb1)
    clear hb1 bP
    go_wp2
    go_ret
    exact PBool.yes trivial hb
  have SX := Lib.hid (smalls_of_sz (filtDs x) 1048576 (by omega) (by omega) (by rw [← E1.out]; omega))
  have CX := Lib.hid (fcnt_of_sz x 1048576 (by omega) (by omega) (by rw [← E1.out]; omega))
  have FX := filt_few x (l := 1048576) (by omega) (by omega) (by rw [← E1.out]; omega)
  have FT := topF_le x
  have hcnt : filtCnt x ≤ 1099511627776 := by
    have h1 := CX.out.1
    rw [← E1.out] at h1
    omega
  go_enter Tryd.func5, Tryd.ntmps5
  go_wp2_with fail
  refine (szFilt_calls x [_, _, _, _, _, _, _, _, _] _ _ B (Nat.le_trans hB (hbx _).size) (HX.out.below ((hbx _).mono hB)) (by omega) (by omega)).mono ?_
  rintro e w1 ⟨rfl, hb1⟩
  rw [← E1.out]
  obtain ⟨hb, hz, bP⟩ := boxes1 (P := [.int .i64 a0, .int .i64 a1, .string a2, .int .i64 a3, .int .i64 a4, .string a5, .slice A6 n6 q6, .slice A7 n7 q7, .slice A8 n8 q8]) (boxes1_of hb1)
  have K1 := Lib.hid (show Has [(w.heap.size, [.int .i64 a0, .int .i64 a1, .string a2, .int .i64 a3, .int .i64 a4, .string a5, .slice A6 n6 q6, .slice A7 n7 q7, .slice A8 n8 q8])] w1 from Has.cons (by omega) (fun i u hu => (bP.cell i).trans hu) (Has.nil _))
  have B1 := Lib.hid (show Below w.heap.size w w1 from hb)
  have z1 := B1.out.size
  have kxa0 := K1.out.head 0 rfl
  have kxa1 := K1.out.head 1 rfl
  have kxa2 := K1.out.head 2 rfl
  have kxa3 := K1.out.head 3 rfl
  have kxa4 := K1.out.head 4 rfl
  have kxa5 := K1.out.head 5 rfl
  have kxa6 := K1.out.head 6 rfl
  have kxa7 := K1.out.head 7 rfl
  have kxa8 := K1.out.head 8 rfl
  clear hb1 bP hbx hb
  go_wp2_with fail
  refine (toFilt_calls x [.int .i64 a0, .int .i64 a1, .string a2, .int .i64 a3, .int .i64 a4, .string a5, .slice A6 n6 q6, .slice A7 n7 q7, .slice A8 n8 q8] _ B (Nat.le_trans hB z1) (HX.out.below (B1.out.mono hB)) SX.out).mono ?_
  rintro e w2 ⟨q1, f1, rfl, hO, hF, hb⟩
  have RA := Lib.hid hO
  clear hO hF
  have K2 := Lib.hid (K1.out.below hb)
  have B2 := Lib.hid (B1.out.trans (hb.mono z1))
  have z2 := B2.out.size
  have y2 := hb.size
  clear hb kxa0 kxa1 kxa2 kxa3 kxa4 kxa5 kxa6 kxa7 kxa8 K1 B1
  have kxa0 := K2.out.head 0 rfl
  have kxa1 := K2.out.head 1 rfl
  have kxa2 := K2.out.head 2 rfl
  have kxa3 := K2.out.head 3 rfl
  have kxa4 := K2.out.head 4 rfl
  have kxa5 := K2.out.head 5 rfl
  have kxa6 := K2.out.head 6 rfl
  have kxa7 := K2.out.head 7 rfl
  have kxa8 := K2.out.head 8 rfl
  go_wp2_with fail
  refine (sSlimKeys_calls x _ w2 w2.heap.size (Nat.le_refl _) RA.out.rd' CX.out.2 hcnt).mono ?_
  rintro e w3 ⟨wA, wc, r0, fw, rfl, RS, hO, hF, hb⟩
  have OW := Lib.hid hO.out
  have LW := Lib.hid hF.out.2
  have few := keyed_few RS.out
  have hb3 := hb.out
  clear hO hF RA hb
  have K3 := Lib.hid (K2.out.below hb3)
  have B3 := Lib.hid (B2.out.trans (hb3.mono z2))
  have z3 := B3.out.size
  have y3 := hb3.size
  clear hb3 kxa0 kxa1 kxa2 kxa3 kxa4 kxa5 kxa6 kxa7 kxa8 K2 B2
  have kxa0 := K3.out.head 0 rfl
  have kxa1 := K3.out.head 1 rfl
  have kxa2 := K3.out.head 2 rfl
  have kxa3 := K3.out.head 3 rfl
  have kxa4 := K3.out.head 4 rfl
  have kxa5 := K3.out.head 5 rfl
  have kxa6 := K3.out.head 6 rfl
  have kxa7 := K3.out.head 7 rfl
  have kxa8 := K3.out.head 8 rfl
  go_wp2_with fail
  refine (toFilt_calls x [.int .i64 a0, .int .i64 a1, .string a2, .int .i64 a3, .int .i64 a4, .string a5, .slice A6 n6 q6, .slice A7 n7 q7, .slice A8 n8 q8] _ B (Nat.le_trans hB z3) (HX.out.below (B3.out.mono hB)) SX.out).mono ?_
  rintro e w4 ⟨qx, fx, rfl, hO, hF, hb⟩
  obtain ⟨b0, b1, b2, b3, b4, b5, C6, m6, p6, C7, m7, p7, C8, m8, p8, rfl⟩ := filtDs_shape hO.rd'
  have OX := Lib.hid hO
  have LX := Lib.hid hF.2
  have NX := Lib.hid hF.1
  clear hO hF
  have K4 := Lib.hid (K3.out.below hb)
  have B4 := Lib.hid (B3.out.trans (hb.mono z3))
  have z4 := B4.out.size
  have y4 := hb.size
  have OW_ := Lib.hid (OW.out.below hb)
  clear OW
  have OW := OW_
  clear OW_
  clear hb kxa0 kxa1 kxa2 kxa3 kxa4 kxa5 kxa6 kxa7 kxa8 K3 B3
  have kxa0 := K4.out.head 0 rfl
  have kxa1 := K4.out.head 1 rfl
  have kxa2 := K4.out.head 2 rfl
  have kxa3 := K4.out.head 3 rfl
  have kxa4 := K4.out.head 4 rfl
  have kxa5 := K4.out.head 5 rfl
  have kxa6 := K4.out.head 6 rfl
  have kxa7 := K4.out.head 7 rfl
  have kxa8 := K4.out.head 8 rfl
  have X5 := below_box w4 (.cells #[.int .i64 b0, .int .i64 b1, .string b2, .int .i64 b3, .int .i64 b4, .string b5, .slice C6 m6 p6, .slice C7 m7 p7, .slice C8 m8 p8] 36)
  have K5 := Lib.hid (K4.out.alloc [.int .i64 b0, .int .i64 b1, .string b2, .int .i64 b3, .int .i64 b4, .string b5, .slice C6 m6 p6, .slice C7 m7 p7, .slice C8 m8 p8] 36)
  have B5 := Lib.hid (B4.out.trans (X5.mono z4))
  have z5 := B5.out.size
  have y5 : (w4.alloc (.cells #[.int .i64 b0, .int .i64 b1, .string b2, .int .i64 b3, .int .i64 b4, .string b5, .slice C6 m6 p6, .slice C7 m7 p7, .slice C8 m8 p8] 36)).heap.size = w4.heap.size + 1 := by simp
  have Y5 := Lib.hid y5
  have OW_ := Lib.hid (OW.out.below X5)
  clear OW
  have OW := OW_
  clear OW_
  have OX_ := Lib.hid (OX.out.below X5)
  clear OX
  have OX := OX_
  clear OX_
  clear y5 X5 kxa0 kxa1 kxa2 kxa3 kxa4 kxa5 kxa6 kxa7 kxa8 K4 B4
  have kxb0 := K5.out.head 0 rfl
  have kxb1 := K5.out.head 1 rfl
  have kxb2 := K5.out.head 2 rfl
  have kxb3 := K5.out.head 3 rfl
  have kxb4 := K5.out.head 4 rfl
  have kxb5 := K5.out.head 5 rfl
  have kxb6 := K5.out.head 6 rfl
  have kxb7 := K5.out.head 7 rfl
  have kxb8 := K5.out.head 8 rfl
  have kxa0 := K5.out.tail.head 0 rfl
  have kxa1 := K5.out.tail.head 1 rfl
  have kxa2 := K5.out.tail.head 2 rfl
  have kxa3 := K5.out.tail.head 3 rfl
  have kxa4 := K5.out.tail.head 4 rfl
  have kxa5 := K5.out.tail.head 5 rfl
  have kxa6 := K5.out.tail.head 6 rfl
  have kxa7 := K5.out.tail.head 7 rfl
  have kxa8 := K5.out.tail.head 8 rfl
  go_wp2_with fail
  refine (iSlimKeys_calls x [_, _, _, _, _, _, _, _, _] _ _ (Nat.le_refl _) OX.out.rd' (tab_upto (HT.out.below (B5.out.mono hB)) (Nat.le_trans hB z5))).mono ?_
  rintro e w5 ⟨hA, hc, r1', fg, rfl, hg, hO, hF, hb⟩
  obtain rfl := RS.out.det hg.out
  have OG := Lib.hid hO.out
  have LG0 := hF.out.2
  rw [Y5.out] at LG0
  have LG := Lib.hid LG0
  have NG := Lib.hid hF.out.1
  have hb5 := hb.out
  clear hg hO hF LG0 hb
  have K6 := Lib.hid (K5.out.below hb5)
  have B6 := Lib.hid (B5.out.trans (hb5.mono z5))
  have z6 := B6.out.size
  have y6 := hb5.size
  have OW_ := Lib.hid (OW.out.below hb5)
  clear OW
  have OW := OW_
  clear OW_
  have OX_ := Lib.hid (OX.out.below hb5)
  clear OX
  have OX := OX_
  clear OX_
  clear hb5 kxb0 kxb1 kxb2 kxb3 kxb4 kxb5 kxb6 kxb7 kxb8 kxa0 kxa1 kxa2 kxa3 kxa4 kxa5 kxa6 kxa7 kxa8 K5 B5
  have kxb0 := K6.out.head 0 rfl
  have kxb1 := K6.out.head 1 rfl
  have kxb2 := K6.out.head 2 rfl
  have kxb3 := K6.out.head 3 rfl
  have kxb4 := K6.out.head 4 rfl
  have kxb5 := K6.out.head 5 rfl
  have kxb6 := K6.out.head 6 rfl
  have kxb7 := K6.out.head 7 rfl
  have kxb8 := K6.out.head 8 rfl
  have kxa0 := K6.out.tail.head 0 rfl
  have kxa1 := K6.out.tail.head 1 rfl
  have kxa2 := K6.out.tail.head 2 rfl
  have kxa3 := K6.out.tail.head 3 rfl
  have kxa4 := K6.out.tail.head 4 rfl
  have kxa5 := K6.out.tail.head 5 rfl
  have kxa6 := K6.out.tail.head 6 rfl
  have kxa7 := K6.out.tail.head 7 rfl
  have kxa8 := K6.out.tail.head 8 rfl
  rw [Y5.out] at y6
  go_wp2_with fail
  refine (eqStringS_calls r0 hA wA hc wc _ _ (Nat.le_refl _) OG.out.rd' OW.out.rd').mono ?_
  rintro e w6 ⟨rfl, hb⟩
  have K7 := Lib.hid (K6.out.below hb)
  have B7 := Lib.hid (B6.out.trans (hb.mono z6))
  have z7 := B7.out.size
  have y7 := hb.size
  have OW_ := Lib.hid (OW.out.below hb)
  clear OW
  have OW := OW_
  clear OW_
  have OX_ := Lib.hid (OX.out.below hb)
  clear OX
  have OX := OX_
  clear OX_
  have OG_ := Lib.hid (OG.out.below hb)
  clear OG
  have OG := OG_
  clear OG_
  clear hb kxb0 kxb1 kxb2 kxb3 kxb4 kxb5 kxb6 kxb7 kxb8 kxa0 kxa1 kxa2 kxa3 kxa4 kxa5 kxa6 kxa7 kxa8 K6 B6
  have kxb0 := K7.out.head 0 rfl
  have kxb1 := K7.out.head 1 rfl
  have kxb2 := K7.out.head 2 rfl
  have kxb3 := K7.out.head 3 rfl
  have kxb4 := K7.out.head 4 rfl
  have kxb5 := K7.out.head 5 rfl
  have kxb6 := K7.out.head 6 rfl
  have kxb7 := K7.out.head 7 rfl
  have kxb8 := K7.out.head 8 rfl
  have kxa0 := K7.out.tail.head 0 rfl
  have kxa1 := K7.out.tail.head 1 rfl
  have kxa2 := K7.out.tail.head 2 rfl
  have kxa3 := K7.out.tail.head 3 rfl
  have kxa4 := K7.out.tail.head 4 rfl
  have kxa5 := K7.out.tail.head 5 rfl
  have kxa6 := K7.out.tail.head 6 rfl
  have kxa7 := K7.out.tail.head 7 rfl
  have kxa8 := K7.out.tail.head 8 rfl
  go_wp2_with fail
  have DR := Lib.hid (show Below w6.heap.size w6 w6.drew from (Below.refl _ _).drew)
  have HS := Lib.hid (HX.out.below ((B7.out.trans (DR.out.mono z7)).mono hB))
  have HM := Lib.hid (OX.out.below DR.out).rd'
  have hBw : B ≤ w6.drew.heap.size := Nat.le_trans hB z7
  have dxb0 := Lib.hid (show w6.drew.cell? ⟨w4.heap.size, 0, none⟩ = some (.int .i64 b0) from (K7.out.below DR.out).head 0 rfl)
  have dxb1 := Lib.hid (show w6.drew.cell? ⟨w4.heap.size, 1, none⟩ = some (.int .i64 b1) from (K7.out.below DR.out).head 1 rfl)
  have dxb2 := Lib.hid (show w6.drew.cell? ⟨w4.heap.size, 2, none⟩ = some (.string b2) from (K7.out.below DR.out).head 2 rfl)
  have dxb3 := Lib.hid (show w6.drew.cell? ⟨w4.heap.size, 3, none⟩ = some (.int .i64 b3) from (K7.out.below DR.out).head 3 rfl)
  have dxb4 := Lib.hid (show w6.drew.cell? ⟨w4.heap.size, 4, none⟩ = some (.int .i64 b4) from (K7.out.below DR.out).head 4 rfl)
  have dxb5 := Lib.hid (show w6.drew.cell? ⟨w4.heap.size, 5, none⟩ = some (.string b5) from (K7.out.below DR.out).head 5 rfl)
  have dxb6 := Lib.hid (show w6.drew.cell? ⟨w4.heap.size, 6, none⟩ = some (.slice C6 m6 p6) from (K7.out.below DR.out).head 6 rfl)
  have dxb7 := Lib.hid (show w6.drew.cell? ⟨w4.heap.size, 7, none⟩ = some (.slice C7 m7 p7) from (K7.out.below DR.out).head 7 rfl)
  have dxb8 := Lib.hid (show w6.drew.cell? ⟨w4.heap.size, 8, none⟩ = some (.slice C8 m8 p8) from (K7.out.below DR.out).head 8 rfl)
  have dxa0 := Lib.hid (show w6.drew.cell? ⟨w.heap.size, 0, none⟩ = some (.int .i64 a0) from (K7.out.below DR.out).tail.head 0 rfl)
  have dxa1 := Lib.hid (show w6.drew.cell? ⟨w.heap.size, 1, none⟩ = some (.int .i64 a1) from (K7.out.below DR.out).tail.head 1 rfl)
  have dxa2 := Lib.hid (show w6.drew.cell? ⟨w.heap.size, 2, none⟩ = some (.string a2) from (K7.out.below DR.out).tail.head 2 rfl)
  have dxa3 := Lib.hid (show w6.drew.cell? ⟨w.heap.size, 3, none⟩ = some (.int .i64 a3) from (K7.out.below DR.out).tail.head 3 rfl)
  have dxa4 := Lib.hid (show w6.drew.cell? ⟨w.heap.size, 4, none⟩ = some (.int .i64 a4) from (K7.out.below DR.out).tail.head 4 rfl)
  have dxa5 := Lib.hid (show w6.drew.cell? ⟨w.heap.size, 5, none⟩ = some (.string a5) from (K7.out.below DR.out).tail.head 5 rfl)
  have dxa6 := Lib.hid (show w6.drew.cell? ⟨w.heap.size, 6, none⟩ = some (.slice A6 n6 q6) from (K7.out.below DR.out).tail.head 6 rfl)
  have dxa7 := Lib.hid (show w6.drew.cell? ⟨w.heap.size, 7, none⟩ = some (.slice A7 n7 q7) from (K7.out.below DR.out).tail.head 7 rfl)
  have dxa8 := Lib.hid (show w6.drew.cell? ⟨w.heap.size, 8, none⟩ = some (.slice A8 n8 q8) from (K7.out.below DR.out).tail.head 8 rfl)
  clear kxb0 kxb1 kxb2 kxb3 kxb4 kxb5 kxb6 kxb7 kxb8 kxa0 kxa1 kxa2 kxa3 kxa4 kxa5 kxa6 kxa7 kxa8
  go_region_held3 (fun w' => w'.cell? ⟨w4.heap.size, 0, none⟩ = some (.int .i64 b0) ∧ w'.cell? ⟨w4.heap.size, 1, none⟩ = some (.int .i64 b1) ∧ w'.cell? ⟨w4.heap.size, 2, none⟩ = some (.string b2) ∧ w'.cell? ⟨w4.heap.size, 3, none⟩ = some (.int .i64 b3) ∧ w'.cell? ⟨w4.heap.size, 4, none⟩ = some (.int .i64 b4) ∧ w'.cell? ⟨w4.heap.size, 5, none⟩ = some (.string b5) ∧ w'.cell? ⟨w4.heap.size, 6, none⟩ = some (.slice C6 m6 p6) ∧ w'.cell? ⟨w4.heap.size, 7, none⟩ = some (.slice C7 m7 p7) ∧ w'.cell? ⟨w4.heap.size, 8, none⟩ = some (.slice C8 m8 p8) ∧ w'.cell? ⟨w.heap.size, 0, none⟩ = some (.int .i64 a0) ∧ w'.cell? ⟨w.heap.size, 1, none⟩ = some (.int .i64 a1) ∧ w'.cell? ⟨w.heap.size, 2, none⟩ = some (.string a2) ∧ w'.cell? ⟨w.heap.size, 3, none⟩ = some (.int .i64 a3) ∧ w'.cell? ⟨w.heap.size, 4, none⟩ = some (.int .i64 a4) ∧ w'.cell? ⟨w.heap.size, 5, none⟩ = some (.string a5) ∧ w'.cell? ⟨w.heap.size, 6, none⟩ = some (.slice A6 n6 q6) ∧ w'.cell? ⟨w.heap.size, 7, none⟩ = some (.slice A7 n7 q7) ∧ w'.cell? ⟨w.heap.size, 8, none⟩ = some (.slice A8 n8 q8))
    (first | (with_reducible exact ⟨dxb0.out, dxb1.out, dxb2.out, dxb3.out, dxb4.out, dxb5.out, dxb6.out, dxb7.out, dxb8.out, dxa0.out, dxa1.out, dxa2.out, dxa3.out, dxa4.out, dxa5.out, dxa6.out, dxa7.out, dxa8.out⟩) | (with_reducible exact ⟨exb0.out, exb1.out, exb2.out, exb3.out, exb4.out, exb5.out, exb6.out, exb7.out, exb8.out, exa0.out, exa1.out, exa2.out, exa3.out, exa4.out, exa5.out, exa6.out, exa7.out, exa8.out⟩) | (with_reducible exact ⟨fxb0.out, fxb1.out, fxb2.out, fxb3.out, fxb4.out, fxb5.out, fxb6.out, fxb7.out, fxb8.out, fxa0.out, fxa1.out, fxa2.out, fxa3.out, fxa4.out, fxa5.out, fxa6.out, fxa7.out, fxa8.out⟩) | fail "keep")
    (first
      | (go_at_call 8; ((refine (toFilt_calls x [.int .i64 a0, .int .i64 a1, .string a2, .int .i64 a3, .int .i64 a4, .string a5, .slice A6 n6 q6, .slice A7 n7 q7, .slice A8 n8 q8] w6.drew B hBw HS.out SX.out).mono ?_); rintro e wt ⟨ut, ft, rfl, hOt, hFt, hbt⟩; have KT := Lib.hid (K7.out.below (DR.out.trans hbt)); have exb0 := Lib.hid (show wt.cell? ⟨w4.heap.size, 0, none⟩ = some (.int .i64 b0) from KT.out.head 0 rfl); have exb1 := Lib.hid (show wt.cell? ⟨w4.heap.size, 1, none⟩ = some (.int .i64 b1) from KT.out.head 1 rfl); have exb2 := Lib.hid (show wt.cell? ⟨w4.heap.size, 2, none⟩ = some (.string b2) from KT.out.head 2 rfl); have exb3 := Lib.hid (show wt.cell? ⟨w4.heap.size, 3, none⟩ = some (.int .i64 b3) from KT.out.head 3 rfl); have exb4 := Lib.hid (show wt.cell? ⟨w4.heap.size, 4, none⟩ = some (.int .i64 b4) from KT.out.head 4 rfl); have exb5 := Lib.hid (show wt.cell? ⟨w4.heap.size, 5, none⟩ = some (.string b5) from KT.out.head 5 rfl); have exb6 := Lib.hid (show wt.cell? ⟨w4.heap.size, 6, none⟩ = some (.slice C6 m6 p6) from KT.out.head 6 rfl); have exb7 := Lib.hid (show wt.cell? ⟨w4.heap.size, 7, none⟩ = some (.slice C7 m7 p7) from KT.out.head 7 rfl); have exb8 := Lib.hid (show wt.cell? ⟨w4.heap.size, 8, none⟩ = some (.slice C8 m8 p8) from KT.out.head 8 rfl); have exa0 := Lib.hid (show wt.cell? ⟨w.heap.size, 0, none⟩ = some (.int .i64 a0) from KT.out.tail.head 0 rfl); have exa1 := Lib.hid (show wt.cell? ⟨w.heap.size, 1, none⟩ = some (.int .i64 a1) from KT.out.tail.head 1 rfl); have exa2 := Lib.hid (show wt.cell? ⟨w.heap.size, 2, none⟩ = some (.string a2) from KT.out.tail.head 2 rfl); have exa3 := Lib.hid (show wt.cell? ⟨w.heap.size, 3, none⟩ = some (.int .i64 a3) from KT.out.tail.head 3 rfl); have exa4 := Lib.hid (show wt.cell? ⟨w.heap.size, 4, none⟩ = some (.int .i64 a4) from KT.out.tail.head 4 rfl); have exa5 := Lib.hid (show wt.cell? ⟨w.heap.size, 5, none⟩ = some (.string a5) from KT.out.tail.head 5 rfl); have exa6 := Lib.hid (show wt.cell? ⟨w.heap.size, 6, none⟩ = some (.slice A6 n6 q6) from KT.out.tail.head 6 rfl); have exa7 := Lib.hid (show wt.cell? ⟨w.heap.size, 7, none⟩ = some (.slice A7 n7 q7) from KT.out.tail.head 7 rfl); have exa8 := Lib.hid (show wt.cell? ⟨w.heap.size, 8, none⟩ = some (.slice A8 n8 q8) from KT.out.tail.head 8 rfl)))
      | (go_at_call 10; ((refine (eqFilt_calls x [.int .i64 b0, .int .i64 b1, .string b2, .int .i64 b3, .int .i64 b4, .string b5, .slice C6 m6 p6, .slice C7 m7 p7, .slice C8 m8 p8] ut wt wt.heap.size (Nat.le_refl _) (HM.out.upto hbt hbt.size) hOt.rd').mono ?_); rintro e w8 ⟨rfl, hbq⟩; have KQ := Lib.hid (KT.out.below hbq); have fxb0 := Lib.hid (show w8.cell? ⟨w4.heap.size, 0, none⟩ = some (.int .i64 b0) from KQ.out.head 0 rfl); have fxb1 := Lib.hid (show w8.cell? ⟨w4.heap.size, 1, none⟩ = some (.int .i64 b1) from KQ.out.head 1 rfl); have fxb2 := Lib.hid (show w8.cell? ⟨w4.heap.size, 2, none⟩ = some (.string b2) from KQ.out.head 2 rfl); have fxb3 := Lib.hid (show w8.cell? ⟨w4.heap.size, 3, none⟩ = some (.int .i64 b3) from KQ.out.head 3 rfl); have fxb4 := Lib.hid (show w8.cell? ⟨w4.heap.size, 4, none⟩ = some (.int .i64 b4) from KQ.out.head 4 rfl); have fxb5 := Lib.hid (show w8.cell? ⟨w4.heap.size, 5, none⟩ = some (.string b5) from KQ.out.head 5 rfl); have fxb6 := Lib.hid (show w8.cell? ⟨w4.heap.size, 6, none⟩ = some (.slice C6 m6 p6) from KQ.out.head 6 rfl); have fxb7 := Lib.hid (show w8.cell? ⟨w4.heap.size, 7, none⟩ = some (.slice C7 m7 p7) from KQ.out.head 7 rfl); have fxb8 := Lib.hid (show w8.cell? ⟨w4.heap.size, 8, none⟩ = some (.slice C8 m8 p8) from KQ.out.head 8 rfl); have fxa0 := Lib.hid (show w8.cell? ⟨w.heap.size, 0, none⟩ = some (.int .i64 a0) from KQ.out.tail.head 0 rfl); have fxa1 := Lib.hid (show w8.cell? ⟨w.heap.size, 1, none⟩ = some (.int .i64 a1) from KQ.out.tail.head 1 rfl); have fxa2 := Lib.hid (show w8.cell? ⟨w.heap.size, 2, none⟩ = some (.string a2) from KQ.out.tail.head 2 rfl); have fxa3 := Lib.hid (show w8.cell? ⟨w.heap.size, 3, none⟩ = some (.int .i64 a3) from KQ.out.tail.head 3 rfl); have fxa4 := Lib.hid (show w8.cell? ⟨w.heap.size, 4, none⟩ = some (.int .i64 a4) from KQ.out.tail.head 4 rfl); have fxa5 := Lib.hid (show w8.cell? ⟨w.heap.size, 5, none⟩ = some (.string a5) from KQ.out.tail.head 5 rfl); have fxa6 := Lib.hid (show w8.cell? ⟨w.heap.size, 6, none⟩ = some (.slice A6 n6 q6) from KQ.out.tail.head 6 rfl); have fxa7 := Lib.hid (show w8.cell? ⟨w.heap.size, 7, none⟩ = some (.slice A7 n7 q7) from KQ.out.tail.head 7 rfl); have fxa8 := Lib.hid (show w8.cell? ⟨w.heap.size, 8, none⟩ = some (.slice A8 n8 q8) from KQ.out.tail.head 8 rfl))))
  have hb := DR.out.trans (hbt.trans (hbq.mono hbt.size))
  clear hOt hFt hbt hbq KT KQ DR HS HM hBw dxb0 dxb1 dxb2 dxb3 dxb4 dxb5 dxb6 dxb7 dxb8 dxa0 dxa1 dxa2 dxa3 dxa4 dxa5 dxa6 dxa7 dxa8 exb0 exb1 exb2 exb3 exb4 exb5 exb6 exb7 exb8 exa0 exa1 exa2 exa3 exa4 exa5 exa6 exa7 exa8 fxb0 fxb1 fxb2 fxb3 fxb4 fxb5 fxb6 fxb7 fxb8 fxa0 fxa1 fxa2 fxa3 fxa4 fxa5 fxa6 fxa7 fxa8
  have K8 := Lib.hid (K7.out.below hb)
  have B8 := Lib.hid (B7.out.trans (hb.mono z7))
  have z8 := B8.out.size
  have y8 := hb.size
  have OW_ := Lib.hid (OW.out.below hb)
  clear OW
  have OW := OW_
  clear OW_
  have OX_ := Lib.hid (OX.out.below hb)
  clear OX
  have OX := OX_
  clear OX_
  have OG_ := Lib.hid (OG.out.below hb)
  clear OG
  have OG := OG_
  clear OG_
  clear hb K7 B7
  have kxb0 := K8.out.head 0 rfl
  have kxb1 := K8.out.head 1 rfl
  have kxb2 := K8.out.head 2 rfl
  have kxb3 := K8.out.head 3 rfl
  have kxb4 := K8.out.head 4 rfl
  have kxb5 := K8.out.head 5 rfl
  have kxb6 := K8.out.head 6 rfl
  have kxb7 := K8.out.head 7 rfl
  have kxb8 := K8.out.head 8 rfl
  have kxa0 := K8.out.tail.head 0 rfl
  have kxa1 := K8.out.tail.head 1 rfl
  have kxa2 := K8.out.tail.head 2 rfl
  have kxa3 := K8.out.tail.head 3 rfl
  have kxa4 := K8.out.tail.head 4 rfl
  have kxa5 := K8.out.tail.head 5 rfl
  have kxa6 := K8.out.tail.head 6 rfl
  have kxa7 := K8.out.tail.head 7 rfl
  have kxa8 := K8.out.tail.head 8 rfl
  go_wp2_with fail
  refine (markFilt_calls x [.int .i64 b0, .int .i64 b1, .string b2, .int .i64 b3, .int .i64 b4, .string b5, .slice C6 m6 p6, .slice C7 m7 p7, .slice C8 m8 p8] 1 fx _ (by omega) (by omega) OX.out NX.out).mono ?_
  rintro e w9 ⟨rfl, hO, hu⟩
  clear hO OX
  have K9 := Lib.hid (K8.out.upd hu (by intro p hp hm; have h1 := LX.out _ hm; simp only [List.mem_cons, List.mem_nil_iff, or_false] at hp; rcases hp with rfl | rfl <;> (simp only [] at h1; omega)))
  have B9 := Lib.hid (B8.out.trans (hu.to_below (fun b hm => by have := LX.out b hm; omega) z8))
  have z9 := B9.out.size
  have y9 := hu.size
  have OW_ := Lib.hid (OW.out.upd hu (fun b hm hn => by have h1 := LW.out b hm; have h2 := LX.out b hn; omega))
  clear OW
  have OW := OW_
  clear OW_
  have OG_ := Lib.hid (OG.out.upd hu (fun b hm hn => by have h1 := LG.out b hm; have h2 := LX.out b hn; omega))
  clear OG
  have OG := OG_
  clear OG_
  clear hu kxb0 kxb1 kxb2 kxb3 kxb4 kxb5 kxb6 kxb7 kxb8 kxa0 kxa1 kxa2 kxa3 kxa4 kxa5 kxa6 kxa7 kxa8 K8 B8
  have kxb0 := K9.out.head 0 rfl
  have kxb1 := K9.out.head 1 rfl
  have kxb2 := K9.out.head 2 rfl
  have kxb3 := K9.out.head 3 rfl
  have kxb4 := K9.out.head 4 rfl
  have kxb5 := K9.out.head 5 rfl
  have kxb6 := K9.out.head 6 rfl
  have kxb7 := K9.out.head 7 rfl
  have kxb8 := K9.out.head 8 rfl
  have kxa0 := K9.out.tail.head 0 rfl
  have kxa1 := K9.out.tail.head 1 rfl
  have kxa2 := K9.out.tail.head 2 rfl
  have kxa3 := K9.out.tail.head 3 rfl
  have kxa4 := K9.out.tail.head 4 rfl
  have kxa5 := K9.out.tail.head 5 rfl
  have kxa6 := K9.out.tail.head 6 rfl
  have kxa7 := K9.out.tail.head 7 rfl
  have kxa8 := K9.out.tail.head 8 rfl
  have n1 : ¬ (1 + (topF x : Int) < 0) := by omega
  go_wp2_with fail
  refine (eqStringS_calls r0 hA wA hc wc _ _ (Nat.le_refl _) OG.out.rd' OW.out.rd').mono ?_
  rintro e w10 ⟨rfl, hb⟩
  have K10 := Lib.hid (K9.out.below hb)
  have B10 := Lib.hid (B9.out.trans (hb.mono z9))
  have z10 := B10.out.size
  have y10 := hb.size
  have OW_ := Lib.hid (OW.out.below hb)
  clear OW
  have OW := OW_
  clear OW_
  have OG_ := Lib.hid (OG.out.below hb)
  clear OG
  have OG := OG_
  clear OG_
  clear hb kxb0 kxb1 kxb2 kxb3 kxb4 kxb5 kxb6 kxb7 kxb8 kxa0 kxa1 kxa2 kxa3 kxa4 kxa5 kxa6 kxa7 kxa8 K9 B9
  have kxb0 := K10.out.head 0 rfl
  have kxb1 := K10.out.head 1 rfl
  have kxb2 := K10.out.head 2 rfl
  have kxb3 := K10.out.head 3 rfl
  have kxb4 := K10.out.head 4 rfl
  have kxb5 := K10.out.head 5 rfl
  have kxb6 := K10.out.head 6 rfl
  have kxb7 := K10.out.head 7 rfl
  have kxb8 := K10.out.head 8 rfl
  have kxa0 := K10.out.tail.head 0 rfl
  have kxa1 := K10.out.tail.head 1 rfl
  have kxa2 := K10.out.tail.head 2 rfl
  have kxa3 := K10.out.tail.head 3 rfl
  have kxa4 := K10.out.tail.head 4 rfl
  have kxa5 := K10.out.tail.head 5 rfl
  have kxa6 := K10.out.tail.head 6 rfl
  have kxa7 := K10.out.tail.head 7 rfl
  have kxa8 := K10.out.tail.head 8 rfl
  go_wp2_with fail
  refine (markStringS_calls r0 hA hc 1 fg _ (by omega) (by omega) OG.out NG.out).mono ?_
  rintro e w11 ⟨rfl, hO, hu⟩
  have OM := Lib.hid hO
  clear hO OG
  have K11 := Lib.hid (K10.out.upd hu (by intro p hp hm; have h1 := LG.out _ hm; simp only [List.mem_cons, List.mem_nil_iff, or_false] at hp; rcases hp with rfl | rfl <;> (simp only [] at h1; omega)))
  have B11 := Lib.hid (B10.out.trans (hu.to_below (fun b hm => by have := LG.out b hm; omega) z10))
  have z11 := B11.out.size
  have y11 := hu.size
  have OW_ := Lib.hid (OW.out.upd hu (fun b hm hn => by have h1 := LW.out b hm; have h2 := LG.out b hn; omega))
  clear OW
  have OW := OW_
  clear OW_
  clear hu kxb0 kxb1 kxb2 kxb3 kxb4 kxb5 kxb6 kxb7 kxb8 kxa0 kxa1 kxa2 kxa3 kxa4 kxa5 kxa6 kxa7 kxa8 K10 B10
  have kxb0 := K11.out.head 0 rfl
  have kxb1 := K11.out.head 1 rfl
  have kxb2 := K11.out.head 2 rfl
  have kxb3 := K11.out.head 3 rfl
  have kxb4 := K11.out.head 4 rfl
  have kxb5 := K11.out.head 5 rfl
  have kxb6 := K11.out.head 6 rfl
  have kxb7 := K11.out.head 7 rfl
  have kxb8 := K11.out.head 8 rfl
  have kxa0 := K11.out.tail.head 0 rfl
  have kxa1 := K11.out.tail.head 1 rfl
  have kxa2 := K11.out.tail.head 2 rfl
  have kxa3 := K11.out.tail.head 3 rfl
  have kxa4 := K11.out.tail.head 4 rfl
  have kxa5 := K11.out.tail.head 5 rfl
  have kxa6 := K11.out.tail.head 6 rfl
  have kxa7 := K11.out.tail.head 7 rfl
  have kxa8 := K11.out.tail.head 8 rfl
  have n2 : ¬ (1 + (r0.length : Int) < 0) := by omega
  have n3 : ((1 + (r0.length : Int)) != 1 + (r0.length : Int)) = false := by simp
  go_wp2_with fail
  refine (heldStringS_calls r0 hA hc r0.length _ 1 _ (Nat.le_refl _) (by omega) (by omega) rfl OM.out.rd').mono ?_
  rintro e w12 ⟨rfl, hb⟩
  have K12 := Lib.hid (K11.out.below hb)
  have B12 := Lib.hid (B11.out.trans (hb.mono z11))
  have z12 := B12.out.size
  have y12 := hb.size
  have OW_ := Lib.hid (OW.out.below hb)
  clear OW
  have OW := OW_
  clear OW_
  have OM_ := Lib.hid (OM.out.below hb)
  clear OM
  have OM := OM_
  clear OM_
  clear hb kxb0 kxb1 kxb2 kxb3 kxb4 kxb5 kxb6 kxb7 kxb8 kxa0 kxa1 kxa2 kxa3 kxa4 kxa5 kxa6 kxa7 kxa8 K11 B11
  have kxb0 := K12.out.head 0 rfl
  have kxb1 := K12.out.head 1 rfl
  have kxb2 := K12.out.head 2 rfl
  have kxb3 := K12.out.head 3 rfl
  have kxb4 := K12.out.head 4 rfl
  have kxb5 := K12.out.head 5 rfl
  have kxb6 := K12.out.head 6 rfl
  have kxb7 := K12.out.head 7 rfl
  have kxb8 := K12.out.head 8 rfl
  have kxa0 := K12.out.tail.head 0 rfl
  have kxa1 := K12.out.tail.head 1 rfl
  have kxa2 := K12.out.tail.head 2 rfl
  have kxa3 := K12.out.tail.head 3 rfl
  have kxa4 := K12.out.tail.head 4 rfl
  have kxa5 := K12.out.tail.head 5 rfl
  have kxa6 := K12.out.tail.head 6 rfl
  have kxa7 := K12.out.tail.head 7 rfl
  have kxa8 := K12.out.tail.head 8 rfl
  go_wp2_with fail
  refine (toFilt_calls x [.int .i64 a0, .int .i64 a1, .string a2, .int .i64 a3, .int .i64 a4, .string a5, .slice A6 n6 q6, .slice A7 n7 q7, .slice A8 n8 q8] _ B (Nat.le_trans hB z12) (HX.out.below (B12.out.mono hB)) SX.out).mono ?_
  rintro e w13 ⟨q13, f13, rfl, hO, hF, hb⟩
  have RA := Lib.hid hO
  clear hO hF
  have K13 := Lib.hid (K12.out.below hb)
  have B13 := Lib.hid (B12.out.trans (hb.mono z12))
  have z13 := B13.out.size
  have y13 := hb.size
  have OW_ := Lib.hid (OW.out.below hb)
  clear OW
  have OW := OW_
  clear OW_
  have OM_ := Lib.hid (OM.out.below hb)
  clear OM
  have OM := OM_
  clear OM_
  clear hb kxb0 kxb1 kxb2 kxb3 kxb4 kxb5 kxb6 kxb7 kxb8 kxa0 kxa1 kxa2 kxa3 kxa4 kxa5 kxa6 kxa7 kxa8 K12 B12
  have kxb0 := K13.out.head 0 rfl
  have kxb1 := K13.out.head 1 rfl
  have kxb2 := K13.out.head 2 rfl
  have kxb3 := K13.out.head 3 rfl
  have kxb4 := K13.out.head 4 rfl
  have kxb5 := K13.out.head 5 rfl
  have kxb6 := K13.out.head 6 rfl
  have kxb7 := K13.out.head 7 rfl
  have kxb8 := K13.out.head 8 rfl
  have kxa0 := K13.out.tail.head 0 rfl
  have kxa1 := K13.out.tail.head 1 rfl
  have kxa2 := K13.out.tail.head 2 rfl
  have kxa3 := K13.out.tail.head 3 rfl
  have kxa4 := K13.out.tail.head 4 rfl
  have kxa5 := K13.out.tail.head 5 rfl
  have kxa6 := K13.out.tail.head 6 rfl
  have kxa7 := K13.out.tail.head 7 rfl
  have kxa8 := K13.out.tail.head 8 rfl
  go_wp2_with fail
  refine (iSlimKeys_calls x _ w13 w13.heap.size (Nat.le_refl _) RA.out.rd' (tab_upto (HT.out.below (B13.out.mono hB)) (Nat.le_trans hB z13))).mono ?_
  rintro e w14 ⟨jA, jc, r2', fh, rfl, hg, hO, hF, hb⟩
  obtain rfl := RS.out.det hg.out
  have OH := Lib.hid hO.out
  have hb14 := hb.out
  clear hg hO hF RA hb
  have K14 := Lib.hid (K13.out.below hb14)
  have B14 := Lib.hid (B13.out.trans (hb14.mono z13))
  have z14 := B14.out.size
  have y14 := hb14.size
  have OW_ := Lib.hid (OW.out.below hb14)
  clear OW
  have OW := OW_
  clear OW_
  have OM_ := Lib.hid (OM.out.below hb14)
  clear OM
  have OM := OM_
  clear OM_
  clear hb14 kxb0 kxb1 kxb2 kxb3 kxb4 kxb5 kxb6 kxb7 kxb8 kxa0 kxa1 kxa2 kxa3 kxa4 kxa5 kxa6 kxa7 kxa8 K13 B13
  have kxb0 := K14.out.head 0 rfl
  have kxb1 := K14.out.head 1 rfl
  have kxb2 := K14.out.head 2 rfl
  have kxb3 := K14.out.head 3 rfl
  have kxb4 := K14.out.head 4 rfl
  have kxb5 := K14.out.head 5 rfl
  have kxb6 := K14.out.head 6 rfl
  have kxb7 := K14.out.head 7 rfl
  have kxb8 := K14.out.head 8 rfl
  have kxa0 := K14.out.tail.head 0 rfl
  have kxa1 := K14.out.tail.head 1 rfl
  have kxa2 := K14.out.tail.head 2 rfl
  have kxa3 := K14.out.tail.head 3 rfl
  have kxa4 := K14.out.tail.head 4 rfl
  have kxa5 := K14.out.tail.head 5 rfl
  have kxa6 := K14.out.tail.head 6 rfl
  have kxa7 := K14.out.tail.head 7 rfl
  have kxa8 := K14.out.tail.head 8 rfl
  go_wp2_with fail
  refine (eqStringS_calls r0 jA wA jc wc _ _ (Nat.le_refl _) OH.out.rd' OW.out.rd').mono ?_
  rintro e w15 ⟨rfl, hb⟩
  have K15 := Lib.hid (K14.out.below hb)
  have B15 := Lib.hid (B14.out.trans (hb.mono z14))
  have z15 := B15.out.size
  have y15 := hb.size
  have OW_ := Lib.hid (OW.out.below hb)
  clear OW
  have OW := OW_
  clear OW_
  have OM_ := Lib.hid (OM.out.below hb)
  clear OM
  have OM := OM_
  clear OM_
  have OH_ := Lib.hid (OH.out.below hb)
  clear OH
  have OH := OH_
  clear OH_
  clear hb kxb0 kxb1 kxb2 kxb3 kxb4 kxb5 kxb6 kxb7 kxb8 kxa0 kxa1 kxa2 kxa3 kxa4 kxa5 kxa6 kxa7 kxa8 K14 B14
  have kxb0 := K15.out.head 0 rfl
  have kxb1 := K15.out.head 1 rfl
  have kxb2 := K15.out.head 2 rfl
  have kxb3 := K15.out.head 3 rfl
  have kxb4 := K15.out.head 4 rfl
  have kxb5 := K15.out.head 5 rfl
  have kxb6 := K15.out.head 6 rfl
  have kxb7 := K15.out.head 7 rfl
  have kxb8 := K15.out.head 8 rfl
  have kxa0 := K15.out.tail.head 0 rfl
  have kxa1 := K15.out.tail.head 1 rfl
  have kxa2 := K15.out.tail.head 2 rfl
  have kxa3 := K15.out.tail.head 3 rfl
  have kxa4 := K15.out.tail.head 4 rfl
  have kxa5 := K15.out.tail.head 5 rfl
  have kxa6 := K15.out.tail.head 6 rfl
  have kxa7 := K15.out.tail.head 7 rfl
  have kxa8 := K15.out.tail.head 8 rfl
  go_wp2_with fail
  refine (heldStringS_calls r0 hA hc r0.length _ 1 _ (Nat.le_refl _) (by omega) (by omega) rfl OM.out.rd').mono ?_
  rintro e w16 ⟨rfl, hb⟩
  have K16 := Lib.hid (K15.out.below hb)
  have B16 := Lib.hid (B15.out.trans (hb.mono z15))
  have z16 := B16.out.size
  have y16 := hb.size
  have OW_ := Lib.hid (OW.out.below hb)
  clear OW
  have OW := OW_
  clear OW_
  have OM_ := Lib.hid (OM.out.below hb)
  clear OM
  have OM := OM_
  clear OM_
  have OH_ := Lib.hid (OH.out.below hb)
  clear OH
  have OH := OH_
  clear OH_
  clear hb kxb0 kxb1 kxb2 kxb3 kxb4 kxb5 kxb6 kxb7 kxb8 kxa0 kxa1 kxa2 kxa3 kxa4 kxa5 kxa6 kxa7 kxa8 K15 B15
  have kxb0 := K16.out.head 0 rfl
  have kxb1 := K16.out.head 1 rfl
  have kxb2 := K16.out.head 2 rfl
  have kxb3 := K16.out.head 3 rfl
  have kxb4 := K16.out.head 4 rfl
  have kxb5 := K16.out.head 5 rfl
  have kxb6 := K16.out.head 6 rfl
  have kxb7 := K16.out.head 7 rfl
  have kxb8 := K16.out.head 8 rfl
  have kxa0 := K16.out.tail.head 0 rfl
  have kxa1 := K16.out.tail.head 1 rfl
  have kxa2 := K16.out.tail.head 2 rfl
  have kxa3 := K16.out.tail.head 3 rfl
  have kxa4 := K16.out.tail.head 4 rfl
  have kxa5 := K16.out.tail.head 5 rfl
  have kxa6 := K16.out.tail.head 6 rfl
  have kxa7 := K16.out.tail.head 7 rfl
  have kxa8 := K16.out.tail.head 8 rfl
  have BE := Lib.hid B16.out
  clear kxb0 kxb1 kxb2 kxb3 kxb4 kxb5 kxb6 kxb7 kxb8 kxa0 kxa1 kxa2 kxa3 kxa4 kxa5 kxa6 kxa7 kxa8 OW OM OH
  go_wp2
  go_ret
  exact PBool.yes trivial BE.out
end Go.Proofs.YtppfgepoegicgaaDoor
