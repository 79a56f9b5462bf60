/- Parts of the proof: LawSlimTell. -/
import Derived.Test.YtppfgepoegicgaaDoorZTell
import Derived.Test.YtppfgepoegicgaaDoorZFiltTo
import Derived.Test.YtppfgepoegicgaaDoorZFiltEq
import Derived.Deep.DrawnRows
namespace Go.Proofs.YtppfgepoegicgaaDoor
open Go Go.RowKit

theorem tab_upto {w : World} {B B' : Nat} (h : Tab w B) (hB : B ≤ B') : Tab w B' := by
  obtain ⟨h0, tb, c, h1, h2, h3⟩ := h
  exact ⟨by omega, tb, c, h1, by omega, h3⟩

set_option maxRecDepth 100000 in
set_option maxHeartbeats 8000000 in
theorem lawSlimTell (x : Filt) (ux : List Value) (w : World) (B : Nat) (hB : B ≤ w.heap.size) (hx : RDv w B (filtDs x) ux) (hT : Tab w B) :
    Calls Tryd.prog 4 #[.agg ux.toArray] w (PBool True w) := by
  obtain ⟨a0, a1, a2, a3, a4, a5, A6, n6, q6, A7, n7, q7, A8, n8, q8, rfl⟩ := filtDs_shape hx
  have HX := Lib.hid hx
  have HT := Lib.hid hT
  clear hx hT
  obtain ⟨l1, e1⟩ : ∃ l, l = szDs (filtDs x) 1048576 := ⟨_, rfl⟩
  have E1 := Lib.hid e1
  have r1 := szDs_range (filtDs x) 1048576 (by omega)
  rw [← e1] at r1
  clear e1
  have hbx := fun o1 => below_box w o1
  by_cases t1 : l1 < 0
  · go_enter Tryd.func4, Tryd.ntmps4
    go_wp2_with fail
    refine (szFilt_calls x [_, _, _, _, _, _, _, _, _] _ _ B (Nat.le_trans hB (hbx _).size) (HX.out.below ((hbx _).mono hB)) (by omega) (by omega)).mono ?_
    rintro e w1 ⟨rfl, hb1⟩
    rw [← E1.out]
    obtain ⟨hb, hz, bP⟩ := boxes1 (P := [_, _, _, _, _, _, _, _, _]) (boxes1_of hb1)
    clear hb1 bP
    go_wp2
    go_ret
    exact PBool.yes trivial hb
  have SX := Lib.hid (smalls_of_sz (filtDs x) 1048576 (by omega) (by omega) (by rw [← E1.out]; omega))
  have CX := Lib.hid (fcnt_of_sz x 1048576 (by omega) (by omega) (by rw [← E1.out]; omega))
  have hcnt : filtCnt x ≤ 1099511627776 := by
    have h1 := CX.out.1
    rw [← E1.out] at h1
    omega
  go_enter Tryd.func4, Tryd.ntmps4
  go_wp2_with fail
  refine (szFilt_calls x [_, _, _, _, _, _, _, _, _] _ _ B (Nat.le_trans hB (hbx _).size) (HX.out.below ((hbx _).mono hB)) (by omega) (by omega)).mono ?_
  rintro e w1 ⟨rfl, hb1⟩
  rw [← E1.out]
  obtain ⟨hb, hz, bP⟩ := boxes1 (P := [.int .i64 a0, .int .i64 a1, .string a2, .int .i64 a3, .int .i64 a4, .string a5, .slice A6 n6 q6, .slice A7 n7 q7, .slice A8 n8 q8]) (boxes1_of hb1)
  have K1 := Lib.hid (show Has [(w.heap.size, [.int .i64 a0, .int .i64 a1, .string a2, .int .i64 a3, .int .i64 a4, .string a5, .slice A6 n6 q6, .slice A7 n7 q7, .slice A8 n8 q8])] w1 from
    Has.cons (Nat.lt_of_lt_of_le (by omega) (Nat.le_refl w1.heap.size)) (fun i u hu => (bP.cell i).trans hu) (Has.nil _))
  have B1 := Lib.hid hb
  have z1 := B1.out.size
  have g0 := K1.out.head 0 rfl
  have g1 := K1.out.head 1 rfl
  have g2 := K1.out.head 2 rfl
  have g3 := K1.out.head 3 rfl
  have g4 := K1.out.head 4 rfl
  have g5 := K1.out.head 5 rfl
  have g6 := K1.out.head 6 rfl
  have g7 := K1.out.head 7 rfl
  have g8 := K1.out.head 8 rfl
  clear hb1 bP hbx hb hz
  go_wp2_with fail
  -- the specification's argument
  refine (toFilt_calls x [.int .i64 a0, .int .i64 a1, .string a2, .int .i64 a3, .int .i64 a4, .string a5, .slice A6 n6 q6, .slice A7 n7 q7, .slice A8 n8 q8] _ B (Nat.le_trans hB z1) (HX.out.below (B1.out.mono hB)) SX.out).mono ?_
  rintro e w2 ⟨vs1, f1, rfl, hO1, hF1, hb2⟩
  have K2 := Lib.hid (K1.out.below hb2)
  have B2 := Lib.hid (B1.out.trans (hb2.mono z1))
  have z2 := B2.out.size
  have HO1 := Lib.hid hO1.rd'
  clear hO1 hF1 hb2 g0 g1 g2 g3 g4 g5 g6 g7 g8 K1 B1 z1
  go_wp2_with fail
  refine (sSlimTell_calls x vs1 w2 w2.heap.size (Nat.le_refl _) HO1.out CX.out.2 hcnt).mono ?_
  rintro e w3 ⟨r1, rfl, hr1, hb3⟩
  have R1 := Lib.hid hr1
  have K3 := Lib.hid (K2.out.below hb3)
  have B3 := Lib.hid (B2.out.trans (hb3.mono z2))
  have z3 := B3.out.size
  have g0 := K3.out.head 0 rfl
  have g1 := K3.out.head 1 rfl
  have g2 := K3.out.head 2 rfl
  have g3 := K3.out.head 3 rfl
  have g4 := K3.out.head 4 rfl
  have g5 := K3.out.head 5 rfl
  have g6 := K3.out.head 6 rfl
  have g7 := K3.out.head 7 rfl
  have g8 := K3.out.head 8 rfl
  clear hr1 hb3 K2 B2 z2 HO1
  go_wp2_with fail
  -- x0
  refine (toFilt_calls x [.int .i64 a0, .int .i64 a1, .string a2, .int .i64 a3, .int .i64 a4, .string a5, .slice A6 n6 q6, .slice A7 n7 q7, .slice A8 n8 q8] _ B (Nat.le_trans hB z3) (HX.out.below (B3.out.mono hB)) SX.out).mono ?_
  rintro e w4 ⟨vs3, f3, rfl, hO3, hF3, hb4⟩
  obtain ⟨b0, b1, b2, b3, b4, b5, B6, m6, p6, B7, m7, p7, B8, m8, p8, rfl⟩ := filtDs_shape hO3.rd'
  have K4 := Lib.hid ((K3.out.below hb4).alloc [.int .i64 b0, .int .i64 b1, .string b2, .int .i64 b3, .int .i64 b4, .string b5, .slice B6 m6 p6, .slice B7 m7 p7, .slice B8 m8 p8] 36)
  have hB4 : B ≤ w4.heap.size := Nat.le_trans (Nat.le_trans hB z3) hb4.size
  have X4 := below_box w4 (.cells #[.int .i64 b0, .int .i64 b1, .string b2, .int .i64 b3, .int .i64 b4, .string b5, .slice B6 m6 p6, .slice B7 m7 p7, .slice B8 m8 p8] 36)
  have B4 := Lib.hid ((B3.out.trans (hb4.mono z3)).trans (X4.mono (by have := hb4.size; omega)))
  have HO3 := Lib.hid (hO3.rd'.below X4)
  have z4 := B4.out.size
  have s4 := K4.out.lt
  have g0 := K4.out.head 0 rfl
  have g1 := K4.out.head 1 rfl
  have g2 := K4.out.head 2 rfl
  have g3 := K4.out.head 3 rfl
  have g4 := K4.out.head 4 rfl
  have g5 := K4.out.head 5 rfl
  have g6 := K4.out.head 6 rfl
  have g7 := K4.out.head 7 rfl
  have g8 := K4.out.head 8 rfl
  clear hO3 hF3 hb4 g0 g1 g2 g3 g4 g5 g6 g7 g8 K3 B3 z3 X4
  go_wp2_with fail
  refine (iSlimTell_calls x [_, _, _, _, _, _, _, _, _] _ w4.heap.size (by simp) HO3.out (tab_upto (HT.out.below (B4.out.mono hB)) hB4)).mono ?_
  rintro e w5 ⟨r2, rfl, hr2, hb5⟩
  obtain rfl : r1 = r2 := R1.out.det hr2
  have K5 := Lib.hid (K4.out.below hb5)
  have B5 := Lib.hid (B4.out.trans (hb5.mono z4))
  have z5 := B5.out.size
  have v5 : w4.heap.size + 1 ≤ w5.heap.size := by have := hb5.size; simpa using this
  have HX5 := Lib.hid (show RDv w5 w5.heap.size (filtDs x) [.int .i64 b0, .int .i64 b1, .string b2, .int .i64 b3, .int .i64 b4, .string b5, .slice B6 m6 p6, .slice B7 m7 p7, .slice B8 m8 p8] from HO3.out.upto (hb5.mono (by simp)) (by omega))
  clear hr2 hb5 g0 g1 g2 g3 g4 g5 g6 g7 g8 K4 B4 z4 HO3 R1
  have n0 : (r1 != r1) = false := by simp
  have n2 : decide (r1 = r1) = true := by simp
  go_wp2_with fail
  have K9 := Lib.hid (show Has _ w5.drew from K5.out.below (Below.refl _ _).drew)
  have HX9 := Lib.hid (HX.out.below ((B5.out.trans (Below.refl _ _).drew).mono hB))
  have HX8' := Lib.hid (show RDv w5.drew w5.drew.heap.size (filtDs x) [.int .i64 b0, .int .i64 b1, .string b2, .int .i64 b3, .int .i64 b4, .string b5, .slice B6 m6 p6, .slice B7 m7 p7, .slice B8 m8 p8] from HX5.out.below (Below.refl _ _).drew)
  have hBw : B ≤ w5.drew.heap.size := Nat.le_trans hB z5
  have kx0 := K9.out.head 0 rfl
  have kx1 := K9.out.head 1 rfl
  have kx2 := K9.out.head 2 rfl
  have kx3 := K9.out.head 3 rfl
  have kx4 := K9.out.head 4 rfl
  have kx5 := K9.out.head 5 rfl
  have kx6 := K9.out.head 6 rfl
  have kx7 := K9.out.head 7 rfl
  have kx8 := K9.out.head 8 rfl
  have ky0 := K9.out.tail.head 0 rfl
  have ky1 := K9.out.tail.head 1 rfl
  have ky2 := K9.out.tail.head 2 rfl
  have ky3 := K9.out.tail.head 3 rfl
  have ky4 := K9.out.tail.head 4 rfl
  have ky5 := K9.out.tail.head 5 rfl
  have ky6 := K9.out.tail.head 6 rfl
  have ky7 := K9.out.tail.head 7 rfl
  have ky8 := K9.out.tail.head 8 rfl
  go_region_held3 (fun w' => w'.cell? ⟨w4.heap.size, 0, none⟩ = some (.int .i64 b0) ∧ w'.cell? ⟨w4.heap.size, 1, none⟩ = some (.int .i64 b1) ∧ w'.cell? ⟨w4.heap.size, 2, none⟩ = some (.string b2) ∧ w'.cell? ⟨w4.heap.size, 3, none⟩ = some (.int .i64 b3) ∧ w'.cell? ⟨w4.heap.size, 4, none⟩ = some (.int .i64 b4) ∧ w'.cell? ⟨w4.heap.size, 5, none⟩ = some (.string b5) ∧ w'.cell? ⟨w4.heap.size, 6, none⟩ = some (.slice B6 m6 p6) ∧ w'.cell? ⟨w4.heap.size, 7, none⟩ = some (.slice B7 m7 p7) ∧ w'.cell? ⟨w4.heap.size, 8, none⟩ = some (.slice B8 m8 p8) ∧ w'.cell? ⟨w.heap.size, 0, none⟩ = some (.int .i64 a0) ∧ w'.cell? ⟨w.heap.size, 1, none⟩ = some (.int .i64 a1) ∧ w'.cell? ⟨w.heap.size, 2, none⟩ = some (.string a2) ∧ w'.cell? ⟨w.heap.size, 3, none⟩ = some (.int .i64 a3) ∧ w'.cell? ⟨w.heap.size, 4, none⟩ = some (.int .i64 a4) ∧ w'.cell? ⟨w.heap.size, 5, none⟩ = some (.string a5) ∧ w'.cell? ⟨w.heap.size, 6, none⟩ = some (.slice A6 n6 q6) ∧ w'.cell? ⟨w.heap.size, 7, none⟩ = some (.slice A7 n7 q7) ∧ w'.cell? ⟨w.heap.size, 8, none⟩ = some (.slice A8 n8 q8))
    (first | go_keep | exact ⟨K10.out.head 0 rfl, K10.out.head 1 rfl, K10.out.head 2 rfl, K10.out.head 3 rfl, K10.out.head 4 rfl, K10.out.head 5 rfl, K10.out.head 6 rfl, K10.out.head 7 rfl, K10.out.head 8 rfl, K10.out.tail.head 0 rfl, K10.out.tail.head 1 rfl, K10.out.tail.head 2 rfl, K10.out.tail.head 3 rfl, K10.out.tail.head 4 rfl, K10.out.tail.head 5 rfl, K10.out.tail.head 6 rfl, K10.out.tail.head 7 rfl, K10.out.tail.head 8 rfl⟩ | exact ⟨K11.out.head 0 rfl, K11.out.head 1 rfl, K11.out.head 2 rfl, K11.out.head 3 rfl, K11.out.head 4 rfl, K11.out.head 5 rfl, K11.out.head 6 rfl, K11.out.head 7 rfl, K11.out.head 8 rfl, K11.out.tail.head 0 rfl, K11.out.tail.head 1 rfl, K11.out.tail.head 2 rfl, K11.out.tail.head 3 rfl, K11.out.tail.head 4 rfl, K11.out.tail.head 5 rfl, K11.out.tail.head 6 rfl, K11.out.tail.head 7 rfl, K11.out.tail.head 8 rfl⟩)
    (first
      | (go_at_call 8; ((refine (toFilt_calls x [.int .i64 a0, .int .i64 a1, .string a2, .int .i64 a3, .int .i64 a4, .string a5, .slice A6 n6 q6, .slice A7 n7 q7, .slice A8 n8 q8] w5.drew B hBw HX9.out SX.out).mono ?_); rintro e w10 ⟨vs5, f5, rfl, hO5, hF5, hb10⟩; have K10 := Lib.hid (K9.out.below hb10)))
      | (go_at_call 10; ((refine (eqFilt_calls x [.int .i64 b0, .int .i64 b1, .string b2, .int .i64 b3, .int .i64 b4, .string b5, .slice B6 m6 p6, .slice B7 m7 p7, .slice B8 m8 p8] vs5 w10 w10.heap.size (Nat.le_refl _) (HX8'.out.upto hb10 hb10.size) hO5.rd').mono ?_); rintro e w11 ⟨rfl, hb11⟩; have K11 := Lib.hid (K10.out.below hb11))))
  have B11 := Lib.hid (B5.out.trans (((Below.refl _ _).drew.trans (hb10.trans (hb11.mono hb10.size))).mono z5))
  clear hO5 hF5 hb10 hb11 K5 K9 K10 B5 HX5 HX8' HX9 z5 hBw n0
  go_wp2
  go_ret
  exact PBool.yes trivial B11.out
end Go.Proofs.YtppfgepoegicgaaDoor
