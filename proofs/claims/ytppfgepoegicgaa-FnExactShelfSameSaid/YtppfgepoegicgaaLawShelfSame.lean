import Derived.Test.YtppfgepoegicgaaShelfSz
import Derived.Test.YtppfgepoegicgaaShelfTo
import Derived.Test.YtppfgepoegicgaaShelfEq
import Derived.Test.YtppfgepoegicgaaSpecSameS
import Derived.Test.YtppfgepoegicgaaImplSame
import Derived.Deep.DrawnRows
namespace Go.Proofs.Ytppfgepoegicgaa
open Go Go.RowKit

attribute [local go_sem ↓] Go.wp_at_zero Go.wp_at_succ
set_option maxRecDepth 100000 in
set_option maxHeartbeats 4000000 in
theorem lawShelfSame (x y : Shelf) (ux uy : List Value) (w : World) (B : Nat) (hB : B ≤ w.heap.size) (hx : RDv w B (shelfDs x) ux) (hy : RDv w B (shelfDs y) uy) :
    Calls Try.prog 3 #[.agg ux.toArray, .agg uy.toArray] w (PBool True w) := by
  obtain ⟨A, c, rfl, _⟩ := shelfDs_open hx
  obtain ⟨A', c', rfl, _⟩ := shelfDs_open hy
  have HX := Lib.hid hx
  have HY := Lib.hid hy
  clear hx hy
  obtain ⟨l1, e1⟩ : ∃ l, l = szDs (shelfDs x) 1048576 := ⟨_, rfl⟩
  obtain ⟨l2, e2⟩ : ∃ l, l = szDs (shelfDs y) l1 := ⟨_, rfl⟩
  have E1 := Lib.hid e1
  have E2 := Lib.hid e2
  have r1 := szDs_range (shelfDs x) 1048576 (by omega)
  rw [← e1] at r1
  clear e1 e2
  have hbx := fun o1 o2 => below_box2 w o1 o2
  by_cases t1 : l1 < 0
  · go_enter Try.func3, Try.ntmps3
    go_wp2_with fail
    refine (szShelf_calls x [_] _ _ B (Nat.le_trans hB (hbx _ _).size) (HX.out.below ((hbx _ _).mono hB)) (by omega) (by omega)).mono ?_
    rintro e w1 ⟨rfl, hb1⟩
    rw [← E1.out]
    obtain ⟨hb, hz, bP, bR⟩ := boxes2 (P := [_]) (R := [_]) (boxes2_of hb1)
    clear hb1 bP bR
    go_wp2
    go_ret
    exact PBool.yes trivial hb
  have r2 := szDs_range (shelfDs y) l1 (by omega)
  rw [← E2.out] at r2
  by_cases t2 : l2 < 0
  · go_enter Try.func3, Try.ntmps3
    go_wp2_with fail
    refine (szShelf_calls x [_] _ _ B (Nat.le_trans hB (hbx _ _).size) (HX.out.below ((hbx _ _).mono hB)) (by omega) (by omega)).mono ?_
    rintro e w1 ⟨rfl, hb1⟩
    rw [← E1.out]
    obtain ⟨hb, hz, bP, bR⟩ := boxes2 (P := [_]) (R := [_]) (boxes2_of hb1)
    obtain ⟨cP, fP⟩ := blk_rules bP
    obtain ⟨cR, fR⟩ := blk_rules bR
    clear hb1 bP bR
    go_wp2_with fail
    refine (szShelf_calls y [_] _ _ B (by omega) (HY.out.below (hb.mono hB)) (by omega) (by omega)).mono ?_
    rintro e w2 ⟨rfl, hb2⟩
    rw [← E2.out]
    go_wp2
    go_ret
    exact PBool.yes trivial (hb.trans (hb2.mono (by omega)))
  have SX := Lib.hid (smalls_of_sz (shelfDs x) 1048576 (by omega) (by omega) (by rw [← E1.out]; omega))
  have SY := Lib.hid (smalls_of_sz (shelfDs y) l1 (by omega) (by omega) (by rw [← E2.out]; omega))
  go_enter Try.func3, Try.ntmps3
  go_wp2_with fail
  refine (szShelf_calls x [_] _ _ B (Nat.le_trans hB (hbx _ _).size) (HX.out.below ((hbx _ _).mono hB)) (by omega) (by omega)).mono ?_
  rintro e w1 ⟨rfl, hb1⟩
  rw [← E1.out]
  obtain ⟨hb, hz, bP, bR⟩ := boxes2 (P := [_]) (R := [_]) (boxes2_of hb1)
  obtain ⟨cP, fP⟩ := blk_rules bP
  obtain ⟨cR, fR⟩ := blk_rules bR
  have hb0 := boxes2_of hb1
  clear hb1 bP bR
  go_wp2_with fail
  refine (szShelf_calls y [_] _ _ B (by omega) (HY.out.below (hb.mono hB)) (by omega) (by omega)).mono ?_
  rintro e w2 ⟨rfl, hb2⟩
  rw [← E2.out]
  have hb02 := hb0.trans (hb2.mono hz)
  clear hb2 hb0 cP fP cR fR hb hz
  obtain ⟨hb, hz, bP, bR⟩ := boxes2 (P := [_]) (R := [_]) hb02
  obtain ⟨cP, fP⟩ := blk_rules bP
  obtain ⟨cR, fR⟩ := blk_rules bR
  clear bP bR
  go_wp2_with fail
  have K2 := Lib.hid (show Has [(w.heap.size, [.slice A x.askers.length c]), (w.heap.size + 1, [.slice A' y.askers.length c'])] w2.drew from
    Has.cons (Nat.lt_of_lt_of_le (by omega) (Nat.le_refl w2.heap.size)) (fun i u hu => (cP i).trans hu) (Has.cons (Nat.lt_of_lt_of_le (by omega) (Nat.le_refl w2.heap.size)) (fun i u hu => (cR i).trans hu) (Has.nil _)))
  have kx := K2.out.head 0 rfl
  have ky := K2.out.tail.head 0 rfl
  have D2 := Lib.hid (show Below w2.heap.size w2 w2.drew from (Below.refl _ _).drew)
  have HX2 := Lib.hid (HX.out.below ((hb.trans (D2.out.mono (by omega))).mono hB))
  have HY2 := Lib.hid (HY.out.below ((hb.trans (D2.out.mono (by omega))).mono hB))
  have hBw : B ≤ w2.drew.heap.size := Nat.le_trans (Nat.le_trans hB hb.size) (Nat.le_refl _)
  go_region_held3 (fun w' => w'.cell? ⟨w.heap.size, 0, none⟩ = some (.slice A x.askers.length c) ∧ w'.cell? ⟨w.heap.size + 1, 0, none⟩ = some (.slice A' y.askers.length c'))
    (first | go_keep | exact ⟨K3.out.head 0 rfl, K3.out.tail.head 0 rfl⟩ | exact ⟨K4.out.head 0 rfl, K4.out.tail.head 0 rfl⟩ | exact ⟨K5.out.head 0 rfl, K5.out.tail.head 0 rfl⟩)
    (first
      | (go_at_call 12; ((with_reducible refine (toShelf_calls x [.slice A x.askers.length c] w2.drew B hBw HX2.out SX.out).mono ?_); rintro e w3 ⟨vs1, f1, rfl, hO1, hF1, hb3⟩; have K3 := Lib.hid (K2.out.below hb3)))
      | (go_at_call 12; ((with_reducible refine (toShelf_calls y [.slice A' y.askers.length c'] w3 B (Nat.le_trans hBw hb3.size) (HY2.out.below (hb3.mono hBw)) SY.out).mono ?_); rintro e w4 ⟨vs2, f2, rfl, hO2, hF2, hb4⟩; have K4 := Lib.hid (K3.out.below hb4)))
      | (go_at_call 11; ((with_reducible refine (sShelfSame_calls x y vs1 vs2 w4 w4.heap.size (Nat.le_refl _) (hO1.rd'.upto hb4 hb4.size) hO2.rd').mono ?_); rintro e w5 ⟨r1, rfl, hr1, hb5⟩; have K5 := Lib.hid (K4.out.below hb5))))
  have B5 := Lib.hid (show Below w.heap.size w w5 from hb.trans ((D2.out.trans ((hb3.trans ((hb4.trans (hb5.mono hb4.size)).mono hb3.size)).mono D2.out.size)).mono (by omega)))
  have z5 := B5.out.size
  have R1 := Lib.hid hr1
  clear hr1 hO1 hO2 hF1 hF2 hb3 hb4 hb5 K2 K3 K4 HX2 HY2 D2 kx ky cP cR fP fR hb02 hz hb hBw
  have q5 := K5.out.head 0 rfl
  go_wp2_with fail
  -- x0
  refine (toShelf_calls x [.slice A x.askers.length c] _ B (by omega) (HX.out.below (B5.out.mono hB)) SX.out).mono ?_
  rintro e w6 ⟨vs3, f3, rfl, hO3, hF3, hb6⟩
  obtain ⟨A3, c3, rfl, _⟩ := shelfDs_open hO3.rd'
  have K6 := Lib.hid ((K5.out.below hb6).alloc [.slice A3 x.askers.length c3] 29)
  have B6 := Lib.hid ((B5.out.trans (hb6.mono z5)).trans ((below_box w6 (.cells #[.slice A3 x.askers.length c3] 29)).mono (by have := hb6.size; omega)))
  have HO3 := Lib.hid (hO3.rd'.below (below_box w6 (.cells #[.slice A3 x.askers.length c3] 29)))
  have z6 := B6.out.size
  have s6 := K6.out.lt
  have q6 := K6.out.head 0 rfl
  have p6 := K6.out.tail.tail.head 0 rfl
  clear hO3 hF3 hb6 q5 K5 B5 z5
  go_wp2_with fail
  -- y0
  refine (toShelf_calls y [.slice A' y.askers.length c'] _ B (Nat.le_trans hB z6) (HY.out.below (B6.out.mono hB)) SY.out).mono ?_
  rintro e w7 ⟨vs4, f4, rfl, hO4, hF4, hb7⟩
  obtain ⟨A4, c4, rfl, _⟩ := shelfDs_open hO4.rd'
  have K7 := Lib.hid ((K6.out.below hb7).alloc [.slice A4 y.askers.length c4] 29)
  have X7 := below_box w7 (.cells #[.slice A4 y.askers.length c4] 29)
  have B7 := Lib.hid ((B6.out.trans (hb7.mono z6)).trans (X7.mono (by have := hb7.size; omega)))
  have HO4 := Lib.hid (hO4.rd'.below X7)
  have HO3' := Lib.hid ((HO3.out.upto (hb7.mono (by simp)) (Nat.le_refl _)).below (X7.mono (by have := hb7.size; simp at this; omega)))
  have z7 := B7.out.size
  have s7 : w6.heap.size < w7.heap.size := Nat.lt_of_lt_of_le s6 hb7.size
  have q7 := K7.out.head 0 rfl
  have p7 := K7.out.tail.head 0 rfl
  clear hO4 hF4 hb7 q6 p6 K6 B6 z6 s6 HO3 X7
  go_wp2_with fail
  refine (iShelfSame_calls x y [_] [_] _ _ (Nat.le_refl _) (HO3'.out.upto (Below.refl _ _) (by simp; omega)) (HO4.out.upto (Below.refl _ _) (by simp))).mono ?_
  rintro e w8 ⟨r2, rfl, hr2, hb8⟩
  obtain rfl : r1 = r2 := Bool.eq_iff_iff.2 (R1.out.trans hr2.symm)
  have K8 := Lib.hid (K7.out.below hb8)
  have B8 := Lib.hid (B7.out.trans (hb8.mono z7))
  have z8 := B8.out.size
  have v8 : w7.heap.size + 1 ≤ w8.heap.size := by have := hb8.size; simpa using this
  have v7' : w7.heap.size ≤ w8.heap.size := by omega
  have HX8 := Lib.hid (show RDv w8 w8.heap.size (shelfDs x) [.slice A3 x.askers.length c3] from HO3'.out.upto (hb8.mono (by simp; omega)) (by omega))
  have HY8 := Lib.hid (show RDv w8 w8.heap.size (shelfDs y) [.slice A4 y.askers.length c4] from HO4.out.upto (hb8.mono (by simp)) v7')
  clear hr2 hb8 q7 p7 K7 B7 z7 HO3' HO4 R1
  have n0 : (r1 != r1) = false := by simp
  go_wp2_with fail
  have K9 := Lib.hid (show Has _ w8.drew from K8.out.below (Below.refl _ _).drew)
  have HX9 := Lib.hid (HX.out.below ((B8.out.trans (Below.refl _ _).drew).mono hB))
  have HX8' := Lib.hid (show RDv w8.drew w8.drew.heap.size (shelfDs x) [.slice A3 x.askers.length c3] from HX8.out.below (Below.refl _ _).drew)
  have hBw : B ≤ w8.drew.heap.size := Nat.le_trans hB z8
  have kx := K9.out.tail.head 0 rfl
  have ky := K9.out.tail.tail.head 0 rfl
  go_region_held3 (fun w' => w'.cell? ⟨w6.heap.size, 0, none⟩ = some (.slice A3 x.askers.length c3) ∧ w'.cell? ⟨w.heap.size, 0, none⟩ = some (.slice A x.askers.length c))
    (first | go_keep | exact ⟨K10.out.tail.head 0 rfl, K10.out.tail.tail.head 0 rfl⟩ | exact ⟨K11.out.tail.head 0 rfl, K11.out.tail.tail.head 0 rfl⟩)
    (first
      | (go_at_call 12; ((with_reducible refine (toShelf_calls x [.slice A x.askers.length c] w8.drew B hBw HX9.out SX.out).mono ?_); rintro e w10 ⟨vs5, f5, rfl, hO5, hF5, hb10⟩; have K10 := Lib.hid (K9.out.below hb10)))
      | (go_at_call 14; ((with_reducible refine (eqShelf_calls x [.slice A3 x.askers.length c3] vs5 w10 w10.heap.size (Nat.le_refl _) (HX8'.out.upto hb10 hb10.size) hO5.rd').mono ?_); rintro e w11 ⟨rfl, hb11⟩; have K11 := Lib.hid (K10.out.below hb11))))
  have B11 := Lib.hid (B8.out.trans (((Below.refl _ _).drew.trans (hb10.trans (hb11.mono hb10.size))).mono z8))
  have z11 := B11.out.size
  have v11 : w8.heap.size ≤ w11.heap.size := Nat.le_trans hb10.size hb11.size
  have HY11 := Lib.hid (show RDv w11 w8.heap.size (shelfDs y) [.slice A4 y.askers.length c4] from HY8.out.upto ((Below.refl _ _).drew.trans (hb10.trans (hb11.mono hb10.size))) (Nat.le_refl _))
  clear hO5 hF5 hb10 hb11 kx ky K8 K9 K10 B8 HX8 HY8 HX8' HX9 z8 hBw n0
  go_wp2_with fail
  have K12 := Lib.hid (show Has _ w11.drew from K11.out.below (Below.refl _ _).drew)
  have HY12 := Lib.hid (HY.out.below ((B11.out.trans (Below.refl _ _).drew).mono hB))
  have HY13 := Lib.hid (show RDv w11.drew w11.drew.heap.size (shelfDs y) [.slice A4 y.askers.length c4] from HY11.out.upto (Below.refl _ _).drew v11)
  have hBw : B ≤ w11.drew.heap.size := Nat.le_trans hB z11
  have kx := K12.out.head 0 rfl
  have ky := K12.out.tail.tail.tail.head 0 rfl
  go_region_held3 (fun w' => w'.cell? ⟨w7.heap.size, 0, none⟩ = some (.slice A4 y.askers.length c4) ∧ w'.cell? ⟨w.heap.size + 1, 0, none⟩ = some (.slice A' y.askers.length c'))
    (first | go_keep | exact ⟨K14.out.head 0 rfl, K14.out.tail.tail.tail.head 0 rfl⟩ | exact ⟨K15.out.head 0 rfl, K15.out.tail.tail.tail.head 0 rfl⟩)
    (first
      | (go_at_call 12; ((with_reducible refine (toShelf_calls y [.slice A' y.askers.length c'] w11.drew B hBw HY12.out SY.out).mono ?_); rintro e w14 ⟨vs6, f6, rfl, hO6, hF6, hb14⟩; have K14 := Lib.hid (K12.out.below hb14)))
      | (go_at_call 14; ((with_reducible refine (eqShelf_calls y [.slice A4 y.askers.length c4] vs6 w14 w14.heap.size (Nat.le_refl _) (HY13.out.upto hb14 hb14.size) hO6.rd').mono ?_); rintro e w15 ⟨rfl, hb15⟩; have K15 := Lib.hid (K14.out.below hb15))))
  have B15 := Lib.hid (B11.out.trans (((Below.refl _ _).drew.trans (hb14.trans (hb15.mono hb14.size))).mono z11))
  clear hO6 hF6 hb14 hb15 kx ky K11 K12 K14 B11 HY11 HY12 HY13
  go_wp2
  go_ret
  exact PBool.yes trivial B15.out
end Go.Proofs.Ytppfgepoegicgaa
