import Derived.Test.YtppfgepoegicgaaShelfSz
import Derived.Test.YtppfgepoegicgaaShelfTo
import Derived.Test.YtppfgepoegicgaaShelfEq
import Derived.Test.YtppfgepoegicgaaOkUsed
import Derived.Test.YtppfgepoegicgaaOkSz
import Derived.Deep.DrawnRows
namespace Go.Proofs.Ytppfgepoegicgaa
open Go Go.RowKit

set_option maxRecDepth 100000 in
set_option maxHeartbeats 4000000 in
theorem lawShelfUsed (x : Shelf) (s : ByteArray) (ux : List Value) (w : World) (B : Nat) (hB : B ≤ w.heap.size) (hx : RDv w B (shelfDs x) ux) (hs : s.size ≤ 9223372036854775807) :
    Calls Try.prog 5 #[.agg ux.toArray, .string s] w (PBool True w) := by
  obtain ⟨A, c, rfl, _⟩ := shelfDs_open hx
  have HX := Lib.hid hx
  clear hx
  obtain ⟨l1, e1⟩ : ∃ l, l = szDs (shelfDs x) 1048576 := ⟨_, rfl⟩
  have E1 := Lib.hid e1
  have r1 := szDs_range (shelfDs x) 1048576 (by omega)
  rw [← e1] at r1
  clear e1
  have hbx := fun o1 => below_box w o1
  by_cases t0 : (1048576 : Int) < (s.size : Int)
  · go_enter Try.func5, Try.ntmps5
    go_wp2
    go_ret
    exact PBool.yes trivial (hbx _)
  by_cases t1 : l1 < 0
  · go_enter Try.func5, Try.ntmps5
    go_wp2_with fail
    refine (szShelf_calls x [_] _ _ B (Nat.le_trans hB (hbx _).size) (HX.out.below ((hbx _).mono hB)) (by omega) (by omega)).mono ?_
    rintro e w1 ⟨rfl, hb1⟩
    rw [← E1.out]
    obtain ⟨hb, hz, bP⟩ := boxes1 (P := [_]) (boxes1_of hb1)
    clear hb1 bP
    go_wp2
    go_ret
    exact PBool.yes trivial hb
  have SX := Lib.hid (smalls_of_sz (shelfDs x) 1048576 (by omega) (by omega) (by rw [← E1.out]; omega))
  have CX := Lib.hid (shelf_of_sz x 1048576 (by omega) (by omega) (by rw [← E1.out]; omega))
  go_enter Try.func5, Try.ntmps5
  go_wp2_with fail
  refine (szShelf_calls x [_] _ _ B (Nat.le_trans hB (hbx _).size) (HX.out.below ((hbx _).mono hB)) (by omega) (by omega)).mono ?_
  rintro e w1 ⟨rfl, hb1⟩
  rw [← E1.out]
  obtain ⟨hb, hz, bP⟩ := boxes1 (P := [_]) (boxes1_of hb1)
  have K1 := Lib.hid (show Has [(w.heap.size, [.slice A x.askers.length c])] w1 from
    Has.cons (Nat.lt_of_lt_of_le (by omega) (Nat.le_refl w1.heap.size)) (fun i u hu => (bP.cell i).trans hu) (Has.nil _))
  have B1 := Lib.hid hb
  have z1 := B1.out.size
  have q1 := K1.out.head 0 rfl
  clear hb1 bP hbx hb hz
  go_wp2_with fail
  -- the specification's argument
  refine (toShelf_calls x [.slice A x.askers.length c] _ B (Nat.le_trans hB z1) (HX.out.below (B1.out.mono hB)) SX.out).mono ?_
  rintro e w2 ⟨vs1, f1, rfl, hO1, hF1, hb2⟩
  have K2 := Lib.hid (K1.out.below hb2)
  have B2 := Lib.hid (B1.out.trans (hb2.mono z1))
  have z2 := B2.out.size
  have HO1 := Lib.hid hO1.rd'
  clear hO1 hF1 hb2 q1 K1 B1 z1
  go_wp2_with fail
  refine (sUsedOf_calls x vs1 s w2 w2.heap.size (Nat.le_refl _) HO1.out CX.out).mono ?_
  rintro e w3 ⟨r1, rfl, hr1, hb3⟩
  have R1 := Lib.hid hr1
  have K3 := Lib.hid (K2.out.below hb3)
  have B3 := Lib.hid (B2.out.trans (hb3.mono z2))
  have z3 := B3.out.size
  have q3 := K3.out.head 0 rfl
  clear hr1 hb3 K2 B2 z2 HO1
  go_wp2_with fail
  -- x0
  refine (toShelf_calls x [.slice A x.askers.length c] _ B (Nat.le_trans hB z3) (HX.out.below (B3.out.mono hB)) SX.out).mono ?_
  rintro e w4 ⟨vs3, f3, rfl, hO3, hF3, hb4⟩
  obtain ⟨A3, c3, rfl, _⟩ := shelfDs_open hO3.rd'
  have K4 := Lib.hid ((K3.out.below hb4).alloc [.slice A3 x.askers.length c3] 29)
  have X4 := below_box w4 (.cells #[.slice A3 x.askers.length c3] 29)
  have B4 := Lib.hid ((B3.out.trans (hb4.mono z3)).trans (X4.mono (by have := hb4.size; omega)))
  have HO3 := Lib.hid (hO3.rd'.below X4)
  have z4 := B4.out.size
  have s4 := K4.out.lt
  have q4 := K4.out.head 0 rfl
  clear hO3 hF3 hb4 q3 K3 B3 z3 X4
  go_wp2_with fail
  refine (iUsedOf_calls x [_] s _ _ (Nat.le_refl _) (HO3.out.upto (Below.refl _ _) (by simp))).mono ?_
  rintro e w5 ⟨r2, rfl, hr2, hb5⟩
  obtain rfl : r1 = r2 := R1.out.det hr2
  have K5 := Lib.hid (K4.out.below hb5)
  have B5 := Lib.hid (B4.out.trans (hb5.mono z4))
  have z5 := B5.out.size
  have v5 : w4.heap.size + 1 ≤ w5.heap.size := by have := hb5.size; simpa using this
  have HX5 := Lib.hid (show RDv w5 w5.heap.size (shelfDs x) [.slice A3 x.askers.length c3] from HO3.out.upto (hb5.mono (by simp)) (by omega))
  clear hr2 hb5 q4 K4 B4 z4 HO3 R1
  have n0 : (r1 != r1) = false := by simp
  go_wp2_with fail
  have K9 := Lib.hid (show Has _ w5.drew from K5.out.below (Below.refl _ _).drew)
  have HX9 := Lib.hid (HX.out.below ((B5.out.trans (Below.refl _ _).drew).mono hB))
  have HX8' := Lib.hid (show RDv w5.drew w5.drew.heap.size (shelfDs x) [.slice A3 x.askers.length c3] from HX5.out.below (Below.refl _ _).drew)
  have hBw : B ≤ w5.drew.heap.size := Nat.le_trans hB z5
  have kx := K9.out.head 0 rfl
  have ky := K9.out.tail.head 0 rfl
  go_region_held3 (fun w' => w'.cell? ⟨w4.heap.size, 0, none⟩ = some (.slice A3 x.askers.length c3) ∧ w'.cell? ⟨w.heap.size, 0, none⟩ = some (.slice A x.askers.length c))
    (first | go_keep | exact ⟨K10.out.head 0 rfl, K10.out.tail.head 0 rfl⟩ | exact ⟨K11.out.head 0 rfl, K11.out.tail.head 0 rfl⟩)
    (first
      | (go_at_call 12; ((with_reducible refine (toShelf_calls x [.slice A x.askers.length c] w5.drew B hBw HX9.out SX.out).mono ?_); rintro e w10 ⟨vs5, f5, rfl, hO5, hF5, hb10⟩; have K10 := Lib.hid (K9.out.below hb10)))
      | (go_at_call 14; ((with_reducible refine (eqShelf_calls x [.slice A3 x.askers.length c3] vs5 w10 w10.heap.size (Nat.le_refl _) (HX8'.out.upto hb10 hb10.size) hO5.rd').mono ?_); rintro e w11 ⟨rfl, hb11⟩; have K11 := Lib.hid (K10.out.below hb11))))
  have B11 := Lib.hid (B5.out.trans (((Below.refl _ _).drew.trans (hb10.trans (hb11.mono hb10.size))).mono z5))
  clear hO5 hF5 hb10 hb11 kx ky K5 K9 K10 B5 HX5 HX8' HX9 z5 hBw n0
  go_wp2
  go_ret
  exact PBool.yes trivial B11.out
end Go.Proofs.Ytppfgepoegicgaa
