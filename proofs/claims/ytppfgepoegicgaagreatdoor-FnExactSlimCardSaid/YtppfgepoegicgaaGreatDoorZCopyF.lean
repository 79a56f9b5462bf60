/- The reference's copy of a filter. -/
import Derived.Test.YtppfgepoegicgaaGreatDoorGy
import Derived.Test.YtppfgepoegicgaaGreatDoorGf
import Derived.Deep.DeepCutAuto
import Derived.Deep.RegionLaw
import Derived.Deep.RegionHeld3
namespace Go.Proofs.YtppfgepoegicgaaGreatDoor
open Go Go.RowKit

/-- What 'out := Filt with the tree copied' leaves. -/
def CutF (W1 wx : World) (kind n : Int) (s : ByteArray) (v : Val) (s3 : Value) : Prop :=
  ∃ g d0 d1 d2 D6 e6 g6 D7 e7 g7 fv, s3 = .pointer (some ⟨g, 0, none⟩) ∧ W1.heap.size ≤ g ∧ Blk wx g 35 [.int .i64 kind, .int .i64 n, .string s, .int .i64 d0, .int .i64 d1, .string d2, .slice D6 e6 g6, .slice D7 e7 g7, .slice none 0 0] ∧ ODv wx (valDs v) [.int .i64 d0, .int .i64 d1, .string d2, .slice D6 e6 g6, .slice D7 e7 g7] fv ∧ fv.Nodup ∧
    (∀ b ∈ fv, W1.heap.size ≤ b ∧ b < wx.heap.size ∧ b ≠ g) ∧ Below W1.heap.size W1 wx
section
variable {W1 w3 : World} {kind n : Int} {s : ByteArray} {v : Val} {d0 d1 : Int} {d2 : ByteArray} {D6 D7 : Option Addr} {e6 g6 e7 g7 : Nat} {fv : List Nat}
theorem cutF_new (hB : Below W1.heap.size W1 w3) (ho : ODv w3 (valDs v) [.int .i64 d0, .int .i64 d1, .string d2, .slice D6 e6 g6, .slice D7 e7 g7] fv) (hn : fv.Nodup) (hl : ∀ b ∈ fv, W1.heap.size ≤ b ∧ b < w3.heap.size) :
    CutF W1 (w3.alloc (.cells #[.int .i64 kind, .int .i64 n, .string s, .int .i64 d0, .int .i64 d1, .string d2, .slice D6 e6 g6, .slice D7 e7 g7, .slice none 0 0] 35)) kind n s v (.pointer (some ⟨w3.heap.size, 0, none⟩)) :=
  ⟨w3.heap.size, d0, d1, d2, D6, e6, g6, D7, e7, g7, fv, rfl, hB.size, Blk.new _ _ _, ODv.keep _ _ _ (fun b hb => Below.heap_alloc _ _ _ (hl b hb).2) ho, hn, fun b hb => by
    have := hl b hb
    simp
    omega, hB.alloc hB.size _⟩
theorem cutF_set {g : Nat} (hB : Below W1.heap.size W1 w3) (ho : ODv w3 (valDs v) [.int .i64 d0, .int .i64 d1, .string d2, .slice D6 e6 g6, .slice D7 e7 g7] fv) (hn : fv.Nodup) (hl : ∀ b ∈ fv, W1.heap.size ≤ b ∧ b < w3.heap.size ∧ b ≠ g)
    (hG : Blk w3 g 35 [.int .i64 0, .int .i64 0, .string ⟨#[]⟩, .int .i64 0, .int .i64 0, .string ⟨#[]⟩, .slice none 0 0, .slice none 0 0, .slice none 0 0]) (hg : W1.heap.size ≤ g) : CutF W1 (setAll w3 g 0 [.int .i64 kind, .int .i64 n, .string s, .int .i64 d0, .int .i64 d1, .string d2, .slice D6 e6 g6, .slice D7 e7 g7, .slice none 0 0]) kind n s v (.pointer (some ⟨g, 0, none⟩)) := by
  have hG2 := Blk.setAll [.int .i64 kind, .int .i64 n, .string s, .int .i64 d0, .int .i64 d1, .string d2, .slice D6 e6 g6, .slice D7 e7 g7, .slice none 0 0] (pre := []) (old := [.int .i64 0, .int .i64 0, .string ⟨#[]⟩, .int .i64 0, .int .i64 0, .string ⟨#[]⟩, .slice none 0 0, .slice none 0 0, .slice none 0 0]) (rest := []) rfl hG
  exact ⟨g, d0, d1, d2, D6, e6, g6, D7, e7, g7, fv, rfl, hg, hG2, ODv.keep _ _ _ (fun b hb => setAll_other _ _ _ _ _ (hl b hb).2.2) ho, hn, fun b hb => by
    have := hl b hb
    rw [setAll_size]
    omega, setAll_below _ hg hB⟩
end
set_option maxRecDepth 100000 in
set_option maxHeartbeats 8000000 in
theorem copyF_of (x : Filt) (ih : ∀ kind n s v kids, x = .mk kind n s v kids → ∀ y ∈ kids, CopyFilt 14 y) : CopyFilt 14 x := by
  intro us w B hB h hsm
  obtain ⟨kind, n, s, v, kids, a3, a4, a5, A6, n6, q6, A7, n7, q7, A8, q8, rfl, rfl, hs, hv, hk⟩ := filtDs_all h
  have IH := Lib.hid (ih _ _ _ _ _ rfl)
  simp only [filtDs, SmallDs] at hsm
  obtain ⟨hsv, hsk⟩ := smallDs_append.1 hsm.2.2.2
  have hkn : kids.length ≤ 1048576 := hsk.1.1
  have HSV := Lib.hid hsv
  have HSK := Lib.hid hsk.1.2
  have HV := Lib.hid hv
  have HK := Lib.hid hk
  clear ih h hsm hv hk hsv hsk
  obtain ⟨iF, hiF, zF0, zF1, zF2⟩ := info_parts' Tryz.info_Filt
  obtain ⟨W1, eW⟩ : ∃ W, W = (w.alloc (.cells #[.int .i64 kind, .int .i64 n, .string s, .int .i64 a3, .int .i64 a4, .string a5, .slice A6 n6 q6, .slice A7 n7 q7, .slice A8 kids.length q8] 35)).alloc (.cells #[.int .i64 0, .int .i64 0, .string ⟨#[]⟩, .int .i64 0, .int .i64 0, .string ⟨#[]⟩, .slice none 0 0, .slice none 0 0, .slice none 0 0] 35) := ⟨_, rfl⟩
  have hWs : W1.heap.size = w.heap.size + 1 + 1 := by rw [eW]; simp
  have hW : Below w.heap.size w W1 := by rw [eW]; exact below_box2 _ _ _
  have HbP := Lib.hid (show Blk W1 w.heap.size 35 [.int .i64 kind, .int .i64 n, .string s, .int .i64 a3, .int .i64 a4, .string a5, .slice A6 n6 q6, .slice A7 n7 q7, .slice A8 kids.length q8] by rw [eW]; exact (Blk.new _ _ _).alloc _)
  have HbR := Lib.hid (show Blk W1 (w.heap.size + 1) 35 [.int .i64 0, .int .i64 0, .string ⟨#[]⟩, .int .i64 0, .int .i64 0, .string ⟨#[]⟩, .slice none 0 0, .slice none 0 0, .slice none 0 0] by
    have := Blk.new (w.alloc (.cells #[.int .i64 kind, .int .i64 n, .string s, .int .i64 a3, .int .i64 a4, .string a5, .slice A6 n6 q6, .slice A7 n7 q7, .slice A8 kids.length q8] 35)) 35 [.int .i64 0, .int .i64 0, .string ⟨#[]⟩, .int .i64 0, .int .i64 0, .string ⟨#[]⟩, .slice none 0 0, .slice none 0 0, .slice none 0 0]
    rw [eW]
    simpa using this)
  have EW := Lib.hid eW
  have hz1 : w.heap.size + 1 + 1 ≤ W1.heap.size := by omega
  have HWs := Lib.hid hWs
  have HW := Lib.hid hW
  have K1 := Lib.hid (show Has [(w.heap.size, [.int .i64 kind, .int .i64 n, .string s, .int .i64 a3, .int .i64 a4, .string a5, .slice A6 n6 q6, .slice A7 n7 q7, .slice A8 kids.length q8])] W1 from Has.cons (by omega) (fun i u hu => (HbP.out.cell i).trans hu) (Has.nil _))
  have HX := Lib.hid (below_box W1 (.cells #[.int .i64 0, .int .i64 0, .string ⟨#[]⟩, .int .i64 0, .int .i64 0, .string ⟨#[]⟩, .slice none 0 0, .slice none 0 0, .slice none 0 0] 35))
  clear eW hWs hW
  have kD0 := Lib.hid (show W1.drew.cell? ⟨w.heap.size, 0, none⟩ = some (.int .i64 kind) from K1.out.head 0 rfl)
  have kA0 := fun o => Lib.hid (show (W1.alloc o).drew.cell? ⟨w.heap.size, 0, none⟩ = some (.int .i64 kind) from (K1.out.below (below_box W1 o)).head 0 rfl)
  have kD1 := Lib.hid (show W1.drew.cell? ⟨w.heap.size, 1, none⟩ = some (.int .i64 n) from K1.out.head 1 rfl)
  have kA1 := fun o => Lib.hid (show (W1.alloc o).drew.cell? ⟨w.heap.size, 1, none⟩ = some (.int .i64 n) from (K1.out.below (below_box W1 o)).head 1 rfl)
  have kD2 := Lib.hid (show W1.drew.cell? ⟨w.heap.size, 2, none⟩ = some (.string s) from K1.out.head 2 rfl)
  have kA2 := fun o => Lib.hid (show (W1.alloc o).drew.cell? ⟨w.heap.size, 2, none⟩ = some (.string s) from (K1.out.below (below_box W1 o)).head 2 rfl)
  have kD3 := Lib.hid (show W1.drew.cell? ⟨w.heap.size, 3, none⟩ = some (.int .i64 a3) from K1.out.head 3 rfl)
  have kA3 := fun o => Lib.hid (show (W1.alloc o).drew.cell? ⟨w.heap.size, 3, none⟩ = some (.int .i64 a3) from (K1.out.below (below_box W1 o)).head 3 rfl)
  have kD4 := Lib.hid (show W1.drew.cell? ⟨w.heap.size, 4, none⟩ = some (.int .i64 a4) from K1.out.head 4 rfl)
  have kA4 := fun o => Lib.hid (show (W1.alloc o).drew.cell? ⟨w.heap.size, 4, none⟩ = some (.int .i64 a4) from (K1.out.below (below_box W1 o)).head 4 rfl)
  have kD5 := Lib.hid (show W1.drew.cell? ⟨w.heap.size, 5, none⟩ = some (.string a5) from K1.out.head 5 rfl)
  have kA5 := fun o => Lib.hid (show (W1.alloc o).drew.cell? ⟨w.heap.size, 5, none⟩ = some (.string a5) from (K1.out.below (below_box W1 o)).head 5 rfl)
  have kD6 := Lib.hid (show W1.drew.cell? ⟨w.heap.size, 6, none⟩ = some (.slice A6 n6 q6) from K1.out.head 6 rfl)
  have kA6 := fun o => Lib.hid (show (W1.alloc o).drew.cell? ⟨w.heap.size, 6, none⟩ = some (.slice A6 n6 q6) from (K1.out.below (below_box W1 o)).head 6 rfl)
  have kD7 := Lib.hid (show W1.drew.cell? ⟨w.heap.size, 7, none⟩ = some (.slice A7 n7 q7) from K1.out.head 7 rfl)
  have kA7 := fun o => Lib.hid (show (W1.alloc o).drew.cell? ⟨w.heap.size, 7, none⟩ = some (.slice A7 n7 q7) from (K1.out.below (below_box W1 o)).head 7 rfl)
  go_enter Tryz.func14, Tryz.ntmps14
  go_upto_region 1 with fail
  rw [← EW.out]
  go_cut [3] (fun s3 wx => CutF W1 wx kind n s v s3)
  case first =>
    go_region_held3 (fun w' => w'.cell? ⟨w.heap.size, 0, none⟩ = some (.int .i64 kind) ∧ w'.cell? ⟨w.heap.size, 1, none⟩ = some (.int .i64 n) ∧ w'.cell? ⟨w.heap.size, 2, none⟩ = some (.string s) ∧ w'.cell? ⟨w.heap.size, 3, none⟩ = some (.int .i64 a3) ∧ w'.cell? ⟨w.heap.size, 4, none⟩ = some (.int .i64 a4) ∧ w'.cell? ⟨w.heap.size, 5, none⟩ = some (.string a5) ∧ w'.cell? ⟨w.heap.size, 6, none⟩ = some (.slice A6 n6 q6) ∧ w'.cell? ⟨w.heap.size, 7, none⟩ = some (.slice A7 n7 q7))
      (first | (with_reducible exact ⟨kD0.out, kD1.out, kD2.out, kD3.out, kD4.out, kD5.out, kD6.out, kD7.out⟩) | (with_reducible exact ⟨(kA0 _).out, (kA1 _).out, (kA2 _).out, (kA3 _).out, (kA4 _).out, (kA5 _).out, (kA6 _).out, (kA7 _).out⟩) | (with_reducible exact ⟨h30.out, h31.out, h32.out, h33.out, h34.out, h35.out, h36.out, h37.out⟩) | (with_reducible exact ⟨(h40 _).out, (h41 _).out, (h42 _).out, (h43 _).out, (h44 _).out, (h45 _).out, (h46 _).out, (h47 _).out⟩) | (with_reducible exact ⟨(h50 _ _ _ _ _ _ _ _ _).out, (h51 _ _ _ _ _ _ _ _ _).out, (h52 _ _ _ _ _ _ _ _ _).out, (h53 _ _ _ _ _ _ _ _ _).out, (h54 _ _ _ _ _ _ _ _ _).out, (h55 _ _ _ _ _ _ _ _ _).out, (h56 _ _ _ _ _ _ _ _ _).out, (h57 _ _ _ _ _ _ _ _ _).out⟩) | fail "keep")
      (first | (go_at_call 31; ((with_reducible change (Calls _ _ _ W1.drew _)); (refine (copy_calls v [_, _, _, _, _] W1.drew B (by have h1 := HW.out.size; exact Nat.le_trans hB h1) (HV.out.below (show Below B w W1.drew from (HW.out.mono hB).drew)) HSV.out).mono ?_)); rintro e w3 ⟨vs, fv, rfl, hO, hF, hb3⟩; obtain ⟨d0, d1, d2, D6, e6, g6, D7, e7, g7, rfl⟩ := valDs_shape hO.rd'; have HO3 := Lib.hid hO; have HF3 := Lib.hid hF; have HB3 := Lib.hid (show Below W1.heap.size W1 w3 from ⟨hb3.os, hb3.tape, hb3.output, hb3.size, hb3.block⟩); have K3 := Lib.hid (K1.out.below HB3.out); have K4 := fun o => (K3.out.below (below_box w3 o)); have h30 := Lib.hid (K3.out.head 0 rfl); have h40 := fun o => Lib.hid ((K4 o).head 0 rfl); have h31 := Lib.hid (K3.out.head 1 rfl); have h41 := fun o => Lib.hid ((K4 o).head 1 rfl); have h32 := Lib.hid (K3.out.head 2 rfl); have h42 := fun o => Lib.hid ((K4 o).head 2 rfl); have h33 := Lib.hid (K3.out.head 3 rfl); have h43 := fun o => Lib.hid ((K4 o).head 3 rfl); have h34 := Lib.hid (K3.out.head 4 rfl); have h44 := fun o => Lib.hid ((K4 o).head 4 rfl); have h35 := Lib.hid (K3.out.head 5 rfl); have h45 := fun o => Lib.hid ((K4 o).head 5 rfl); have h36 := Lib.hid (K3.out.head 6 rfl); have h46 := fun o => Lib.hid ((K4 o).head 6 rfl); have h37 := Lib.hid (K3.out.head 7 rfl); have h47 := fun o => Lib.hid ((K4 o).head 7 rfl); have tag1 : True := trivial; clear hO hF hb3 K4) | (go_at_call 31; ((with_reducible change (Calls _ _ _ (W1.alloc _).drew _)); (refine (copy_calls v [_, _, _, _, _] (W1.alloc (.cells #[.int .i64 0, .int .i64 0, .string ⟨#[]⟩, .int .i64 0, .int .i64 0, .string ⟨#[]⟩, .slice none 0 0, .slice none 0 0, .slice none 0 0] 35)).drew B (by have h1 := HW.out.size; have h2 := HX.out.size; exact Nat.le_trans hB (Nat.le_trans h1 h2)) (HV.out.below (show Below B w (W1.alloc (.cells #[.int .i64 0, .int .i64 0, .string ⟨#[]⟩, .int .i64 0, .int .i64 0, .string ⟨#[]⟩, .slice none 0 0, .slice none 0 0, .slice none 0 0] 35)).drew from ((HW.out.trans (HX.out.mono HW.out.size)).mono hB).drew)) HSV.out).mono ?_)); rintro e w3 ⟨vs, fv, rfl, hO, hF, hb3⟩; obtain ⟨d0, d1, d2, D6, e6, g6, D7, e7, g7, rfl⟩ := valDs_shape hO.rd'; have HO3 := Lib.hid hO; have HF3 := Lib.hid hF; have HB3 := Lib.hid (HX.out.trans (show Below W1.heap.size (W1.alloc (.cells #[.int .i64 0, .int .i64 0, .string ⟨#[]⟩, .int .i64 0, .int .i64 0, .string ⟨#[]⟩, .slice none 0 0, .slice none 0 0, .slice none 0 0] 35)) w3 from (⟨hb3.os, hb3.tape, hb3.output, hb3.size, hb3.block⟩ : Below (W1.alloc (.cells #[.int .i64 0, .int .i64 0, .string ⟨#[]⟩, .int .i64 0, .int .i64 0, .string ⟨#[]⟩, .slice none 0 0, .slice none 0 0, .slice none 0 0] 35)).heap.size (W1.alloc (.cells #[.int .i64 0, .int .i64 0, .string ⟨#[]⟩, .int .i64 0, .int .i64 0, .string ⟨#[]⟩, .slice none 0 0, .slice none 0 0, .slice none 0 0] 35)) w3).mono HX.out.size)); have K3 := Lib.hid (K1.out.below HB3.out); have K4 := fun o => (K3.out.below (below_box w3 o)); have h30 := Lib.hid (K3.out.head 0 rfl); have h40 := fun o => Lib.hid ((K4 o).head 0 rfl); have h31 := Lib.hid (K3.out.head 1 rfl); have h41 := fun o => Lib.hid ((K4 o).head 1 rfl); have h32 := Lib.hid (K3.out.head 2 rfl); have h42 := fun o => Lib.hid ((K4 o).head 2 rfl); have h33 := Lib.hid (K3.out.head 3 rfl); have h43 := fun o => Lib.hid ((K4 o).head 3 rfl); have h34 := Lib.hid (K3.out.head 4 rfl); have h44 := fun o => Lib.hid ((K4 o).head 4 rfl); have h35 := Lib.hid (K3.out.head 5 rfl); have h45 := fun o => Lib.hid ((K4 o).head 5 rfl); have h36 := Lib.hid (K3.out.head 6 rfl); have h46 := fun o => Lib.hid ((K4 o).head 6 rfl); have h37 := Lib.hid (K3.out.head 7 rfl); have h47 := fun o => Lib.hid ((K4 o).head 7 rfl); have G3 := Lib.hid ((Blk.new W1 35 [.int .i64 0, .int .i64 0, .string ⟨#[]⟩, .int .i64 0, .int .i64 0, .string ⟨#[]⟩, .slice none 0 0, .slice none 0 0, .slice none 0 0]).same (hb3.block W1.heap.size (by show W1.heap.size < _; simp))); have y0 : w3.cell? ⟨W1.heap.size, 0, none⟩ = some (.int .i64 0) := G3.out.cell 0; have fz0 := G3.out.frozen 0; have y1 : w3.cell? ⟨W1.heap.size, 1, none⟩ = some (.int .i64 0) := G3.out.cell 1; have fz1 := G3.out.frozen 1; have y2 : w3.cell? ⟨W1.heap.size, 2, none⟩ = some (.string ⟨#[]⟩) := G3.out.cell 2; have fz2 := G3.out.frozen 2; have y3 : w3.cell? ⟨W1.heap.size, 3, none⟩ = some (.int .i64 0) := G3.out.cell 3; have fz3 := G3.out.frozen 3; have y4 : w3.cell? ⟨W1.heap.size, 4, none⟩ = some (.int .i64 0) := G3.out.cell 4; have fz4 := G3.out.frozen 4; have y5 : w3.cell? ⟨W1.heap.size, 5, none⟩ = some (.string ⟨#[]⟩) := G3.out.cell 5; have fz5 := G3.out.frozen 5; have y6 : w3.cell? ⟨W1.heap.size, 6, none⟩ = some (.slice none 0 0) := G3.out.cell 6; have fz6 := G3.out.frozen 6; have y7 : w3.cell? ⟨W1.heap.size, 7, none⟩ = some (.slice none 0 0) := G3.out.cell 7; have fz7 := G3.out.frozen 7; have y8 : w3.cell? ⟨W1.heap.size, 8, none⟩ = some (.slice none 0 0) := G3.out.cell 8; have fz8 := G3.out.frozen 8; have h50 := fun u0 u1 u2 u3 u4 u5 u6 u7 u8 => Lib.hid (show (((((((((w3.setCell ⟨W1.heap.size, 0, none⟩ u0).setCell ⟨W1.heap.size, 1, none⟩ u1).setCell ⟨W1.heap.size, 2, none⟩ u2).setCell ⟨W1.heap.size, 3, none⟩ u3).setCell ⟨W1.heap.size, 4, none⟩ u4).setCell ⟨W1.heap.size, 5, none⟩ u5).setCell ⟨W1.heap.size, 6, none⟩ u6).setCell ⟨W1.heap.size, 7, none⟩ u7).setCell ⟨W1.heap.size, 8, none⟩ u8).cell? ⟨w.heap.size, 0, none⟩ = some (.int .i64 kind) from (K1.out.below (setAll_below (o := 0) [u0, u1, u2, u3, u4, u5, u6, u7, u8] (g := W1.heap.size) (Nat.le_refl _) HB3.out)).head 0 rfl); have h51 := fun u0 u1 u2 u3 u4 u5 u6 u7 u8 => Lib.hid (show (((((((((w3.setCell ⟨W1.heap.size, 0, none⟩ u0).setCell ⟨W1.heap.size, 1, none⟩ u1).setCell ⟨W1.heap.size, 2, none⟩ u2).setCell ⟨W1.heap.size, 3, none⟩ u3).setCell ⟨W1.heap.size, 4, none⟩ u4).setCell ⟨W1.heap.size, 5, none⟩ u5).setCell ⟨W1.heap.size, 6, none⟩ u6).setCell ⟨W1.heap.size, 7, none⟩ u7).setCell ⟨W1.heap.size, 8, none⟩ u8).cell? ⟨w.heap.size, 1, none⟩ = some (.int .i64 n) from (K1.out.below (setAll_below (o := 0) [u0, u1, u2, u3, u4, u5, u6, u7, u8] (g := W1.heap.size) (Nat.le_refl _) HB3.out)).head 1 rfl); have h52 := fun u0 u1 u2 u3 u4 u5 u6 u7 u8 => Lib.hid (show (((((((((w3.setCell ⟨W1.heap.size, 0, none⟩ u0).setCell ⟨W1.heap.size, 1, none⟩ u1).setCell ⟨W1.heap.size, 2, none⟩ u2).setCell ⟨W1.heap.size, 3, none⟩ u3).setCell ⟨W1.heap.size, 4, none⟩ u4).setCell ⟨W1.heap.size, 5, none⟩ u5).setCell ⟨W1.heap.size, 6, none⟩ u6).setCell ⟨W1.heap.size, 7, none⟩ u7).setCell ⟨W1.heap.size, 8, none⟩ u8).cell? ⟨w.heap.size, 2, none⟩ = some (.string s) from (K1.out.below (setAll_below (o := 0) [u0, u1, u2, u3, u4, u5, u6, u7, u8] (g := W1.heap.size) (Nat.le_refl _) HB3.out)).head 2 rfl); have h53 := fun u0 u1 u2 u3 u4 u5 u6 u7 u8 => Lib.hid (show (((((((((w3.setCell ⟨W1.heap.size, 0, none⟩ u0).setCell ⟨W1.heap.size, 1, none⟩ u1).setCell ⟨W1.heap.size, 2, none⟩ u2).setCell ⟨W1.heap.size, 3, none⟩ u3).setCell ⟨W1.heap.size, 4, none⟩ u4).setCell ⟨W1.heap.size, 5, none⟩ u5).setCell ⟨W1.heap.size, 6, none⟩ u6).setCell ⟨W1.heap.size, 7, none⟩ u7).setCell ⟨W1.heap.size, 8, none⟩ u8).cell? ⟨w.heap.size, 3, none⟩ = some (.int .i64 a3) from (K1.out.below (setAll_below (o := 0) [u0, u1, u2, u3, u4, u5, u6, u7, u8] (g := W1.heap.size) (Nat.le_refl _) HB3.out)).head 3 rfl); have h54 := fun u0 u1 u2 u3 u4 u5 u6 u7 u8 => Lib.hid (show (((((((((w3.setCell ⟨W1.heap.size, 0, none⟩ u0).setCell ⟨W1.heap.size, 1, none⟩ u1).setCell ⟨W1.heap.size, 2, none⟩ u2).setCell ⟨W1.heap.size, 3, none⟩ u3).setCell ⟨W1.heap.size, 4, none⟩ u4).setCell ⟨W1.heap.size, 5, none⟩ u5).setCell ⟨W1.heap.size, 6, none⟩ u6).setCell ⟨W1.heap.size, 7, none⟩ u7).setCell ⟨W1.heap.size, 8, none⟩ u8).cell? ⟨w.heap.size, 4, none⟩ = some (.int .i64 a4) from (K1.out.below (setAll_below (o := 0) [u0, u1, u2, u3, u4, u5, u6, u7, u8] (g := W1.heap.size) (Nat.le_refl _) HB3.out)).head 4 rfl); have h55 := fun u0 u1 u2 u3 u4 u5 u6 u7 u8 => Lib.hid (show (((((((((w3.setCell ⟨W1.heap.size, 0, none⟩ u0).setCell ⟨W1.heap.size, 1, none⟩ u1).setCell ⟨W1.heap.size, 2, none⟩ u2).setCell ⟨W1.heap.size, 3, none⟩ u3).setCell ⟨W1.heap.size, 4, none⟩ u4).setCell ⟨W1.heap.size, 5, none⟩ u5).setCell ⟨W1.heap.size, 6, none⟩ u6).setCell ⟨W1.heap.size, 7, none⟩ u7).setCell ⟨W1.heap.size, 8, none⟩ u8).cell? ⟨w.heap.size, 5, none⟩ = some (.string a5) from (K1.out.below (setAll_below (o := 0) [u0, u1, u2, u3, u4, u5, u6, u7, u8] (g := W1.heap.size) (Nat.le_refl _) HB3.out)).head 5 rfl); have h56 := fun u0 u1 u2 u3 u4 u5 u6 u7 u8 => Lib.hid (show (((((((((w3.setCell ⟨W1.heap.size, 0, none⟩ u0).setCell ⟨W1.heap.size, 1, none⟩ u1).setCell ⟨W1.heap.size, 2, none⟩ u2).setCell ⟨W1.heap.size, 3, none⟩ u3).setCell ⟨W1.heap.size, 4, none⟩ u4).setCell ⟨W1.heap.size, 5, none⟩ u5).setCell ⟨W1.heap.size, 6, none⟩ u6).setCell ⟨W1.heap.size, 7, none⟩ u7).setCell ⟨W1.heap.size, 8, none⟩ u8).cell? ⟨w.heap.size, 6, none⟩ = some (.slice A6 n6 q6) from (K1.out.below (setAll_below (o := 0) [u0, u1, u2, u3, u4, u5, u6, u7, u8] (g := W1.heap.size) (Nat.le_refl _) HB3.out)).head 6 rfl); have h57 := fun u0 u1 u2 u3 u4 u5 u6 u7 u8 => Lib.hid (show (((((((((w3.setCell ⟨W1.heap.size, 0, none⟩ u0).setCell ⟨W1.heap.size, 1, none⟩ u1).setCell ⟨W1.heap.size, 2, none⟩ u2).setCell ⟨W1.heap.size, 3, none⟩ u3).setCell ⟨W1.heap.size, 4, none⟩ u4).setCell ⟨W1.heap.size, 5, none⟩ u5).setCell ⟨W1.heap.size, 6, none⟩ u6).setCell ⟨W1.heap.size, 7, none⟩ u7).setCell ⟨W1.heap.size, 8, none⟩ u8).cell? ⟨w.heap.size, 7, none⟩ = some (.slice A7 n7 q7) from (K1.out.below (setAll_below (o := 0) [u0, u1, u2, u3, u4, u5, u6, u7, u8] (g := W1.heap.size) (Nat.le_refl _) HB3.out)).head 7 rfl); have tag2 : True := trivial; clear hO hF hb3 K4) | fail "no arm")
    all_goals (clear kA0 kD0 h30 h40 kA1 kD1 h31 h41 kA2 kD2 h32 h42 kA3 kD3 h33 h43 kA4 kD4 h34 h44 kA5 kD5 h35 h45 kA6 kD6 h36 h46 kA7 kD7 h37 h47)
    all_goals go_wp2_with fail
    all_goals go_meet
    · exact cutF_new HB3.out HO3.out HF3.out.1 (fun b hb => by have := HF3.out.2 b hb; simp at this; omega)
    · exact cutF_set HB3.out HO3.out HF3.out.1 (fun b hb => by have := HF3.out.2 b hb; simp at this; omega) G3.out (Nat.le_refl _)
  case rest =>
    obtain ⟨g, d0, d1, d2, D6, e6, g6, D7, e7, g7, fv, rfl, hg1, hG, hO3, hN3, hL3, hB3⟩ := hcut
    have HG := Lib.hid hG
    have HO3 := Lib.hid hO3
    have HN3 := Lib.hid hN3
    have HL3 := Lib.hid hL3
    have hz3 := hB3.size
    have hgl := hG.lt
    have hWS := hz1
    have HPc := Lib.hid (HbP.out.below hB3)
    have HRc := Lib.hid (HbR.out.below hB3)
    have HbW := Lib.hid (HW.out.trans (hB3.mono (by omega)))
    clear hG hO3 hN3 hL3 hB3 K1 HX kA0 kD0 kA1 kD1 kA2 kD2 kA3 kD3 kA4 kD4 kA5 kD5 kA6 kD6 kA7 kD7
    go_wp2
    go_loopw [4] (fun i w' => ∃ (k : Nat) (lv : Value), k ≤ kids.length ∧ i = .int .i64 k ∧ Hid (Blk w' g 35 [.int .i64 kind, .int .i64 n, .string s, .int .i64 d0, .int .i64 d1, .string d2, .slice D6 e6 g6, .slice D7 e7 g7, lv]) ∧ Hid (Acc g wc.heap.size 35 9 w' lv k (filtsDs (kids.take k))) ∧ Hid (Upd [g] wc w')) (fun i _ => kids.length - (intOf i).toNat)
    case atStart => exact ⟨0, _, by omega, rfl, HG.out, Acc.nil _ _ _ _ _, Upd.refl _ _⟩
    case round =>
      obtain ⟨k, lv, hk, rfl, HGr, HA, HU⟩ := hrel
      have hzr := HU.out.size
      have hbW : Below w.heap.size w wr := HbW.out.trans (HU.out.to_below (fun b hb => by rw [List.mem_singleton.1 hb]; omega) (by omega))
      have HPr := Lib.hid (HU.out.blk (by simp; omega) HPc.out)
      have HRr := Lib.hid (HU.out.blk (by simp; omega) HRc.out)
      have p4 : wr.cell? ⟨w.heap.size, 8, none⟩ = some (.slice A8 kids.length q8) := HPr.out.cell 8
      have g4 : wr.cell? ⟨g, 8, none⟩ = some lv := HGr.out.cell 8
      have fg4 := HGr.out.frozen 8
      by_cases hlt : k < kids.length
      · obtain ⟨ad, y, x0, x1, x2, x3, x4, x5, x6, x7, x8, rfl, hbl, hy, hm, hd, z0, z1, z2, z3, z4, z5, z6, z7, z8⟩ := row9_at (HK.out.upto (hbW.mono hB) (Nat.le_refl _)) rfl hlt
        have hBr : B ≤ wr.heap.size := by have := hbW.size; omega
        have j0 : (0 : Int) ≤ (k : Int) := by omega
        have j1 : (k : Int) < (kids.length : Int) := by omega
        have HA2 := Lib.hid (HA.out.below (show Below wr.heap.size wr wr.drew from (Below.refl _ _).drew))
        have HY := Lib.hid (hy.below (show Below B wr wr.drew from (Below.refl _ _).drew))
        obtain ⟨la, lm, lc, elv⟩ := HA.out.shape
        subst elv
        clear hy
        go_wp2
        go_region_law (first
          | (go_simp; go_at_call 14; refine (IH.out y hm [_, _, _, _, _, _, _, _, _] wr.drew B hBr HY.out (smallDs_mem_filt HSK.out hm)).mono ?_; rintro e w4 ⟨us4, f4, rfl, hO, hF, hb1⟩; obtain ⟨m0, m1, m2, m3, m4, m5, M6, l6, p6, M7, l7, p7, M8, l8, p8, rfl⟩ := filtDs_shape hO.rd'; have HF4 := Lib.hid hF; have HB4 := Lib.hid hb1; have HO4 := Lib.hid hO; clear hO hF hb1; have gg5 : w4.cell? ⟨g, 8, none⟩ = some (.slice la lm lc) := (HB4.out.cell (p := ⟨g, 8, none⟩) (by show g < wr.heap.size; omega)).trans g4; have gg6 := fun o => (World.cell?_alloc_lt w4 o ⟨g, 8, none⟩ (by show g < _; have := HB4.out.size; simp at this; omega)).trans gg5)
          | (refine step_append_acc (by rfl) _ _ 33 (by rfl) 35 iF _ 9 136 Tryz.underlying33 hiF zF0 zF1 zF2 (by rfl) (by decide) (by rfl) (by rfl) HA2.out HB4.out HO4.out HF4.out (by rfl) (by unfold maxLen; omega) (by omega) hzr (show g < wr.heap.size by omega) ?_; intro v5 w5 hA5 hB5 hz6; obtain ⟨A9, n9, c9, rfl⟩ := hA5.shape; have HA5 := Lib.hid hA5; have HB5 := Lib.hid hB5; have HG5 := Lib.hid ((HGr.out.same (show w4.heap[g]? = wr.heap[g]? from HB4.out.block g (by show g < wr.heap.size; omega))).same (hB5.block g (by omega))); clear hA5 hB5; have gg7 : w5.cell? ⟨g, 8, none⟩ = some (.slice la lm lc) := HG5.out.cell 8; have fg7 := HG5.out.frozen 8)
          | fail "no arm")
        all_goals
          have HG6 := Lib.hid (show Blk (w5.setCell ⟨g, 8, none⟩ (.slice A9 n9 c9)) g 35 [.int .i64 kind, .int .i64 n, .string s, .int .i64 d0, .int .i64 d1, .string d2, .slice D6 e6 g6, .slice D7 e7 g7, .slice A9 n9 c9] from HG5.out.set_ 8 _)
          have HA6 := Lib.hid (show Acc g wc.heap.size 35 9 (w5.setCell ⟨g, 8, none⟩ (.slice A9 n9 c9)) (.slice A9 n9 c9) (k + 1) (filtsDs (kids.take (k + 1))) by
            rw [take_of_drop hd.out, filtsDs_append, show filtsDs [y] = filtDs y by simp [filtsDs]]
            exact HA5.out.keep (by simp [World.setCell]) fun b h1 _ _ => Below.heap_setCell _ _ _ _ (by show b ≠ g; omega))
          have HU6 := Lib.hid (show Upd [g] wc (w5.setCell ⟨g, 8, none⟩ (.slice A9 n9 c9)) from ((HU.out.more ((show Below wc.heap.size wr wr.drew from (Below.refl _ _).drew).trans ((HB4.out.mono hzr).trans HB5.out))).trans (Upd.setCell _ (by simp) _)))
          clear HA5 HB5 HG5 HB4 HF4 HO4 HA HU HGr HA2 HY g4 fg4 gg7 fg7 p4 z0 z1 z2 z3 z4 z5 z6 z7 z8 hbW HPr HRr
          go_wp2
          go_roundw
          case rel => exact ⟨k + 1, _, by omega, by go_num, HG6, HA6, HU6⟩
          case measure => simp [intOf]; omega
      · obtain rfl : k = kids.length := by omega
        obtain ⟨f4, hO4, hF4⟩ := HA.out.done (w := wc) (Nat.le_refl _)
        rw [List.take_length] at hO4
        obtain ⟨A9, c9, n9, rfl⟩ := row_shape hO4.rd'
        have HO4 := Lib.hid hO4
        have HF4 := Lib.hid hF4
        obtain ⟨cG, fG⟩ := blk_rules HGr.out
        obtain ⟨cR, fR⟩ := blk_rules HRr.out
        have HbW2 := Lib.hid hbW
        clear hO4 hF4 HA hbW g4 fg4
        go_wp2
        refine bodyPost_ret (v := .agg #[.int .i64 kind, .int .i64 n, .string s, .int .i64 d0, .int .i64 d1, .string d2, .slice D6 e6 g6, .slice D7 e7 g7, .slice A9 n9 c9]) (by simp [results, Tryz.results14, go_sem, cR]) rfl ?_
        obtain ⟨W, eW2⟩ : ∃ W, W = (setAll wr (w.heap.size + 1) 0 [.int .i64 kind, .int .i64 n, .string s, .int .i64 d0, .int .i64 d1, .string d2, .slice D6 e6 g6, .slice D7 e7 g7, .slice A9 n9 c9]) := ⟨_, rfl⟩
        show ∃ vs fp, _ ∧ ODv (setAll wr (w.heap.size + 1) 0 [.int .i64 kind, .int .i64 n, .string s, .int .i64 d0, .int .i64 d1, .string d2, .slice D6 e6 g6, .slice D7 e7 g7, .slice A9 n9 c9]) _ vs fp ∧ Fresh w (setAll wr (w.heap.size + 1) 0 [.int .i64 kind, .int .i64 n, .string s, .int .i64 d0, .int .i64 d1, .string d2, .slice D6 e6 g6, .slice D7 e7 g7, .slice A9 n9 c9]) fp ∧ Below w.heap.size w (setAll wr (w.heap.size + 1) 0 [.int .i64 kind, .int .i64 n, .string s, .int .i64 d0, .int .i64 d1, .string d2, .slice D6 e6 g6, .slice D7 e7 g7, .slice A9 n9 c9])
        rw [← eW2]
        have hsz : W.heap.size = wr.heap.size := by rw [eW2, setAll_size]
        have hL3' := HL3.out
        have hO3' : ODv wr (valDs v) [.int .i64 d0, .int .i64 d1, .string d2, .slice D6 e6 g6, .slice D7 e7 g7] fv := ODv.keep _ _ _ (fun b hb => HU.out.block b (hL3' b hb).2.1 (by simp; exact (hL3' b hb).2.2)) HO3.out
        obtain ⟨k1, k2⟩ := filt_close (w := w) (w1 := wr) (W := W) (kind := kind) (n := n) (lo := W1.heap.size) hs hO3' HO4.out HN3.out (fun b hb => by have := hL3' b hb; omega) HF4.out.1 (fun b hb => by have := HF4.out.2 b hb; omega) (fun a ha b hb => by have := hL3' a ha; have := HF4.out.2 b hb; omega) (by omega) (by omega) (fun b h1 _ => by rw [eW2]; exact setAll_other _ _ _ _ _ (by omega))
        exact ⟨_, _, rfl, k1, k2, by rw [eW2]; exact setAll_below _ (by omega) HbW2.out⟩
theorem copyF_calls : ∀ x, CopyFilt 14 x := Filt.ind fun kind n s v kids ih => copyF_of _ fun _ _ _ _ _ e => by
  injection e with e1 e2 e3 e4 e5
  subst e5
  exact ih
end Go.Proofs.YtppfgepoegicgaaGreatDoor
