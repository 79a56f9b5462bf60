/- The reference's copy of a tree reads as the tree does, in blocks that were made by the call. -/
import Derived.Test.YtppfgepoegicgaaGreatDoorGf
import Derived.Deep.DeepCutAuto
import Derived.Deep.RegionLaw
namespace Go.Proofs.YtppfgepoegicgaaGreatDoor
open Go Go.RowKit

/-- What the reference's 'out := Val with the texts copied' leaves. -/
def CutV (W1 wx : World) (kind n : Int) (s : ByteArray) (keys : List ByteArray) (s3 : Value) : Prop :=
  ∃ g A m c f3, s3 = .pointer (some ⟨g, 0, none⟩) ∧ W1.heap.size ≤ g ∧ Blk wx g 32 [.int .i64 kind, .int .i64 n, .string s, .slice A m c, .slice none 0 0] ∧ OD wx (.row 1 keys.length (strDs keys)) (.slice A m c) f3 ∧ f3.Nodup ∧
    (∀ b ∈ f3, W1.heap.size ≤ b ∧ b < wx.heap.size ∧ b ≠ g) ∧ Below W1.heap.size W1 wx
theorem cutV_new {W1 w3 : World} {kind n : Int} {s : ByteArray} {keys : List ByteArray} {A : Option Addr} {m c : Nat} {f3 : List Nat} (hB : Below W1.heap.size W1 w3) (ho : OD w3 (.row 1 keys.length (strDs keys)) (.slice A m c) f3) (hn : f3.Nodup) (hl : ∀ b ∈ f3, W1.heap.size ≤ b ∧ b < w3.heap.size) :
    CutV W1 (w3.alloc (.cells #[.int .i64 kind, .int .i64 n, .string s, .slice A m c, .slice none 0 0] 32)) kind n s keys (.pointer (some ⟨w3.heap.size, 0, none⟩)) :=
  ⟨w3.heap.size, A, m, c, f3, rfl, hB.size, Blk.new _ _ _, OD.keep _ _ _ (fun b hb => Below.heap_alloc _ _ _ (hl b hb).2) ho, hn, fun b hb => by
    have := hl b hb
    simp
    omega, hB.alloc hB.size _⟩
theorem cutV_set {W1 w3 : World} {kind n : Int} {s : ByteArray} {keys : List ByteArray} {A : Option Addr} {m c g : Nat} {f3 : List Nat} (hB : Below W1.heap.size W1 w3) (ho : OD w3 (.row 1 keys.length (strDs keys)) (.slice A m c) f3) (hn : f3.Nodup) (hl : ∀ b ∈ f3, W1.heap.size ≤ b ∧ b < w3.heap.size ∧ b ≠ g)
    (hG : Blk w3 g 32 [.int .i64 0, .int .i64 0, .string ⟨#[]⟩, .slice none 0 0, .slice none 0 0]) (hg : W1.heap.size ≤ g) :
    CutV W1 (setAll w3 g 0 [.int .i64 kind, .int .i64 n, .string s, .slice A m c, .slice none 0 0]) kind n s keys (.pointer (some ⟨g, 0, none⟩)) := by
  have hG2 := Blk.setAll [.int .i64 kind, .int .i64 n, .string s, .slice A m c, .slice none 0 0] (pre := []) (old := [.int .i64 0, .int .i64 0, .string ⟨#[]⟩, .slice none 0 0, .slice none 0 0]) (rest := []) rfl hG
  exact ⟨g, A, m, c, f3, rfl, hg, hG2, OD.keep _ _ _ (fun b hb => setAll_other _ _ _ _ _ (hl b hb).2.2) ho, hn, fun b hb => by
    have := hl b hb
    rw [setAll_size]
    omega, setAll_below _ hg hB⟩
/-- The row of a copy is one's own, and can grow. -/
def CopyRow (w w' : World) (v : Val) (vs : List Value) : Prop :=
  ∃ x kind n s A3 m3 c3 A4 n4 c4 l, vs = [.int .i64 kind, .int .i64 n, .string s, .slice A3 m3 c3, .slice A4 n4 c4] ∧ (∃ keys, v = .mk kind n s keys l) ∧ Acc x w.heap.size 32 5 w' (.slice A4 n4 c4) l.length (valsDs l)
def CopyVal2 (f : Nat) (v : Val) : Prop := ∀ (us : List Value) (w : World) (B : Nat), B ≤ w.heap.size → RDv w B (valDs v) us → SmallDs (valDs v) →
  Calls Tryz.prog f #[.agg us.toArray] w fun e w' => ∃ vs fp, e = .returned (.agg vs.toArray) ∧ ODv w' (valDs v) vs fp ∧ Fresh w w' fp ∧ Below w.heap.size w w' ∧ CopyRow w w' v vs
set_option maxRecDepth 100000 in
set_option maxHeartbeats 8000000 in
theorem copy_of (v : Val) (ih : ∀ kind n s keys list, v = .mk kind n s keys list → ∀ x ∈ list, CopyVal 31 x) : CopyVal2 31 v := by
  intro us w B hB h hsm
  obtain ⟨kind, n, s, keys, list, A1, c1, A2, c2, rfl, rfl, hs, hk, hl⟩ := valDs_open h
  have IH := Lib.hid (ih _ _ _ _ _ rfl)
  simp only [valDs, SmallDs] at hsm
  have hkn : keys.length ≤ 1048576 := hsm.2.2.2.1.1
  have hln : list.length ≤ 1048576 := hsm.2.2.2.2.1.1
  have HS2 := Lib.hid hsm.2.2.2.2.1.2
  have HK := Lib.hid hk
  have HL := Lib.hid hl
  clear ih h hsm hk hl
  obtain ⟨iS, hiS, zS0, zS1, zS2⟩ := info_parts' Tryz.info_string
  obtain ⟨W1, eW⟩ : ∃ W, W = (w.alloc (.cells #[.int .i64 kind, .int .i64 n, .string s, .slice A1 keys.length c1, .slice A2 list.length c2] 32)).alloc (.cells #[.int .i64 0, .int .i64 0, .string ⟨#[]⟩, .slice none 0 0, .slice none 0 0] 32) := ⟨_, rfl⟩
  have hWs : W1.heap.size = w.heap.size + 1 + 1 := by rw [eW]; simp
  have hW : Below w.heap.size w W1 := by rw [eW]; exact below_box2 _ _ _
  have bP : Blk W1 w.heap.size 32 [.int .i64 kind, .int .i64 n, .string s, .slice A1 keys.length c1, .slice A2 list.length c2] := by rw [eW]; exact (Blk.new _ _ _).alloc _
  have bR : Blk W1 (w.heap.size + 1) 32 [.int .i64 0, .int .i64 0, .string ⟨#[]⟩, .slice none 0 0, .slice none 0 0] := by
    have := Blk.new (w.alloc (.cells #[.int .i64 kind, .int .i64 n, .string s, .slice A1 keys.length c1, .slice A2 list.length c2] 32)) 32 [.int .i64 0, .int .i64 0, .string ⟨#[]⟩, .slice none 0 0, .slice none 0 0]
    rw [eW]
    simpa using this
  obtain ⟨A1', c1', us1, e1, hkc, hk63, hrd, hrv⟩ := HK.out
  injection e1 with e1 _ e3
  subst e1 e3
  have ON := Lib.hid (RDv.one _ _ hrv)
  have HSD := Lib.hid (fun w' => strDs_own hrv w')
  have RK := Lib.hid (fun (X : World) (h : Below W1.heap.size W1 X) => hrd.keep (fun p hp => (h.cell (p := p) (by omega)).trans (hW.cell (p := p) (by omega))))
  -- the three orders: where the empty row, and the new struct, lie
  have bX1 : Below W1.heap.size W1 (W1.alloc (.cells #[] 9)).drew := (below_box W1 _).drew
  have bX2 : Below W1.heap.size W1 ((W1.alloc (.cells #[] 9)).alloc (.cells #[.int .i64 0, .int .i64 0, .string ⟨#[]⟩, .slice none 0 0, .slice none 0 0] 32)).drew := (below_box2 W1 _ _).drew
  have bX3 : Below W1.heap.size W1 ((W1.alloc (.cells #[.int .i64 0, .int .i64 0, .string ⟨#[]⟩, .slice none 0 0, .slice none 0 0] 32)).alloc (.cells #[] 9)).drew := (below_box2 W1 _ _).drew
  have o1 : (W1.alloc (.cells #[] 9)).drew.ownsRow W1.heap.size 9 1 (.slice (some ⟨W1.heap.size, 0, none⟩) 0 0) 0 [] := World.ownsRow_made (e := 9) (size := 1) W1 #[] 0 (Nat.le_refl _) (by unfold maxLen; omega) (by simp)
  have o2 : ((W1.alloc (.cells #[] 9)).alloc (.cells #[.int .i64 0, .int .i64 0, .string ⟨#[]⟩, .slice none 0 0, .slice none 0 0] 32)).drew.ownsRow W1.heap.size 9 1 (.slice (some ⟨W1.heap.size, 0, none⟩) 0 0) 0 [] := (show (W1.alloc (.cells #[] 9)).ownsRow W1.heap.size 9 1 (.slice (some ⟨W1.heap.size, 0, none⟩) 0 0) 0 [] from o1).alloc _
  have o3 : ((W1.alloc (.cells #[.int .i64 0, .int .i64 0, .string ⟨#[]⟩, .slice none 0 0, .slice none 0 0] 32)).alloc (.cells #[] 9)).drew.ownsRow W1.heap.size 9 1 (.slice (some ⟨W1.heap.size + 1, 0, none⟩) 0 0) 0 [] := by
    have := World.ownsRow_made (e := 9) (size := 1) (base := W1.heap.size) (W1.alloc (.cells #[.int .i64 0, .int .i64 0, .string ⟨#[]⟩, .slice none 0 0, .slice none 0 0] 32)) #[] 0 (by simp) (by unfold maxLen; omega) (by simp)
    rw [show (W1.alloc (.cells #[.int .i64 0, .int .i64 0, .string ⟨#[]⟩, .slice none 0 0, .slice none 0 0] 32)).heap.size = W1.heap.size + 1 by simp] at this
    exact this
  have q2 : Blk ((W1.alloc (.cells #[] 9)).alloc (.cells #[.int .i64 0, .int .i64 0, .string ⟨#[]⟩, .slice none 0 0, .slice none 0 0] 32)).drew (W1.heap.size + 1) 32 [.int .i64 0, .int .i64 0, .string ⟨#[]⟩, .slice none 0 0, .slice none 0 0] := by
    have := Blk.new (W1.alloc (.cells #[] 9)) 32 [.int .i64 0, .int .i64 0, .string ⟨#[]⟩, .slice none 0 0, .slice none 0 0]
    rw [show (W1.alloc (.cells #[] 9)).heap.size = W1.heap.size + 1 by simp] at this
    exact this
  have q3 : Blk ((W1.alloc (.cells #[.int .i64 0, .int .i64 0, .string ⟨#[]⟩, .slice none 0 0, .slice none 0 0] 32)).alloc (.cells #[] 9)).drew W1.heap.size 32 [.int .i64 0, .int .i64 0, .string ⟨#[]⟩, .slice none 0 0, .slice none 0 0] := (Blk.new W1 _ _).alloc _
  have BX1 := Lib.hid bX1
  have BX2 := Lib.hid bX2
  have BX3 := Lib.hid bX3
  have O1 := Lib.hid o1
  have O2 := Lib.hid o2
  have O3 := Lib.hid o3
  have Q2 := Lib.hid q2
  have Q3 := Lib.hid q3
  have EW := Lib.hid eW
  have HWs := Lib.hid hWs
  have K1 := Lib.hid (show Has [(w.heap.size, [.int .i64 kind, .int .i64 n, .string s, .slice A1 keys.length c1, .slice A2 list.length c2])] W1 from
    Has.cons (by omega) (fun i u hu => (bP.cell i).trans hu) (Has.nil _))
  have HbP := Lib.hid bP
  have HbR := Lib.hid bR
  clear eW bP bR hWs hrd hrv bX1 bX2 bX3 o1 o2 o3 q2 q3
  obtain ⟨iV, hiV, zV0, zV1, zV2⟩ := info_parts' Tryz.info_Val
  have kD0 := Lib.hid (show W1.drew.cell? ⟨w.heap.size, 0, none⟩ = some (.int .i64 kind) from K1.out.head 0 rfl)
  have kA0 := fun o => Lib.hid (show (W1.alloc o).drew.cell? ⟨w.heap.size, 0, none⟩ = some (.int .i64 kind) from (K1.out.below (below_box W1 o)).head 0 rfl)
  have kB0 := fun o o' => Lib.hid (show ((W1.alloc o).alloc o').drew.cell? ⟨w.heap.size, 0, none⟩ = some (.int .i64 kind) from (K1.out.below (below_box2 W1 o o')).head 0 rfl)
  have kD1 := Lib.hid (show W1.drew.cell? ⟨w.heap.size, 1, none⟩ = some (.int .i64 n) from K1.out.head 1 rfl)
  have kA1 := fun o => Lib.hid (show (W1.alloc o).drew.cell? ⟨w.heap.size, 1, none⟩ = some (.int .i64 n) from (K1.out.below (below_box W1 o)).head 1 rfl)
  have kB1 := fun o o' => Lib.hid (show ((W1.alloc o).alloc o').drew.cell? ⟨w.heap.size, 1, none⟩ = some (.int .i64 n) from (K1.out.below (below_box2 W1 o o')).head 1 rfl)
  have kD2 := Lib.hid (show W1.drew.cell? ⟨w.heap.size, 2, none⟩ = some (.string s) from K1.out.head 2 rfl)
  have kA2 := fun o => Lib.hid (show (W1.alloc o).drew.cell? ⟨w.heap.size, 2, none⟩ = some (.string s) from (K1.out.below (below_box W1 o)).head 2 rfl)
  have kB2 := fun o o' => Lib.hid (show ((W1.alloc o).alloc o').drew.cell? ⟨w.heap.size, 2, none⟩ = some (.string s) from (K1.out.below (below_box2 W1 o o')).head 2 rfl)
  have kD3 := Lib.hid (show W1.drew.cell? ⟨w.heap.size, 3, none⟩ = some (.slice A1 keys.length c1) from K1.out.head 3 rfl)
  have kA3 := fun o => Lib.hid (show (W1.alloc o).drew.cell? ⟨w.heap.size, 3, none⟩ = some (.slice A1 keys.length c1) from (K1.out.below (below_box W1 o)).head 3 rfl)
  have kB3 := fun o o' => Lib.hid (show ((W1.alloc o).alloc o').drew.cell? ⟨w.heap.size, 3, none⟩ = some (.slice A1 keys.length c1) from (K1.out.below (below_box2 W1 o o')).head 3 rfl)
  go_enter Tryz.func31, Tryz.ntmps31
  go_upto_region 1 with fail
  rw [← EW.out]
  go_cut [3] (fun s3 wx => CutV W1 wx kind n s keys s3)
  case first =>
    go_region_held3 (fun w' => w'.cell? ⟨w.heap.size, 0, none⟩ = some (.int .i64 kind) ∧ w'.cell? ⟨w.heap.size, 1, none⟩ = some (.int .i64 n) ∧ w'.cell? ⟨w.heap.size, 2, none⟩ = some (.string s) ∧ w'.cell? ⟨w.heap.size, 3, none⟩ = some (.slice A1 keys.length c1))
      (first | (with_reducible exact ⟨kD0.out, kD1.out, kD2.out, kD3.out⟩) | (with_reducible exact ⟨(kA0 _).out, (kA1 _).out, (kA2 _).out, (kA3 _).out⟩) | (with_reducible exact ⟨(kB0 _ _).out, (kB1 _ _).out, (kB2 _ _).out, (kB3 _ _).out⟩) | (with_reducible exact ⟨h30.out, h31.out, h32.out, h33.out⟩) | (with_reducible exact ⟨(h40 _).out, (h41 _).out, (h42 _).out, (h43 _).out⟩) | (with_reducible exact ⟨(h50 _ _ _ _ _).out, (h51 _ _ _ _ _).out, (h52 _ _ _ _ _).out, (h53 _ _ _ _ _).out⟩) | fail "keep")
      (first
        | ((with_reducible change (if _ = true then Oper.wp Tryz.prog _ _ ((W1.alloc (.cells #[] 9)).drew) _ _ else _)); (refine step_append_reads _ (by rfl) _ _ 22 (by rfl) W1.heap.size 9 iS (.string ⟨#[]⟩) 1 16 Tryz.underlying22 hiS zS0 zS1 zS2 rfl (by decide) _ 0 [] (by rfl) O1.out A1 keys.length c1 B us1 (by rfl) (RK.out _ BX1.out) ON.out (by unfold maxLen; omega) (by omega) (by simp <;> omega) ?_); intro v3 w3 hown3 hg3 hat3; obtain ⟨hB3, hz3, ⟨f3, A3, n3, c3, rfl, od3, nd3, l3⟩, hk3⟩ := strs_app BX1.out (a := W1.heap.size) (by omega) (by simp <;> omega) hown3 hg3 hat3 (HSD.out w3); have HO3 := Lib.hid od3; have HN3 := Lib.hid nd3; have HL3 := Lib.hid l3; have HK3 := Lib.hid hk3; have HB3 := Lib.hid hB3; have HZ3 := Lib.hid hz3; clear od3 nd3 l3 hk3; have K3 := Lib.hid (K1.out.below HB3.out); have K4 := fun o => (K3.out.below (below_box w3 o)); have h30 := Lib.hid (K3.out.head 0 rfl); have h31 := Lib.hid (K3.out.head 1 rfl); have h32 := Lib.hid (K3.out.head 2 rfl); have h33 := Lib.hid (K3.out.head 3 rfl); have h40 := fun o => Lib.hid ((K4 o).head 0 rfl); have h41 := fun o => Lib.hid ((K4 o).head 1 rfl); have h42 := fun o => Lib.hid ((K4 o).head 2 rfl); have h43 := fun o => Lib.hid ((K4 o).head 3 rfl); clear K4; have tag1 : True := trivial)
        | ((with_reducible change (if _ = true then Oper.wp Tryz.prog _ _ (((W1.alloc (.cells #[] 9)).alloc (.cells #[.int .i64 0, .int .i64 0, .string ⟨#[]⟩, .slice none 0 0, .slice none 0 0] 32)).drew) _ _ else _)); (refine step_append_reads _ (by rfl) _ _ 22 (by rfl) W1.heap.size 9 iS (.string ⟨#[]⟩) 1 16 Tryz.underlying22 hiS zS0 zS1 zS2 rfl (by decide) _ 0 [] (by rfl) O2.out A1 keys.length c1 B us1 (by rfl) (RK.out _ BX2.out) ON.out (by unfold maxLen; omega) (by omega) (by simp <;> omega) ?_); intro v3 w3 hown3 hg3 hat3; obtain ⟨hB3, hz3, ⟨f3, A3, n3, c3, rfl, od3, nd3, l3⟩, hk3⟩ := strs_app BX2.out (a := W1.heap.size) (by omega) (by simp <;> omega) hown3 hg3 hat3 (HSD.out w3); have HO3 := Lib.hid od3; have HN3 := Lib.hid nd3; have HL3 := Lib.hid l3; have HK3 := Lib.hid hk3; have HB3 := Lib.hid hB3; have HZ3 := Lib.hid hz3; clear od3 nd3 l3 hk3; have K3 := Lib.hid (K1.out.below HB3.out); have K4 := fun o => (K3.out.below (below_box w3 o)); have h30 := Lib.hid (K3.out.head 0 rfl); have h31 := Lib.hid (K3.out.head 1 rfl); have h32 := Lib.hid (K3.out.head 2 rfl); have h33 := Lib.hid (K3.out.head 3 rfl); have h40 := fun o => Lib.hid ((K4 o).head 0 rfl); have h41 := fun o => Lib.hid ((K4 o).head 1 rfl); have h42 := fun o => Lib.hid ((K4 o).head 2 rfl); have h43 := fun o => Lib.hid ((K4 o).head 3 rfl); clear K4; have G3 := Lib.hid (Q2.out.same (HK3.out _ (by simp <;> omega) (by omega))); have y0 : w3.cell? ⟨W1.heap.size + 1, 0, none⟩ = some (.int .i64 0) := G3.out.cell 0; have fz0 := G3.out.frozen 0; have y1 : w3.cell? ⟨W1.heap.size + 1, 1, none⟩ = some (.int .i64 0) := G3.out.cell 1; have fz1 := G3.out.frozen 1; have y2 : w3.cell? ⟨W1.heap.size + 1, 2, none⟩ = some (.string ⟨#[]⟩) := G3.out.cell 2; have fz2 := G3.out.frozen 2; have y3 : w3.cell? ⟨W1.heap.size + 1, 3, none⟩ = some (.slice none 0 0) := G3.out.cell 3; have fz3 := G3.out.frozen 3; have y4 : w3.cell? ⟨W1.heap.size + 1, 4, none⟩ = some (.slice none 0 0) := G3.out.cell 4; have fz4 := G3.out.frozen 4; have h50 := fun u0 u1 u2 u3 u4 => Lib.hid (show (((((w3.setCell ⟨W1.heap.size + 1, 0, none⟩ u0).setCell ⟨W1.heap.size + 1, 1, none⟩ u1).setCell ⟨W1.heap.size + 1, 2, none⟩ u2).setCell ⟨W1.heap.size + 1, 3, none⟩ u3).setCell ⟨W1.heap.size + 1, 4, none⟩ u4).cell? ⟨w.heap.size, 0, none⟩ = some (.int .i64 kind) from (K1.out.below (setAll_below (o := 0) [u0, u1, u2, u3, u4] (g := W1.heap.size + 1) (by omega) HB3.out)).head 0 rfl); have h51 := fun u0 u1 u2 u3 u4 => Lib.hid (show (((((w3.setCell ⟨W1.heap.size + 1, 0, none⟩ u0).setCell ⟨W1.heap.size + 1, 1, none⟩ u1).setCell ⟨W1.heap.size + 1, 2, none⟩ u2).setCell ⟨W1.heap.size + 1, 3, none⟩ u3).setCell ⟨W1.heap.size + 1, 4, none⟩ u4).cell? ⟨w.heap.size, 1, none⟩ = some (.int .i64 n) from (K1.out.below (setAll_below (o := 0) [u0, u1, u2, u3, u4] (g := W1.heap.size + 1) (by omega) HB3.out)).head 1 rfl); have h52 := fun u0 u1 u2 u3 u4 => Lib.hid (show (((((w3.setCell ⟨W1.heap.size + 1, 0, none⟩ u0).setCell ⟨W1.heap.size + 1, 1, none⟩ u1).setCell ⟨W1.heap.size + 1, 2, none⟩ u2).setCell ⟨W1.heap.size + 1, 3, none⟩ u3).setCell ⟨W1.heap.size + 1, 4, none⟩ u4).cell? ⟨w.heap.size, 2, none⟩ = some (.string s) from (K1.out.below (setAll_below (o := 0) [u0, u1, u2, u3, u4] (g := W1.heap.size + 1) (by omega) HB3.out)).head 2 rfl); have h53 := fun u0 u1 u2 u3 u4 => Lib.hid (show (((((w3.setCell ⟨W1.heap.size + 1, 0, none⟩ u0).setCell ⟨W1.heap.size + 1, 1, none⟩ u1).setCell ⟨W1.heap.size + 1, 2, none⟩ u2).setCell ⟨W1.heap.size + 1, 3, none⟩ u3).setCell ⟨W1.heap.size + 1, 4, none⟩ u4).cell? ⟨w.heap.size, 3, none⟩ = some (.slice A1 keys.length c1) from (K1.out.below (setAll_below (o := 0) [u0, u1, u2, u3, u4] (g := W1.heap.size + 1) (by omega) HB3.out)).head 3 rfl); have tag2 : True := trivial)
        | ((with_reducible change (if _ = true then Oper.wp Tryz.prog _ _ (((W1.alloc (.cells #[.int .i64 0, .int .i64 0, .string ⟨#[]⟩, .slice none 0 0, .slice none 0 0] 32)).alloc (.cells #[] 9)).drew) _ _ else _)); (refine step_append_reads _ (by rfl) _ _ 22 (by rfl) W1.heap.size 9 iS (.string ⟨#[]⟩) 1 16 Tryz.underlying22 hiS zS0 zS1 zS2 rfl (by decide) _ 0 [] (by rfl) O3.out A1 keys.length c1 B us1 (by rfl) (RK.out _ BX3.out) ON.out (by unfold maxLen; omega) (by omega) (by simp <;> omega) ?_); intro v3 w3 hown3 hg3 hat3; obtain ⟨hB3, hz3, ⟨f3, A3, n3, c3, rfl, od3, nd3, l3⟩, hk3⟩ := strs_app BX3.out (a := W1.heap.size + 1) (by omega) (by simp <;> omega) hown3 hg3 hat3 (HSD.out w3); have HO3 := Lib.hid od3; have HN3 := Lib.hid nd3; have HL3 := Lib.hid l3; have HK3 := Lib.hid hk3; have HB3 := Lib.hid hB3; have HZ3 := Lib.hid hz3; clear od3 nd3 l3 hk3; have K3 := Lib.hid (K1.out.below HB3.out); have K4 := fun o => (K3.out.below (below_box w3 o)); have h30 := Lib.hid (K3.out.head 0 rfl); have h31 := Lib.hid (K3.out.head 1 rfl); have h32 := Lib.hid (K3.out.head 2 rfl); have h33 := Lib.hid (K3.out.head 3 rfl); have h40 := fun o => Lib.hid ((K4 o).head 0 rfl); have h41 := fun o => Lib.hid ((K4 o).head 1 rfl); have h42 := fun o => Lib.hid ((K4 o).head 2 rfl); have h43 := fun o => Lib.hid ((K4 o).head 3 rfl); clear K4; have G3 := Lib.hid (Q3.out.same (HK3.out _ (by simp <;> omega) (by omega))); have y0 : w3.cell? ⟨W1.heap.size, 0, none⟩ = some (.int .i64 0) := G3.out.cell 0; have fz0 := G3.out.frozen 0; have y1 : w3.cell? ⟨W1.heap.size, 1, none⟩ = some (.int .i64 0) := G3.out.cell 1; have fz1 := G3.out.frozen 1; have y2 : w3.cell? ⟨W1.heap.size, 2, none⟩ = some (.string ⟨#[]⟩) := G3.out.cell 2; have fz2 := G3.out.frozen 2; have y3 : w3.cell? ⟨W1.heap.size, 3, none⟩ = some (.slice none 0 0) := G3.out.cell 3; have fz3 := G3.out.frozen 3; have y4 : w3.cell? ⟨W1.heap.size, 4, none⟩ = some (.slice none 0 0) := G3.out.cell 4; have fz4 := G3.out.frozen 4; have h50 := fun u0 u1 u2 u3 u4 => Lib.hid (show (((((w3.setCell ⟨W1.heap.size, 0, none⟩ u0).setCell ⟨W1.heap.size, 1, none⟩ u1).setCell ⟨W1.heap.size, 2, none⟩ u2).setCell ⟨W1.heap.size, 3, none⟩ u3).setCell ⟨W1.heap.size, 4, none⟩ u4).cell? ⟨w.heap.size, 0, none⟩ = some (.int .i64 kind) from (K1.out.below (setAll_below (o := 0) [u0, u1, u2, u3, u4] (g := W1.heap.size) (by omega) HB3.out)).head 0 rfl); have h51 := fun u0 u1 u2 u3 u4 => Lib.hid (show (((((w3.setCell ⟨W1.heap.size, 0, none⟩ u0).setCell ⟨W1.heap.size, 1, none⟩ u1).setCell ⟨W1.heap.size, 2, none⟩ u2).setCell ⟨W1.heap.size, 3, none⟩ u3).setCell ⟨W1.heap.size, 4, none⟩ u4).cell? ⟨w.heap.size, 1, none⟩ = some (.int .i64 n) from (K1.out.below (setAll_below (o := 0) [u0, u1, u2, u3, u4] (g := W1.heap.size) (by omega) HB3.out)).head 1 rfl); have h52 := fun u0 u1 u2 u3 u4 => Lib.hid (show (((((w3.setCell ⟨W1.heap.size, 0, none⟩ u0).setCell ⟨W1.heap.size, 1, none⟩ u1).setCell ⟨W1.heap.size, 2, none⟩ u2).setCell ⟨W1.heap.size, 3, none⟩ u3).setCell ⟨W1.heap.size, 4, none⟩ u4).cell? ⟨w.heap.size, 2, none⟩ = some (.string s) from (K1.out.below (setAll_below (o := 0) [u0, u1, u2, u3, u4] (g := W1.heap.size) (by omega) HB3.out)).head 2 rfl); have h53 := fun u0 u1 u2 u3 u4 => Lib.hid (show (((((w3.setCell ⟨W1.heap.size, 0, none⟩ u0).setCell ⟨W1.heap.size, 1, none⟩ u1).setCell ⟨W1.heap.size, 2, none⟩ u2).setCell ⟨W1.heap.size, 3, none⟩ u3).setCell ⟨W1.heap.size, 4, none⟩ u4).cell? ⟨w.heap.size, 3, none⟩ = some (.slice A1 keys.length c1) from (K1.out.below (setAll_below (o := 0) [u0, u1, u2, u3, u4] (g := W1.heap.size) (by omega) HB3.out)).head 3 rfl); have tag3 : True := trivial)
        | fail "no arm")
    all_goals (clear kA0 kA1 kA2 kA3 kB0 kB1 kB2 kB3 kD0 kD1 kD2 kD3 h30 h31 h32 h33 h40 h41 h42 h43)
    all_goals go_wp2_with fail
    all_goals go_meet
    · exact cutV_new HB3.out HO3.out HN3.out (fun b hb => ⟨(HL3.out b hb).1, (HL3.out b hb).2.1⟩)
    · exact cutV_set HB3.out HO3.out HN3.out (fun b hb => ⟨(HL3.out b hb).1, (HL3.out b hb).2.1, by have := HL3.out b hb; simp at this; omega⟩) G3.out (by omega)
    · exact cutV_set HB3.out HO3.out HN3.out (fun b hb => ⟨(HL3.out b hb).1, (HL3.out b hb).2.1, by have := HL3.out b hb; simp at this; omega⟩) G3.out (by omega)
  case rest =>
    obtain ⟨g, A3, m3, c3, f3, rfl, hg1, hG, hO3, hN3, hL3, hB3⟩ := hcut
    have HG := Lib.hid hG
    have HO3 := Lib.hid hO3
    have HN3 := Lib.hid hN3
    have HL3 := Lib.hid hL3
    have HB3 := Lib.hid hB3
    have hz3 := hB3.size
    have hgl := hG.lt
    have hWS := HWs.out
    have HPc := Lib.hid (HbP.out.below hB3)
    have HRc := Lib.hid (HbR.out.below hB3)
    have HbW := Lib.hid (hW.trans (hB3.mono (by omega)))
    clear hG hO3 hN3 hL3 hB3 kA0 kA1 kA2 kA3 kB0 kB1 kB2 kB3 kD0 kD1 kD2 kD3 O1 O2 O3 Q2 Q3 BX1 BX2 BX3 ON HSD RK K1
    go_wp2
    go_loopw [4] (fun i w' => ∃ (k : Nat) (lv : Value), k ≤ list.length ∧ i = .int .i64 k ∧ Hid (Blk w' g 32 [.int .i64 kind, .int .i64 n, .string s, .slice A3 m3 c3, lv]) ∧ Hid (Acc g wc.heap.size 32 5 w' lv k (valsDs (list.take k))) ∧ Hid (Upd [g] wc w')) (fun i _ => list.length - (intOf i).toNat)
    case atStart => exact ⟨0, _, by omega, rfl, HG.out, Acc.nil _ _ _ _ _, Upd.refl _ _⟩
    case round =>
      obtain ⟨k, lv, hk, rfl, HGr, HA, HU⟩ := hrel
      have hzr := HU.out.size
      have hbW : Below w.heap.size w wr := HbW.out.trans (HU.out.to_below (fun b hb => by rw [List.mem_singleton.1 hb]; omega) (by omega))
      have HPr := Lib.hid (HU.out.blk (by simp; omega) HPc.out)
      have HRr := Lib.hid (HU.out.blk (by simp; omega) HRc.out)
      have p4 : wr.cell? ⟨w.heap.size, 4, none⟩ = some (.slice A2 list.length c2) := HPr.out.cell 4
      have g4 : wr.cell? ⟨g, 4, none⟩ = some lv := HGr.out.cell 4
      have fg4 := HGr.out.frozen 4
      by_cases hlt : k < list.length
      · obtain ⟨ad, v, e0, e1, e2, e3, e4, rfl, hbl, hv, hm, hd, z0, z1, z2, z3, z4⟩ := row5_at (HL.out.upto (hbW.mono hB) (Nat.le_refl _)) rfl hlt
        have hBr : B ≤ wr.heap.size := by have := hbW.size; omega
        have j0 : (0 : Int) ≤ (k : Int) := by omega
        have j1 : (k : Int) < (list.length : Int) := by omega
        have HA2 := Lib.hid (HA.out.below (show Below wr.heap.size wr wr.drew from (Below.refl _ _).drew))
        have HV := Lib.hid (hv.below (show Below B wr wr.drew from (Below.refl _ _).drew))
        obtain ⟨la, lm, lc, elv⟩ := HA.out.shape
        subst elv
        clear hv
        go_wp2
        go_region_law (first
          | (go_simp; go_at_call 31; refine (IH.out v hm [_, _, _, _, _] wr.drew B hBr HV.out (smallDs_mem HS2.out hm)).mono ?_; rintro e w4 ⟨us4, f4, rfl, hO, hF, hb1⟩; obtain ⟨d0, d1, d2, A7, n7, c7, A8, n8, c8, rfl⟩ := valDs_shape hO.rd'; have HF4 := Lib.hid hF; have HB4 := Lib.hid hb1; have HO4 := Lib.hid hO; clear hO hF hb1; have g5 : w4.cell? ⟨g, 4, none⟩ = some (.slice la lm lc) := (HB4.out.cell (p := ⟨g, 4, none⟩) (by show g < wr.heap.size; omega)).trans g4; have g6 := fun o => (World.cell?_alloc_lt w4 o ⟨g, 4, none⟩ (by show g < _; have := HB4.out.size; simp at this; omega)).trans g5)
          | (refine step_append_acc (by rfl) _ _ 30 (by rfl) 32 iV _ 5 80 Tryz.underlying30 hiV zV0 zV1 zV2 (by rfl) (by decide) (by rfl) (by rfl) HA2.out HB4.out HO4.out HF4.out (by rfl) (by unfold maxLen; omega) (by omega) hzr (show g < wr.heap.size by omega) ?_; intro v5 w5 hA5 hB5 hz6; obtain ⟨A9, n9, c9, rfl⟩ := hA5.shape; have HA5 := Lib.hid hA5; have HB5 := Lib.hid hB5; have HG5 := Lib.hid ((HGr.out.same (show w4.heap[g]? = wr.heap[g]? from HB4.out.block g (by show g < wr.heap.size; omega))).same (hB5.block g (by omega))); clear hA5 hB5; have g7 : w5.cell? ⟨g, 4, none⟩ = some (.slice la lm lc) := HG5.out.cell 4; have fg7 := HG5.out.frozen 4)
          | fail "no arm")
        all_goals
          have HG6 := Lib.hid (show Blk (w5.setCell ⟨g, 4, none⟩ (.slice A9 n9 c9)) g 32 [.int .i64 kind, .int .i64 n, .string s, .slice A3 m3 c3, .slice A9 n9 c9] from HG5.out.set_ 4 _)
          have HA6 := Lib.hid (show Acc g wc.heap.size 32 5 (w5.setCell ⟨g, 4, none⟩ (.slice A9 n9 c9)) (.slice A9 n9 c9) (k + 1) (valsDs (list.take (k + 1))) by
            rw [take_of_drop hd.out, valsDs_append, show valsDs [v] = valDs v by simp [valsDs]]
            exact HA5.out.keep (by simp [World.setCell]) fun b h1 _ _ => Below.heap_setCell _ _ _ _ (by show b ≠ g; omega))
          have HU6 := Lib.hid (show Upd [g] wc (w5.setCell ⟨g, 4, none⟩ (.slice A9 n9 c9)) from ((HU.out.more ((show Below wc.heap.size wr wr.drew from (Below.refl _ _).drew).trans ((HB4.out.mono hzr).trans HB5.out))).trans (Upd.setCell _ (by simp) _)))
          clear HA5 HB5 HG5 HB4 HF4 HO4 HA HU HGr HA2 HV g4 fg4 g7 fg7 p4 z0 z1 z2 z3 z4 hbW HPr HRr
          go_wp2
          go_roundw
          case rel => exact ⟨k + 1, _, by omega, by go_num, HG6, HA6, HU6⟩
          case measure => simp [intOf]; omega
      · obtain rfl : k = list.length := by omega
        obtain ⟨f4, hO4, hF4⟩ := HA.out.done (w := wc) (Nat.le_refl _)
        have hAc := HA.out
        rw [List.take_length] at hO4 hAc
        have HAc := Lib.hid hAc
        clear hAc
        obtain ⟨A4, c4, n4, rfl⟩ := row_shape hO4.rd'
        have HO4 := Lib.hid hO4
        have HF4 := Lib.hid hF4
        obtain ⟨cG, fG⟩ := blk_rules HGr.out
        obtain ⟨cR, fR⟩ := blk_rules HRr.out
        have HbW2 := Lib.hid hbW
        clear hO4 hF4 HA hbW g4 fg4
        go_wp2
        refine bodyPost_ret (v := .agg #[.int .i64 kind, .int .i64 n, .string s, .slice A3 m3 c3, .slice A4 n4 c4]) (by simp [results, Tryz.results31, go_sem, cR]) rfl ?_
        obtain ⟨W, eW2⟩ : ∃ W, W = setAll wr (w.heap.size + 1) 0 [.int .i64 kind, .int .i64 n, .string s, .slice A3 m3 c3, .slice A4 n4 c4] := ⟨_, rfl⟩
        show ∃ vs fp, _ ∧ ODv (setAll wr (w.heap.size + 1) 0 [.int .i64 kind, .int .i64 n, .string s, .slice A3 m3 c3, .slice A4 n4 c4]) _ vs fp ∧ Fresh w (setAll wr (w.heap.size + 1) 0 [.int .i64 kind, .int .i64 n, .string s, .slice A3 m3 c3, .slice A4 n4 c4]) fp ∧ Below w.heap.size w (setAll wr (w.heap.size + 1) 0 [.int .i64 kind, .int .i64 n, .string s, .slice A3 m3 c3, .slice A4 n4 c4]) ∧ CopyRow w (setAll wr (w.heap.size + 1) 0 [.int .i64 kind, .int .i64 n, .string s, .slice A3 m3 c3, .slice A4 n4 c4]) _ vs
        rw [← eW2]
        have hsz : W.heap.size = wr.heap.size := by rw [eW2, setAll_size]
        have hL3' := HL3.out
        have hO3' : OD wr (.row 1 keys.length (strDs keys)) (.slice A3 m3 c3) f3 := OD.keep _ _ _ (fun b hb => HU.out.block b (hL3' b hb).2.1 (by simp; exact (hL3' b hb).2.2)) HO3.out
        obtain ⟨k1, k2⟩ := val_close (w := w) (W := W) (kind := kind) (n := n) (lo := W1.heap.size) (mid := wc.heap.size) hs hO3' HO4.out HN3.out (fun b hb => ⟨(hL3' b hb).1, (hL3' b hb).2.1⟩) HF4.out.1 HF4.out.2 (by omega) hzr (by omega) (by omega) (fun b h1 _ => by rw [eW2]; exact setAll_other _ _ _ _ _ (by omega))
        refine ⟨_, _, rfl, k1, k2, by rw [eW2]; exact setAll_below _ (by omega) HbW2.out, _, kind, n, s, A3, m3, c3, A4, n4, c4, list, rfl, ⟨keys, rfl⟩, (HAc.out.keep (w' := W) (by omega) fun b h1 _ _ => ?_).mono (by omega)⟩
        rw [eW2]
        exact setAll_other _ _ _ _ _ (by omega)
theorem copy_less {v : Val} (h : CopyVal2 31 v) : CopyVal 31 v := fun us w B hB hr hs => (h us w B hB hr hs).mono fun _ _ ⟨vs, fp, h1, h2, h3, h4, _⟩ => ⟨vs, fp, h1, h2, h3, h4⟩
theorem copy_calls2 : ∀ v, CopyVal2 31 v := Val.ind fun kind n s keys list ih => copy_of _ fun _ _ _ _ _ e => by
  injection e with e1 e2 e3 e4 e5
  subst e5
  exact fun x hx => copy_less (ih x hx)
theorem copy_calls : ∀ v, CopyVal 31 v := fun v => copy_less (copy_calls2 v)
end Go.Proofs.YtppfgepoegicgaaGreatDoor
