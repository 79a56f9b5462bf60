/- SlimTell: the specification's and the program's. -/
import Derived.Test.YtppfgepoegicgaaDoorZTellS
import Derived.Test.YtppfgepoegicgaaDoorZTellI
import Derived.Test.YtppfgepoegicgaaDoorZFOkS
import Derived.Test.YtppfgepoegicgaaDoorZFOkI
namespace Go.Proofs.YtppfgepoegicgaaDoor
open Go Go.RowKit

/-- What SlimTell answers. -/
def Told (x : Filt) (r : Int) : Prop := (FOk x → r = tl x) ∧ (¬ FOk x → r = -1)
theorem Told.det {x : Filt} {r1 r2 : Int} (h1 : Told x r1) (h2 : Told x r2) : r1 = r2 := by
  by_cases h : FOk x
  · rw [h1.1 h, h2.1 h]
  · rw [h1.2 h, h2.2 h]

set_option maxHeartbeats 2000000 in
theorem sSlimTell_calls (x : Filt) (us : List Value) (w : World) (B : Nat) (hB : B ≤ w.heap.size) (h : RDv w B (filtDs x) us) (hV : VSm x) (hC : filtCnt x ≤ 1099511627776) :
    Calls Tryd.prog 11 #[.agg us.toArray] w fun e w' => ∃ r : Int, e = .returned (.int .i64 r) ∧ Told x r ∧ Below w.heap.size w w' := by
  obtain ⟨a0, a1, a2, a3, a4, a5, A6, n6, q6, A7, n7, q7, A8, n8, q8, rfl⟩ := filtDs_shape h
  have H := Lib.hid h
  clear h
  have hbx := fun o1 => below_box w o1
  go_enter Tryd.func11, Tryd.ntmps11
  go_wp2_with fail
  refine (sFiltOk_calls x [_, _, _, _, _, _, _, _, _] _ B (Nat.le_trans hB (hbx _).size) (H.out.below ((hbx _).mono hB)) hV hC).mono ?_
  rintro e w1 ⟨r, rfl, hr, hb1⟩
  have HR := Lib.hid hr
  obtain ⟨hb, hz, bP⟩ := boxes1 (P := [_, _, _, _, _, _, _, _, _]) (boxes1_of hb1)
  obtain ⟨cP, fP⟩ := blk_rules bP
  clear hr hb1 bP
  cases r with
  | false =>
    have HN := Lib.hid (show ¬ FOk x from fun h => absurd (HR.out.2 h) (by simp))
    go_wp2
    go_ret
    exact ⟨_, rfl, ⟨fun h => absurd h HN.out, fun _ => rfl⟩, hb⟩
  | true =>
    have HT := Lib.hid (HR.out.1 rfl)
    go_wp2_with fail
    refine (sTell_calls x [_, _, _, _, _, _, _, _, _] _ B 7 (by omega) (H.out.below (hb.mono hB)) HT.out.1 HT.out.2).mono ?_
    rintro e w2 ⟨rfl, hb2⟩
    go_wp2
    go_ret
    exact ⟨_, rfl, ⟨fun _ => rfl, fun h => absurd HT.out h⟩, hb.trans (hb2.mono (by omega))⟩

set_option maxHeartbeats 2000000 in
theorem iSlimTell_calls (x : Filt) (us : List Value) (w : World) (B : Nat) (hB : B ≤ w.heap.size) (h : RDv w B (filtDs x) us) (hT : Tab w B) :
    Calls Tryd.prog 12 #[.agg us.toArray] w fun e w' => ∃ r : Int, e = .returned (.int .i64 r) ∧ Told x r ∧ Below w.heap.size w w' := by
  obtain ⟨a0, a1, a2, a3, a4, a5, A6, n6, q6, A7, n7, q7, A8, n8, q8, rfl⟩ := filtDs_shape h
  have H := Lib.hid h
  have HT := Lib.hid hT
  clear h hT
  have hbx := fun o1 => below_box w o1
  go_enter Tryd.func12, Tryd.ntmps12
  go_wp2_with fail
  refine (iFiltOk_calls x [_, _, _, _, _, _, _, _, _] _ B (Nat.le_trans hB (hbx _).size) (H.out.below ((hbx _).mono hB)) (HT.out.below ((hbx _).mono hB))).mono ?_
  rintro e w1 ⟨r, rfl, hr, hb1⟩
  have HR := Lib.hid hr
  obtain ⟨hb, hz, bP⟩ := boxes1 (P := [_, _, _, _, _, _, _, _, _]) (boxes1_of hb1)
  obtain ⟨cP, fP⟩ := blk_rules bP
  clear hr hb1 bP
  cases r with
  | false =>
    have HN := Lib.hid (show ¬ FOk x from fun h => absurd (HR.out.2 h) (by simp))
    go_wp2
    go_ret
    exact ⟨_, rfl, ⟨fun h => absurd h HN.out, fun _ => rfl⟩, hb⟩
  | true =>
    have HT := Lib.hid (HR.out.1 rfl)
    go_wp2_with fail
    refine (iTell_calls x [_, _, _, _, _, _, _, _, _] _ B 7 (by omega) (H.out.below (hb.mono hB)) HT.out.1 HT.out.2).mono ?_
    rintro e w2 ⟨rfl, hb2⟩
    go_wp2
    go_ret
    exact ⟨_, rfl, ⟨fun _ => rfl, fun h => absurd HT.out h⟩, hb.trans (hb2.mono (by omega))⟩
end Go.Proofs.YtppfgepoegicgaaDoor
