/- Parts of the proof: FOkS. -/
import Derived.Test.YtppfgepoegicgaaDoorZFForm
import Derived.Test.YtppfgepoegicgaaDoorZFMany
import Derived.Test.YtppfgepoegicgaaDoorZEvSureS
namespace Go.Proofs.YtppfgepoegicgaaDoor
open Go Go.RowKit

set_option maxHeartbeats 2000000 in
theorem sFiltOk_calls (x : Filt) (us : List Value) (w : World) (B : Nat) (hB : B ≤ w.heap.size) (h : RDv w B (filtDs x) us) (hV : VSm x) (hC : filtCnt x ≤ 1099511627776) :
    Calls Tryd.prog 21 #[.agg us.toArray] w (PBool (FOk x) w) := by
  obtain ⟨a0, a1, a2, a3, a4, a5, A6, n6, q6, A7, n7, q7, A8, n8, q8, rfl⟩ := filtDs_shape h
  have H := Lib.hid h
  clear h
  have hbx := fun o1 => below_box w o1
  go_enter Tryd.func21, Tryd.ntmps21
  go_wp2_with fail
  refine (sFForm_calls x [_, _, _, _, _, _, _, _, _] _ B 7 7 (by omega) (by omega) (Nat.le_trans hB (hbx _).size) (H.out.below ((hbx _).mono hB)) hV).mono ?_
  rintro e w1 ⟨r, rfl, hr, hb1⟩
  have HR := Lib.hid hr
  obtain ⟨hb, hz, bP⟩ := boxes1 (P := [_, _, _, _, _, _, _, _, _]) (boxes1_of hb1)
  obtain ⟨cP, fP⟩ := blk_rules bP
  clear hr hb1 bP
  cases r with
  | false =>
    have HN := Lib.hid (show ¬ FOk x from fun h => absurd (HR.out.2 h.1) (by simp))
    go_wp2
    go_ret
    exact PBool.no HN.out hb
  | true =>
    have HT := Lib.hid (HR.out.1 rfl)
    go_wp2_with fail
    refine (sFMany_calls x [_, _, _, _, _, _, _, _, _] _ B 7 7 (by omega) (by omega) (by omega) (H.out.below (hb.mono hB)) HT.out hC).mono ?_
    rintro e w2 ⟨rfl, hb2⟩
    obtain ⟨m, em⟩ : ∃ m, m = filtCnt x := ⟨_, rfl⟩
    rw [← em] at hC ⊢
    have EM := Lib.hid em
    clear em
    go_wp2
    go_ret
    refine ⟨_, rfl, ⟨fun h => ⟨HT.out, ?_⟩, fun h => ?_⟩, hb.trans (hb2.mono (by omega))⟩
    · rw [← EM.out]; have : (m : Int) ≤ 16 := by simpa using h
      omega
    · have := h.2; rw [← EM.out] at this; simp; omega

set_option maxHeartbeats 2000000 in
theorem sSlimSure_calls (x : Filt) (us : List Value) (w : World) (B : Nat) (hB : B ≤ w.heap.size) (h : RDv w B (filtDs x) us) (hV : VSm x) (hC : filtCnt x ≤ 1099511627776) :
    Calls Tryd.prog 7 #[.agg us.toArray] w (PBool (FOk x ∧ ev tabSure x = true) w) := by
  obtain ⟨a0, a1, a2, a3, a4, a5, A6, n6, q6, A7, n7, q7, A8, n8, q8, rfl⟩ := filtDs_shape h
  have H := Lib.hid h
  clear h
  have hbx := fun o1 => below_box w o1
  go_enter Tryd.func7, Tryd.ntmps7
  go_wp2_with fail
  refine (sFiltOk_calls x [_, _, _, _, _, _, _, _, _] _ B (Nat.le_trans hB (hbx _).size) (H.out.below ((hbx _).mono hB)) hV hC).mono ?_
  rintro e w1 ⟨r, rfl, hr, hb1⟩
  have HR := Lib.hid hr
  obtain ⟨hb, hz, bP⟩ := boxes1 (P := [_, _, _, _, _, _, _, _, _]) (boxes1_of hb1)
  obtain ⟨cP, fP⟩ := blk_rules bP
  clear hr hb1 bP
  cases r with
  | false =>
    have HN := Lib.hid (show ¬ (FOk x ∧ ev tabSure x = true) from fun h => absurd (HR.out.2 h.1) (by simp))
    go_wp2
    go_ret
    exact PBool.no HN.out hb
  | true =>
    have HT := Lib.hid (HR.out.1 rfl)
    go_wp2_with fail
    refine (evSureS_calls x [_, _, _, _, _, _, _, _, _] _ B 7 (by omega) (H.out.below (hb.mono hB)) HT.out.1).mono ?_
    rintro e w2 ⟨r2, rfl, hr2, hb2⟩
    have HR2 := Lib.hid (show r2 = true ↔ FOk x ∧ ev tabSure x = true from hr2.trans ⟨fun h => ⟨HT.out, h⟩, fun h => h.2⟩)
    clear hr2
    go_wp2
    go_ret
    exact ⟨_, rfl, HR2.out, hb.trans (hb2.mono (by omega))⟩
end Go.Proofs.YtppfgepoegicgaaDoor
