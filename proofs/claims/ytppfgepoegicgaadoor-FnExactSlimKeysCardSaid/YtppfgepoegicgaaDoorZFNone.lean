/- Parts of the proof: FNone. -/
import Derived.Test.YtppfgepoegicgaaDoorZFClean
import Derived.Test.YtppfgepoegicgaaDoorZImplSameV
namespace Go.Proofs.YtppfgepoegicgaaDoor
open Go Go.RowKit

set_option maxHeartbeats 1000000 in
theorem iNone_calls (v : Val) (us : List Value) (w : World) (B : Nat) (hB : B ≤ w.heap.size) (h : RDv w B (valDs v) us) :
    Calls Tryd.prog 58 #[.agg us.toArray] w (PBool (v = zeroVal) w) := by
  obtain ⟨a0, a1, a2, A3, n3, q3, A4, n4, q4, rfl⟩ := valDs_shape h
  have H := Lib.hid h
  clear h
  have hbx := fun o1 => below_box w o1
  go_enter Tryd.func58, Tryd.ntmps58
  go_wp2_with fail
  refine (iSameVal_calls v zeroVal [_, _, _, _, _] [_, _, _, _, _] _ B (Nat.le_trans hB (hbx _).size) (H.out.below ((hbx _).mono hB)) (zero_rd _ _)).mono ?_
  rintro e w1 ⟨r, rfl, hr, hb1⟩
  have HR := Lib.hid hr
  have HB := Lib.hid ((hbx _).trans (hb1.mono (hbx _).size))
  clear hr hb1
  go_wp2
  go_ret
  exact ⟨_, rfl, HR.out, HB.out⟩
end Go.Proofs.YtppfgepoegicgaaDoor
