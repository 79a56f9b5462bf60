/- SlimKeys: the reference's answer. -/
import Derived.Test.YtppfgepoegicgaaDoorZKeysS
import Derived.Test.YtppfgepoegicgaaDoorZKeysTop
import Derived.Test.YtppfgepoegicgaaDoorZFOkS
import Derived.Deep.DeepCutAuto
namespace Go.Proofs.YtppfgepoegicgaaDoor
open Go Go.RowKit

set_option maxRecDepth 100000 in
set_option maxHeartbeats 4000000 in
theorem sSlimKeys_calls (x : Filt) (us : List Value) (w : World) (B : Nat) (hB : B ≤ w.heap.size) (h : RDv w B (filtDs x) us) (hV : VSm x) (hC : filtCnt x ≤ 1099511627776) :
    Calls Tryd.prog 13 #[.agg us.toArray] w (PKeys x w) := by
  obtain ⟨a0, a1, a2, a3, a4, a5, A6, n6, q6, A7, n7, q7, A8, n8, q8, rfl⟩ := filtDs_shape h
  have H := Lib.hid h
  have HS := Lib.hid (fks_size x _ w B h)
  clear h
  have hbx := fun o1 => below_box w o1
  go_enter Tryd.func13, Tryd.ntmps13
  go_wp2_with fail
  refine (sFiltOk_calls x [_, _, _, _, _, _, _, _, _] _ B (Nat.le_trans hB (hbx _).size) (H.out.below ((hbx _).mono hB)) hV hC).mono ?_
  rintro e w1 ⟨r, rfl, hr, hb1⟩
  have HR := Lib.hid hr
  obtain ⟨hb, hz, bP⟩ := boxes1 (P := [_, _, _, _, _, _, _, _, _]) (boxes1_of hb1)
  obtain ⟨cP, fP⟩ := blk_rules bP
  clear hr hb1
  have HO := Lib.hid (show StrRow w1.heap.size (w1.alloc (.cells #[] 9)) (some ⟨w1.heap.size, 0, none⟩) 0 [] from World.ownsRow_made w1 #[] 0 (Nat.le_refl _) (by unfold maxLen; omega) (by simp))
  have HB1 := Lib.hid hb
  cases r with
  | false =>
    have HN := Lib.hid (show Keyed x [] from ⟨fun h => absurd (HR.out.2 h) (by simp), fun _ => rfl⟩)
    clear hb bP
    go_wp2
    go_ret
    exact PKeys.of_row HN.out (by simp) HO.out (by omega) (HB1.out.trans ((below_box w1 _).mono (by omega)))
  | true =>
    have HF := Lib.hid (HR.out.1 rfl)
    have hc16 := HF.out.2
    have HBa := Lib.hid (below_box w1 (.cells #[] 9))
    obtain ⟨cQ, fQ⟩ := blk_rules (bP.alloc (.cells #[] 9))
    clear hb bP cP fP
    go_wp2_with fail
    refine (sKeysF_calls x [_, _, _, _, _, _, _, _, _] (w1.alloc (.cells #[] 9)) B w1.heap.size (some ⟨w1.heap.size, 0, none⟩) 0 [] (by omega) HBa.out.size (H.out.below ((HB1.out.trans (HBa.out.mono (by omega))).mono hB)) HO.out (by simp; omega)).mono ?_
    rintro e w2 ⟨A2, c2, l2, rfl, hl2, hr2, hg2⟩
    have HB2 := Lib.hid (HBa.out.trans (hg2.out.below (B := w1.heap.size) HBa.out.size (fun k hk => (StrRow.lt HO.out k hk).1)))
    have HN := Lib.hid (show Keyed x l2 from ⟨fun _ => hl2.out, fun h => absurd HF.out h⟩)
    have HSZ := Lib.hid (show ∀ s ∈ l2, s.size ≤ 9223372036854775807 from fun s hs => HS.out s (by
      rw [hl2.out, insAll_mem] at hs
      simpa using hs))
    clear hl2 hg2
    go_wp2
    go_ret
    exact PKeys.of_row HN.out HSZ.out hr2.out (by omega) (HB1.out.trans (HB2.out.mono (by omega)))
end Go.Proofs.YtppfgepoegicgaaDoor
