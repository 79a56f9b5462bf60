/- Parts of the proof: FiltEq. -/
import Derived.Test.YtppfgepoegicgaaGreatDoorGb
namespace Go.Proofs.YtppfgepoegicgaaGreatDoor
open Go Go.RowKit

set_option maxHeartbeats 1000000 in
theorem eqFilt_of (x : Filt) (ih : ∀ kind n s v kids, x = .mk kind n s v kids → EqFilts kids) : EqFilt x := by
  intro us us' w B hB h h'
  obtain ⟨kind, n, s, v, kids, a3, a4, a5, A6, n6, q6, A7, n7, q7, A8, q8, rfl, rfl, hs, hv, hk⟩ := filtDs_all h
  obtain ⟨_, _, _, _, _, a3', a4', a5', A6', n6', q6', A7', n7', q7', A8', q8', e, rfl, hs', hv', hk'⟩ := filtDs_all h'
  injection e with e1 e2 e3 e4 e5
  subst e1 e2 e3 e4 e5
  have IH := Lib.hid (ih _ _ _ _ _ rfl)
  clear ih h h'
  have hn := hk.len
  go_enter Tryz.func8, Tryz.ntmps8
  go_wp2_with fail
  refine (eqVal_calls v [_, _, _, _, _] [_, _, _, _, _] _ B (by simp; omega) (hv.below ((below_box2 _ _ _).mono hB)) (hv'.below ((below_box2 _ _ _).mono hB))).mono ?_
  rintro e w1 ⟨rfl, hb1⟩
  obtain ⟨hb, hz, hc, hf⟩ := bbox2 hb1
  clear hb1
  go_wp2_with fail
  refine (IH.out A8 A8' q8 q8' _ B (by omega) (hk.below (hb.mono hB)) (hk'.below (hb.mono hB))).mono ?_
  rintro e w2 ⟨rfl, hb2⟩
  go_wp2
  go_ret
  exact ⟨rfl, hb.trans (hb2.mono (by omega))⟩
theorem eqFilt_calls : ∀ v, EqFilt v := Filt.ind fun kind n s v kids ih => eqFilt_of _ fun _ _ _ _ _ e => by
  injection e with e1 e2 e3 e4 e5
  subst e5
  exact eqFilts_of _ ih
end Go.Proofs.YtppfgepoegicgaaGreatDoor
