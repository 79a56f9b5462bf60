/- Parts of the proof: FOkI0. -/
import Derived.Test.YtppfgepoegicgaaGreatDoorGg
import Derived.Test.YtppfgepoegicgaaGreatDoorGh
import Derived.Test.YtppfgepoegicgaaGreatDoorZFOkGo
import Derived.Test.YtppfgepoegicgaaGreatDoorGx
namespace Go.Proofs.YtppfgepoegicgaaGreatDoor
open Go Go.RowKit

theorem iFOk_calls : ∀ x, IFOk x := Filt.ind fun kind n s v kids ih => by
  intro us w B g d l di hdi hd hB hg hl0 hl1 h hT
  obtain ⟨_, _, _, _, _, a3, a4, a5, A6, n6, q6, A7, n7, q7, A8, q8, e, rfl, hs, hv, hk⟩ := filtDs_all h
  injection e with e1 e2 e3 e4 e5
  subst e1; subst e2; subst e3; subst e4; subst e5; subst hdi
  by_cases hbad : l = 0 ∨ d = 0 ∨ kidsOf kind ≠ kids.length
  · exact iFOk_bad kind n s v kids a3 a4 a5 A6 n6 q6 A7 n7 q7 A8 q8 g d B l w hd hB hg hl0 hl1 hT hk.len hbad
  · have hd0 : d ≠ 0 := fun e => hbad (.inr (.inl e))
    have TK : kidsOf kind = kids.length := Classical.byContradiction fun e => hbad (.inr (.inr e))
    have hl2 : 1 ≤ l := by have : l ≠ 0 := fun e => hbad (.inl e); omega
    by_cases h2 : kind = 2
    · subst h2; exact iFOk_2 n s v kids a3 a4 a5 A6 n6 q6 A7 n7 q7 A8 q8 g d B l w hd hB hg hl2 hl1 hs hT hv hk hd0 TK ih
    by_cases h3 : kind = 3
    · subst h3; exact iFOk_3 n s v kids a3 a4 a5 A6 n6 q6 A7 n7 q7 A8 q8 g d B l w hd hB hg hl2 hl1 hs hT hv hk hd0 TK ih
    by_cases h4 : kind = 4
    · subst h4; exact iFOk_4 n s v kids a3 a4 a5 A6 n6 q6 A7 n7 q7 A8 q8 g d B l w hd hB hg hl2 hl1 hs hT hv hk hd0 TK ih
    by_cases h21 : kind = 21
    · subst h21; exact iFOk_21 n s v kids a3 a4 a5 A6 n6 q6 A7 n7 q7 A8 q8 g d B l w hd hB hg hl2 hl1 hs hT hv hk hd0 TK ih
    exact iFOk_o kind n s v kids a3 a4 a5 A6 n6 q6 A7 n7 q7 A8 q8 g d B l w hd hB hg hl2 hl1 hs hT hv hk hd0 TK ih h4 h3 h21 h2

set_option maxHeartbeats 2000000 in
theorem iFiltOk_calls (x : Filt) (us : List Value) (w : World) (B : Nat) (hB : B ≤ w.heap.size) (h : RDv w B (filtDs x) us) (hT : Tab w B) :
    Calls Tryz.prog 18 #[.agg us.toArray] w (PBool (FOk x) w) := by
  obtain ⟨a0, a1, a2, a3, a4, a5, A6, n6, q6, A7, n7, q7, A8, n8, q8, rfl⟩ := filtDs_shape h
  have H := Lib.hid h
  have HT := Lib.hid hT
  clear h hT
  have hbx := fun o1 o2 => below_box2 w o1 o2
  have hbk : ∀ o1, Blk ((w.alloc o1).alloc (.cells #[.int .i64 16] 3)) (w.heap.size + 1) 3 [.int .i64 16] := fun o1 => by
    have := Blk.new (w.alloc o1) 3 [.int .i64 16]
    rwa [show (w.alloc o1).heap.size = w.heap.size + 1 by simp] at this
  go_enter Tryz.func18, Tryz.ntmps18
  go_wp2_with fail
  refine (iFOk_calls x [_, _, _, _, _, _, _, _, _] _ B (w.heap.size + 1) 7 16 1 (by omega) (by omega) (by omega) (hbk _) (by omega) (by omega) (H.out.below ((hbx _ _).mono hB)) (HT.out.below ((hbx _ _).mono hB))).mono ?_
  rintro e w1 ⟨r, j', rfl, hr1, hr2, hb1, hg1⟩
  have HR := Lib.hid hr1
  have HB := Lib.hid ((hbx _ _).trans (grown_below hg1 (Nat.le_add_right _ 1) (by simp)))
  clear hr1 hr2 hb1 hg1
  go_wp2
  go_ret
  exact ⟨r, rfl, HR.out.trans ⟨fun h => ⟨h.1, by have := h.2; omega⟩, fun h => ⟨h.1, by have := h.2; omega⟩⟩, HB.out⟩
end Go.Proofs.YtppfgepoegicgaaGreatDoor
