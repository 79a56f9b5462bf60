import Derived.Test.YtppfgepoegicgaaDoorOkI3
import Derived.Test.YtppfgepoegicgaaDoorOkI4
import Derived.Test.YtppfgepoegicgaaDoorOkI6
import Derived.Test.YtppfgepoegicgaaDoorOkILo
import Derived.Test.YtppfgepoegicgaaDoorOkIHi
namespace Go.Proofs.YtppfgepoegicgaaDoor
open Go Go.RowKit

theorem iOk_calls : ∀ v, IOk v := Val.ind fun kind n s keys list ih => by
  intro us w B g d l di hdi hd hB hg hl0 hl1 h
  obtain ⟨_, _, _, _, _, A1, c1, A2, c2, e, rfl, hs, hk, hl⟩ := valDs_open h
  injection e with e1 e2 e3 e4 e5
  subst e1; subst e2; subst e3; subst e4; subst e5; subst hdi
  by_cases hbad : l = 0 ∨ d = 0 ∨ ¬ Clean kind n s keys list
  · exact iOk_bad kind n s keys list A1 A2 c1 c2 g d l w hd hg hl0 hl1 hk.len hl.len hbad
  · have hd0 : d ≠ 0 := fun e => hbad (.inr (.inl e))
    have hC : Clean kind n s keys list := Classical.byContradiction fun e => hbad (.inr (.inr e))
    have hl2 : 1 ≤ l := by have : l ≠ 0 := fun e => hbad (.inl e); omega
    by_cases h3 : kind = 3
    · exact iOk_3 kind n s keys list A1 A2 c1 c2 g d B l w hd hB hg hl2 hl1 hs hk hl hd0 hC ih h3
    by_cases h4 : kind = 4
    · exact iOk_4 kind n s keys list A1 A2 c1 c2 g d B l w hd hB hg hl2 hl1 hs hk hl hd0 hC ih h4
    by_cases h6 : kind = 6
    · exact iOk_6 kind n s keys list A1 A2 c1 c2 g d B l w hd hB hg hl2 hl1 hs hk hl hd0 hC ih h6
    by_cases h5 : kind < 5
    · exact iOk_Lo kind n s keys list A1 A2 c1 c2 g d B l w hd hB hg hl2 hl1 hs hk hl hd0 hC ih ⟨h5, h3, h4⟩
    · exact iOk_Hi kind n s keys list A1 A2 c1 c2 g d B l w hd hB hg hl2 hl1 hs hk hl hd0 hC ih ⟨by omega, h6⟩

set_option maxHeartbeats 2000000 in
theorem iValOk_calls (v : Val) (us : List Value) (w : World) (B : Nat) (hB : B ≤ w.heap.size) (h : RDv w B (valDs v) us) :
    Calls Tryd.prog 60 #[.agg us.toArray] w (PBool (ValOk v) w) := by
  obtain ⟨a0, a1, a2, A3, n3, q3, A4, n4, q4, rfl⟩ := valDs_shape h
  have H := Lib.hid h
  clear h
  have hbx := fun o1 o2 => below_box2 w o1 o2
  have hbk : ∀ o1, Blk ((w.alloc o1).alloc (.cells #[.int .i64 60] 3)) (w.heap.size + 1) 3 [.int .i64 60] := fun o1 => by
    have := Blk.new (w.alloc o1) 3 [.int .i64 60]
    rwa [show (w.alloc o1).heap.size = w.heap.size + 1 by simp] at this
  go_enter Tryd.func60, Tryd.ntmps60
  go_wp2_with fail
  refine (iOk_calls v [_, _, _, _, _] _ B (w.heap.size + 1) 6 60 1 (by omega) (by omega) (by omega) (hbk _) (by omega) (by omega) (H.out.below ((hbx _ _).mono hB))).mono ?_
  rintro e w1 ⟨r, j', rfl, hr1, hr2, hb1, hg1⟩
  have HR := Lib.hid hr1
  have HB := Lib.hid ((hbx _ _).trans (grown_below hg1 (Nat.le_add_right _ 1) (by simp)))
  clear hr1 hr2 hb1 hg1
  go_wp2
  go_ret
  exact ⟨r, rfl, HR.out.trans ⟨fun h => ⟨h.1, by have := h.2; omega⟩, fun h => ⟨h.1, by have := h.2; omega⟩⟩, HB.out⟩
end Go.Proofs.YtppfgepoegicgaaDoor
