/- slices.Clone of a row of kept trees: the cells in a row of one's own. -/
import Derived.Test.YtppfgepoegicgaaGi
import Derived.Test.YtppfgepoegicgaaGb
import Derived.Lib.SliceRun
namespace Go.Proofs.Ytppfgepoegicgaa
open Go Go.RowKit

set_option maxRecDepth 100000 in
set_option maxHeartbeats 2000000 in
theorem cloneRow_calls (T : Option Addr) (n ct : Nat) (us : List Value) (w : World) (B : Nat) (hB : B ≤ w.heap.size) (hr : Reads w B 6 T n us) (hone : ∀ u ∈ us, u.oneCell' = true) (hn : n ≤ 1048576) :
    Calls Try.prog 93 #[.slice T n ct] w fun e w' => ∃ (T' : Option Addr) (n' c' : Nat), e = .returned (.slice T' n' c') ∧ w'.ownsRow w.heap.size 70 6 (.slice T' n' c') n us ∧ Below w.heap.size w w' := by
  obtain ⟨iK, hiK, zK0, zK1, zK2⟩ := info_parts' Try.info_Kept
  have q : ∀ (w : World) (a : Option Addr) (n c n' c' : Nat), (binOp .eql 59 (.slice a n c) (.slice none n' c')).run Try.prog w = .ok (.bool a.isNone) w := fun w a n c n' c' => Lib.run_eql_slice_nil w _ _ a n c n' c' Try.underlying59
  have HR := Lib.hid hr
  have HONE := Lib.hid hone
  clear hr hone
  cases T with
  | none =>
    have h0 : n = 0 := Classical.byContradiction fun h => by
      obtain ⟨ad, e, _⟩ := HR.out.2 (by omega)
      cases e
    subst h0
    have HU := Lib.hid (show us = [] from List.eq_nil_of_length_eq_zero (by simpa using HR.out.1))
    go_enter Try.func93, Try.ntmps93
    go_wp2
    go_ret
    exact ⟨_, _, _, rfl, by rw [HU.out]; exact World.ownsRow_nil _ _ _ _, Below.refl _ _⟩
  | some ad =>
    have HO := Lib.hid (World.ownsRow_made (base := w.heap.size) (e := 70) (size := 6) w #[] 0 (Nat.le_refl _) (by unfold maxLen; omega) (by simp))
    have HRA := Lib.hid (show Reads (w.alloc (.cells #[] 70)) B 6 (some ad) n us from Reads.keep HR.out fun p hp => (below_box w _).cell (by omega))
    go_enter Try.func93, Try.ntmps93
    go_wp2_with (at_builtin; go_loud (refine wpList_append_reads _ rfl _ _ 59 rfl w.heap.size 70 iK _ 6 96 Try.underlying59 hiK zK0 zK1 zK2 rfl (by decide) _ 0 [] (by rfl) HO.out _ n ct B us (by rfl) HRA.out HONE.out (by unfold maxLen; omega) (by omega) (by simp <;> omega) ?_; intro v7 w7 hown7 hg7 hat7; obtain ⟨A7, n7, q7, rfl⟩ := owns_shape hown7; have HW7 := Lib.hid hown7; have HB7 := Lib.hid (grown_new hg7); clear hown7 hg7 hat7))
    go_wp2
    go_ret
    exact ⟨_, _, _, rfl, by simpa using HW7.out, HB7.out.1⟩
end Go.Proofs.Ytppfgepoegicgaa
