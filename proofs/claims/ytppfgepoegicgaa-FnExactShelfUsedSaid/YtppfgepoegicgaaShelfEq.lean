import Derived.Test.YtppfgepoegicgaaKeptEqR
import Derived.Test.YtppfgepoegicgaaAskerEqR
namespace Go.Proofs.Ytppfgepoegicgaa
open Go Go.RowKit

set_option maxHeartbeats 1000000 in
theorem eqKept_calls (v : Kept) : EqKept v := by
  intro us us' w B hB h h'
  obtain ⟨vs, rfl, hs, hv⟩ := keptDs_open h
  obtain ⟨a, b, s, A1, n1, c1, A2, n2, c2, rfl⟩ := valDs_shape hv
  obtain ⟨vs', rfl, hs', hv'⟩ := keptDs_open h'
  obtain ⟨a', b', s', A1', n1', c1', A2', n2', c2', rfl⟩ := valDs_shape hv'
  clear h h'
  go_enter Try.func103, Try.ntmps103
  go_wp2_with fail
  refine (eqVal_calls v.v [_, _, _, _, _] [_, _, _, _, _] _ B (by simp; omega) (hv.below ((below_box2 _ _ _).mono hB)) (hv'.below ((below_box2 _ _ _).mono hB))).mono ?_
  rintro e w1 ⟨rfl, hb1⟩
  obtain ⟨hb, hz, hc, hf⟩ := bbox2 hb1
  clear hb1
  go_wp2
  go_ret
  exact ⟨rfl, hb⟩
theorem eqKepts_calls (vs : List Kept) : EqKepts vs := eqKepts_of vs fun v _ => eqKept_calls v

set_option maxHeartbeats 1000000 in
theorem eqAsker_calls (v : Asker) : EqAsker v := by
  intro us us' w B hB h h'
  obtain ⟨A, c, rfl, hs, hv⟩ := askerDs_open h
  obtain ⟨A', c', rfl, hs', hv'⟩ := askerDs_open h'
  have hn := hv.len
  clear h h'
  go_enter Try.func77, Try.ntmps77
  go_wp2_with fail
  refine (eqKepts_calls v.trees A A' c c' _ B (by simp; omega) (hv.below ((below_box2 _ _ _).mono hB)) (hv'.below ((below_box2 _ _ _).mono hB))).mono ?_
  rintro e w1 ⟨rfl, hb1⟩
  obtain ⟨hb, hz, hc, hf⟩ := bbox2 hb1
  clear hb1
  go_wp2
  go_ret
  exact ⟨rfl, hb⟩
theorem eqAskers_calls (vs : List Asker) : EqAskers vs := eqAskers_of vs fun v _ => eqAsker_calls v

set_option maxHeartbeats 1000000 in
theorem eqShelf_calls (v : Shelf) (us us' : List Value) (w : World) (B : Nat) (hB : B ≤ w.heap.size) (h : RDv w B (shelfDs v) us) (h' : RDv w B (shelfDs v) us') :
    Calls Try.prog 14 #[.agg us.toArray, .agg us'.toArray] w fun e w' => e = .returned (.bool true) ∧ Below w.heap.size w w' := by
  obtain ⟨A, c, rfl, hv⟩ := shelfDs_open h
  obtain ⟨A', c', rfl, hv'⟩ := shelfDs_open h'
  clear h h'
  go_enter Try.func14, Try.ntmps14
  go_wp2_with fail
  refine (eqAskers_calls v.askers A A' c c' _ B (by simp; omega) (hv.below ((below_box2 _ _ _).mono hB)) (hv'.below ((below_box2 _ _ _).mono hB))).mono ?_
  rintro e w1 ⟨rfl, hb1⟩
  obtain ⟨hb, hz, hc, hf⟩ := bbox2 hb1
  clear hb1
  go_wp2
  go_ret
  exact ⟨rfl, hb⟩
end Go.Proofs.Ytppfgepoegicgaa
