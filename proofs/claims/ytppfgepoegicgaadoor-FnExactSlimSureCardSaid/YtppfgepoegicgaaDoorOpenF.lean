import Derived.Test.YtppfgepoegicgaaDoorOpenV
import Derived.Test.YtppfgepoegicgaaDoorFiltRows
namespace Go.Proofs.YtppfgepoegicgaaDoor
open Go Go.RowKit Go.ChangeShapes Go.WideShapes Go.Deep

section
variable {H : Type} {enc : TypeId × Value → H} {w : World} {spare : Nat → Bool} {held : Bool}
theorem Tryd.cells_lFilt : Tryd.prog.cellsOf 28 = 9 := by kernel_rfl
theorem Tryd.cells_lFilts : Tryd.prog.cellsOf 26 = 1 := by kernel_rfl
theorem filtsDs_append_ : ∀ a b : List Filt, filtsDs (a ++ b) = filtsDs a ++ filtsDs b
  | [], _ => rfl
  | s :: a, b => by simp [filtsDs, filtsDs_append_ a b]

set_option maxRecDepth 100000 in
theorem filt_open : ∀ (fuel : Nat) (cs : List Value) (y : DataW H × List MemPlace), DataW.trod enc Tryd.prog w 0 spare held fuel 28 cs = some y → ∃ v : Filt, RDv w w.heap.size (filtDs v) cs := by
  intro fuel
  induction fuel using Nat.strongRecOn with
  | _ fuel ih =>
    intro cs y h
    obtain ⟨xs, n, rfl, hy, hlen, hxl, hf⟩ := DataW.trod_struct Tryd.underlying28 h
    rw [Tryd.cells_lFilt] at hlen
    have hx : ∀ i (hi : i < 5), ∃ y, xs[i]? = some y := fun i hi => ⟨xs[i]'(by rw [hxl]; exact hi), List.getElem?_eq_getElem _⟩
    match cs, hlen with
    | [c0, c1, c2, c3, c4, c5, c6, c7, c8], _ =>
      obtain ⟨y0, e0⟩ := hx 0 (by omega)
      obtain ⟨y1, e1⟩ := hx 1 (by omega)
      obtain ⟨y2, e2⟩ := hx 2 (by omega)
      obtain ⟨y3, e3⟩ := hx 3 (by omega)
      obtain ⟨y4, e4⟩ := hx 4 (by omega)
      have f0 := (show DataW.trod enc Tryd.prog w 0 spare held n 3 (([c0, c1, c2, c3, c4, c5, c6, c7, c8].drop 0).take (Tryd.prog.cellsOf 3)) = xs[0]? from hf 0 _ rfl).trans e0
      have f1 := (show DataW.trod enc Tryd.prog w 0 spare held n 3 (([c0, c1, c2, c3, c4, c5, c6, c7, c8].drop 1).take (Tryd.prog.cellsOf 3)) = xs[1]? from hf 1 _ rfl).trans e1
      have f2 := (show DataW.trod enc Tryd.prog w 0 spare held n 9 (([c0, c1, c2, c3, c4, c5, c6, c7, c8].drop 2).take (Tryd.prog.cellsOf 9)) = xs[2]? from hf 2 _ rfl).trans e2
      have f3 := (show DataW.trod enc Tryd.prog w 0 spare held n 25 (([c0, c1, c2, c3, c4, c5, c6, c7, c8].drop 3).take (Tryd.prog.cellsOf 25)) = xs[3]? from hf 3 _ rfl).trans e3
      have f4 := (show DataW.trod enc Tryd.prog w 0 spare held n 26 (([c0, c1, c2, c3, c4, c5, c6, c7, c8].drop 8).take (Tryd.prog.cellsOf 26)) = xs[4]? from hf 4 _ rfl).trans e4
      rw [Tryd.cells_int] at f0 f1
      rw [Tryd.cells_string] at f2
      rw [Tryd.cells_lVal] at f3
      rw [Tryd.cells_lFilts] at f4
      obtain ⟨k, k0⟩ := int_open f0
      obtain ⟨m, k1⟩ := int_open f1
      obtain ⟨s, k2, hs⟩ := string_open f2
      obtain ⟨v, hv⟩ := val_open _ _ _ f3
      obtain ⟨A2, n2, q2, list, k4, l4, r4⟩ := slice_open (f := filtDs) (fs := filtsDs) (sz := 9) Tryd.underlying26 Tryd.cells_lFilt (by omega) rfl (fun xs x => by rw [filtsDs_append_]; simp [filtsDs]) (fun n' hn' => ih n' (by omega)) f4
      simp at k0 k1 k2 k4 hv
      subst k0 k1 k2 k4 l4
      have hr : RDv w w.heap.size [.row 9 list.length (filtsDs list)] [.slice A2 list.length q2] := ⟨_, _, rfl, r4, rfl⟩
      exact ⟨.mk k m s v list, _, _, rfl, rfl, _, _, rfl, rfl, _, _, rfl, ⟨rfl, hs⟩, RDv.append_iff.2 ⟨_, _, rfl, hv, hr⟩⟩

/-- An argument that is a filter. -/
theorem arg_filt {r : Reach} {b0 : Nat} {v : Value} {d : DataW H} {p : List MemPlace} (hv : Value.okWide Tryd.prog w r b0 28 v) (h : DataW.Trod enc Tryd.prog w 0 spare held 28 v d p) :
    ∃ (us : List Value) (x : Filt), v = .agg us.toArray ∧ RDv w w.heap.size (filtDs x) us := by
  obtain ⟨cs, rfl, hsz⟩ := okWide_struct Tryd.underlying28 hv
  obtain ⟨fuel, hf⟩ := h
  obtain ⟨x, hx⟩ := filt_open fuel _ _ hf
  exact ⟨cs.toList, x, by simp, hx⟩
end
end Go.Proofs.YtppfgepoegicgaaDoor
