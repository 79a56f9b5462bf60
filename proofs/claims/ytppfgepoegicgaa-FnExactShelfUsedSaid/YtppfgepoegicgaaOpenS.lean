import Derived.Test.YtppfgepoegicgaaOpenV
import Derived.Test.YtppfgepoegicgaaAskerRows
namespace Go.Proofs.Ytppfgepoegicgaa
open Go Go.RowKit Go.ChangeShapes Go.WideShapes Go.Deep

section
variable {H : Type} {enc : TypeId × Value → H} {w : World} {spare : Nat → Bool} {held : Bool}
theorem Try.cells_lKept : Try.prog.cellsOf 118 = 6 := by kernel_rfl
theorem Try.cells_lKepts : Try.prog.cellsOf 93 = 1 := by kernel_rfl
theorem Try.cells_lAsker : Try.prog.cellsOf 95 = 4 := by kernel_rfl
theorem Try.cells_lAskers : Try.prog.cellsOf 22 = 1 := by kernel_rfl
theorem Try.cells_lShelf : Try.prog.cellsOf 24 = 1 := by kernel_rfl

set_option maxRecDepth 100000 in
theorem kept_open (fuel : Nat) (cs : List Value) (y : DataW H × List MemPlace) (h : DataW.trod enc Try.prog w 0 spare held fuel 118 cs = some y) : ∃ v : Kept, RDv w w.heap.size (keptDs v) cs := by
  obtain ⟨xs, n, rfl, hy, hlen, hxl, hf⟩ := DataW.trod_struct Try.underlying118 h
  rw [Try.cells_lKept] at hlen
  have hx : ∀ i (hi : i < 2), ∃ y, xs[i]? = some y := fun i hi => ⟨xs[i]'(by rw [hxl]; exact hi), List.getElem?_eq_getElem _⟩
  match cs, hlen with
  | [c0, c1, c2, c3, c4, c5], _ =>
    obtain ⟨y0, e0⟩ := hx 0 (by omega)
    obtain ⟨y1, e1⟩ := hx 1 (by omega)
    have f0 := (show DataW.trod enc Try.prog w 0 spare held n 9 (([c0, c1, c2, c3, c4, c5].drop 0).take (Try.prog.cellsOf 9)) = xs[0]? from hf 0 _ rfl).trans e0
    have f1 := (show DataW.trod enc Try.prog w 0 spare held n 52 (([c0, c1, c2, c3, c4, c5].drop 1).take (Try.prog.cellsOf 52)) = xs[1]? from hf 1 _ rfl).trans e1
    rw [Try.cells_string] at f0
    rw [Try.cells_lVal] at f1
    obtain ⟨s, k0, hs⟩ := string_open f0
    obtain ⟨v, hv⟩ := val_open _ _ _ f1
    simp at k0
    subst k0
    exact ⟨⟨s, v⟩, _, _, rfl, ⟨rfl, hs⟩, hv⟩

theorem keptsDs_append_ : ∀ a b : List Kept, keptsDs (a ++ b) = keptsDs a ++ keptsDs b
  | [], _ => rfl
  | s :: a, b => by simp [keptsDs, keptsDs_append_ a b]
theorem askersDs_append_ : ∀ a b : List Asker, askersDs (a ++ b) = askersDs a ++ askersDs b
  | [], _ => rfl
  | s :: a, b => by simp [askersDs, askersDs_append_ a b]

set_option maxRecDepth 100000 in
theorem asker_open (fuel : Nat) (cs : List Value) (y : DataW H × List MemPlace) (h : DataW.trod enc Try.prog w 0 spare held fuel 95 cs = some y) : ∃ v : Asker, RDv w w.heap.size (askerDs v) cs := by
  obtain ⟨xs, n, rfl, hy, hlen, hxl, hf⟩ := DataW.trod_struct Try.underlying95 h
  rw [Try.cells_lAsker] at hlen
  have hx : ∀ i (hi : i < 4), ∃ y, xs[i]? = some y := fun i hi => ⟨xs[i]'(by rw [hxl]; exact hi), List.getElem?_eq_getElem _⟩
  match cs, hlen with
  | [c0, c1, c2, c3], _ =>
    obtain ⟨y0, e0⟩ := hx 0 (by omega)
    obtain ⟨y1, e1⟩ := hx 1 (by omega)
    obtain ⟨y2, e2⟩ := hx 2 (by omega)
    obtain ⟨y3, e3⟩ := hx 3 (by omega)
    have f0 := (show DataW.trod enc Try.prog w 0 spare held n 9 (([c0, c1, c2, c3].drop 0).take (Try.prog.cellsOf 9)) = xs[0]? from hf 0 _ rfl).trans e0
    have f1 := (show DataW.trod enc Try.prog w 0 spare held n 3 (([c0, c1, c2, c3].drop 1).take (Try.prog.cellsOf 3)) = xs[1]? from hf 1 _ rfl).trans e1
    have f2 := (show DataW.trod enc Try.prog w 0 spare held n 3 (([c0, c1, c2, c3].drop 2).take (Try.prog.cellsOf 3)) = xs[2]? from hf 2 _ rfl).trans e2
    have f3 := (show DataW.trod enc Try.prog w 0 spare held n 93 (([c0, c1, c2, c3].drop 3).take (Try.prog.cellsOf 93)) = xs[3]? from hf 3 _ rfl).trans e3
    rw [Try.cells_string] at f0
    rw [Try.cells_int] at f1 f2
    rw [Try.cells_lKepts] at f3
    obtain ⟨s, k0, hs⟩ := string_open f0
    obtain ⟨m, k1⟩ := int_open f1
    obtain ⟨u, k2⟩ := int_open f2
    obtain ⟨A2, n2, q2, list, k4, l4, r4⟩ := slice_open (f := keptDs) (fs := keptsDs) (sz := 6) Try.underlying93 Try.cells_lKept (by omega) rfl (fun xs x => by rw [keptsDs_append_]; simp [keptsDs]) (fun n' _ => kept_open n') f3
    simp at k0 k1 k2 k4
    subst k0 k1 k2 k4 l4
    exact ⟨⟨s, m, u, list⟩, _, _, rfl, ⟨rfl, hs⟩, _, _, rfl, rfl, _, _, rfl, rfl, _, _, rfl, r4, rfl⟩

set_option maxRecDepth 100000 in
theorem shelf_open (fuel : Nat) (cs : List Value) (y : DataW H × List MemPlace) (h : DataW.trod enc Try.prog w 0 spare held fuel 24 cs = some y) : ∃ v : Shelf, RDv w w.heap.size (shelfDs v) cs := by
  obtain ⟨xs, n, rfl, hy, hlen, hxl, hf⟩ := DataW.trod_struct Try.underlying24 h
  rw [Try.cells_lShelf] at hlen
  have hx : ∀ i (hi : i < 1), ∃ y, xs[i]? = some y := fun i hi => ⟨xs[i]'(by rw [hxl]; exact hi), List.getElem?_eq_getElem _⟩
  match cs, hlen with
  | [c0], _ =>
    obtain ⟨y0, e0⟩ := hx 0 (by omega)
    have f3 := (show DataW.trod enc Try.prog w 0 spare held n 22 (([c0].drop 0).take (Try.prog.cellsOf 22)) = xs[0]? from hf 0 _ rfl).trans e0
    rw [Try.cells_lAskers] at f3
    obtain ⟨A2, n2, q2, list, k4, l4, r4⟩ := slice_open (f := askerDs) (fs := askersDs) (sz := 4) Try.underlying22 Try.cells_lAsker (by omega) rfl (fun xs x => by rw [askersDs_append_]; simp [askersDs]) (fun n' _ => asker_open n') f3
    simp at k4
    subst k4 l4
    exact ⟨⟨list⟩, _, _, rfl, r4, rfl⟩

set_option maxRecDepth 100000 in
/-- An argument that is a shelf. -/
theorem arg_shelf {r : Reach} {b0 : Nat} {v : Value} {d : DataW H} {p : List MemPlace} (hv : Value.okWide Try.prog w r b0 24 v) (h : DataW.Trod enc Try.prog w 0 spare held 24 v d p) :
    ∃ (us : List Value) (x : Shelf), v = .agg us.toArray ∧ RDv w w.heap.size (shelfDs x) us := by
  obtain ⟨cs, rfl, hsz⟩ := okWide_struct Try.underlying24 hv
  obtain ⟨fuel, hf⟩ := h
  obtain ⟨x, hx⟩ := shelf_open fuel _ _ hf
  exact ⟨cs.toList, x, by simp, hx⟩
end
end Go.Proofs.Ytppfgepoegicgaa
