/- What comes in from outside reads as a tree of the program's kind. -/
import Derived.Test.YtppfgepoegicgaaProg
import Derived.Test.YtppfgepoegicgaaGa
import Derived.KernelRfl
import Derived.Deep.Slices
import Derived.Test.YtppfgepoegicgaaGb
namespace Go.Proofs.Ytppfgepoegicgaa
open Go Go.RowKit Go.ChangeShapes Go.WideShapes Go.Deep

section
variable {H : Type} {enc : TypeId × Value → H} {w : World} {spare : Nat → Bool} {held : Bool}

/-- Elements one by one, put together as a row. -/
theorem rows_open {α : Type} {f : α → List Dat} {fs : List α → List Dat} {sz B : Nat} {a : Addr} (h0 : fs [] = []) (h1 : ∀ xs x, fs (xs ++ [x]) = fs xs ++ f x) :
    ∀ len : Nat, (∀ i, i < len → ∃ x cs', cs'.length = sz ∧ RDv w B (f x) cs' ∧ ∀ j u, cs'[j]? = some u → w.cell? (a.add (i * sz + j)) = some u) →
    ∃ xs us, xs.length = len ∧ us.length = len * sz ∧ RDv w B (fs xs) us ∧ ∀ j u, us[j]? = some u → w.cell? (a.add j) = some u
  | 0, _ => ⟨[], [], rfl, by simp, by rw [h0]; rfl, fun j u hu => by simp at hu⟩
  | len + 1, h => by
    obtain ⟨xs, us, e1, e2, e3, e4⟩ := rows_open h0 h1 len (fun i hi => h i (by omega))
    obtain ⟨x, cs', g1, g2, g3⟩ := h len (by omega)
    refine ⟨xs ++ [x], us ++ cs', by simp [e1], by rw [List.length_append, e2, g1, Nat.succ_mul], by rw [h1]; exact RDv.append_iff.2 ⟨us, cs', rfl, e3, g2⟩, fun j u hu => ?_⟩
    by_cases hj : j < us.length
    · rw [List.getElem?_append_left hj] at hu
      exact e4 j u hu
    · rw [List.getElem?_append_right (by omega)] at hu
      have := g3 _ u hu
      rw [show len * sz + (j - us.length) = j by omega] at this
      exact this

/-- A slice that comes in, its elements being readable. -/
theorem slice_open {P : Program} {t e : TypeId} {α : Type} {f : α → List Dat} {fs : List α → List Dat} {sz : Nat} (ht : P.underlying t = some (.slice e)) (hc : P.cellsOf e = sz) (hsz : 0 < sz) (h0 : fs [] = []) (h1 : ∀ xs x, fs (xs ++ [x]) = fs xs ++ f x)
    {fuel : Nat} (he : ∀ (n : Nat), n < fuel → ∀ (cs : List Value) (y : DataW H × List MemPlace), DataW.trod enc P w 0 spare held n e cs = some y → ∃ x, RDv w w.heap.size (f x) cs)
    {cs : List Value} {y : DataW H × List MemPlace} (h : DataW.trod enc P w 0 spare held fuel t cs = some y) : ∃ A n c xs, cs = [.slice A n c] ∧ xs.length = n ∧ RD w w.heap.size (.row sz n (fs xs)) (.slice A n c) := by
  have hpos : ∃ m, fuel = m + 1 := by
    cases fuel with
    | zero => simp [DataW.trod] at h
    | succ m => exact ⟨m, rfl⟩
  rcases DataW.trod_slice ht h with ⟨rfl, _⟩ | ⟨a, len, cap, elems, rest, n, hn, rfl, _, _, hl, hm, hlen, hel, _⟩
  · exact ⟨none, 0, 0, [], rfl, rfl, none, 0, [], rfl, Nat.le_refl _, by omega, Reads.none_ _, by rw [h0]; rfl⟩
  · obtain ⟨xs, us, e1, e2, e3, e4⟩ := rows_open (w := w) (B := w.heap.size) (a := a) (sz := sz) h0 h1 len (fun i hi => by
      have h2 := hel i hi
      rw [List.getElem?_eq_getElem (by omega), Option.bind_eq_some_iff] at h2
      obtain ⟨cs', h3, h4⟩ := h2
      rw [hc] at h3
      obtain ⟨_, h5, h6⟩ := World.cells?_some h3
      obtain ⟨x, hx⟩ := he n (by omega) cs' _ h4
      refine ⟨x, cs', h5, hx, fun j u hu => ?_⟩
      have hj : j < sz := by
        have := (List.getElem?_eq_some_iff.1 hu).1
        omega
      rw [← add_of_add, h6 j hj]
      exact hu)
    refine ⟨some a, len, cap, xs, rfl, e1, some a, cap, us, rfl, hl, ?_, ⟨e2, fun hp => ⟨a, rfl, ?_, e4⟩⟩, e3⟩
    · simp only [maxLen] at hm
      omega
    · have h2 := hel 0 hp
      rw [List.getElem?_eq_getElem (by omega), Option.bind_eq_some_iff] at h2
      obtain ⟨cs', h3, h4⟩ := h2
      rw [hc] at h3
      obtain ⟨_, h5, h6⟩ := World.cells?_some h3
      have h7 := h6 0 hsz
      rw [List.getElem?_eq_getElem (by omega)] at h7
      have h8 := World.block_lt_of_cell? w _ h7
      rw [block_of_add, block_of_add] at h8
      exact h8

theorem Try.cells_string : Try.prog.cellsOf 9 = 1 := by kernel_rfl
theorem Try.cells_strings : Try.prog.cellsOf 36 = 1 := by kernel_rfl
theorem Try.cells_int : Try.prog.cellsOf 3 = 1 := by kernel_rfl
theorem Try.cells_lVal : Try.prog.cellsOf 52 = 5 := by kernel_rfl
theorem Try.cells_lVals : Try.prog.cellsOf 50 = 1 := by kernel_rfl

theorem strDs_append_ : ∀ a b : List ByteArray, strDs (a ++ b) = strDs a ++ strDs b
  | [], _ => rfl
  | s :: a, b => by simp [strDs, strDs_append_ a b]
theorem valsDs_append_ : ∀ a b : List Val, valsDs (a ++ b) = valsDs a ++ valsDs b
  | [], _ => rfl
  | s :: a, b => by simp [valsDs, valsDs_append_ a b]

theorem string_open {fuel : Nat} {cs : List Value} {y : DataW H × List MemPlace} (h : DataW.trod enc Try.prog w 0 spare held fuel 9 cs = some y) : ∃ s : ByteArray, cs = [.string s] ∧ s.size ≤ 9223372036854775807 := by
  obtain ⟨s, rfl, _, hs⟩ := DataW.trod_string Try.underlying9 h
  simp only [maxLen] at hs
  exact ⟨s, rfl, by omega⟩
theorem strings_open {fuel : Nat} {cs : List Value} {y : DataW H × List MemPlace} (h : DataW.trod enc Try.prog w 0 spare held fuel 36 cs = some y) : ∃ A n c ks, cs = [.slice A n c] ∧ ks.length = n ∧ RD w w.heap.size (.row 1 n (strDs ks)) (.slice A n c) :=
  slice_open (f := fun s => [.str s]) (fs := strDs) (sz := 1) Try.underlying36 Try.cells_string (by omega) rfl (fun xs x => by rw [strDs_append_]; rfl) (fun n _ cs y h => by
    obtain ⟨s, rfl, hs⟩ := string_open h
    exact ⟨s, _, _, rfl, ⟨rfl, hs⟩, rfl⟩) h
theorem int_open {fuel : Nat} {cs : List Value} {y : DataW H × List MemPlace} (h : DataW.trod enc Try.prog w 0 spare held fuel 3 cs = some y) : ∃ n : Int, cs = [.int .i64 n] := by
  obtain ⟨n, rfl, _⟩ := DataW.trod_int Try.underlying3 h
  exact ⟨n, rfl⟩

theorem drop_take_one {l : List Value} {n : Nat} {v : Value} (h : (l.drop n).take 1 = [v]) : l[n]? = some v := by
  have := congrArg (fun l => l[0]?) h
  simpa using this

set_option maxRecDepth 100000 in
theorem val_open : ∀ (fuel : Nat) (cs : List Value) (y : DataW H × List MemPlace), DataW.trod enc Try.prog w 0 spare held fuel 52 cs = some y → ∃ v : Val, RDv w w.heap.size (valDs v) cs := by
  intro fuel
  induction fuel using Nat.strongRecOn with
  | _ fuel ih =>
    intro cs y h
    obtain ⟨xs, n, rfl, hy, hlen, hxl, hf⟩ := DataW.trod_struct Try.underlying52 h
    rw [Try.cells_lVal] at hlen
    have hx : ∀ i (hi : i < 5), ∃ y, xs[i]? = some y := fun i hi => ⟨xs[i]'(by rw [hxl]; exact hi), List.getElem?_eq_getElem _⟩
    match cs, hlen with
    | [c0, c1, c2, c3, c4], _ =>
      obtain ⟨y0, e0⟩ := hx 0 (by omega)
      obtain ⟨y1, e1⟩ := hx 1 (by omega)
      obtain ⟨y2, e2⟩ := hx 2 (by omega)
      obtain ⟨y3, e3⟩ := hx 3 (by omega)
      obtain ⟨y4, e4⟩ := hx 4 (by omega)
      have f0 := (show DataW.trod enc Try.prog w 0 spare held n 3 (([c0, c1, c2, c3, c4].drop 0).take (Try.prog.cellsOf 3)) = xs[0]? from hf 0 _ rfl).trans e0
      have f1 := (show DataW.trod enc Try.prog w 0 spare held n 3 (([c0, c1, c2, c3, c4].drop 1).take (Try.prog.cellsOf 3)) = xs[1]? from hf 1 _ rfl).trans e1
      have f2 := (show DataW.trod enc Try.prog w 0 spare held n 9 (([c0, c1, c2, c3, c4].drop 2).take (Try.prog.cellsOf 9)) = xs[2]? from hf 2 _ rfl).trans e2
      have f3 := (show DataW.trod enc Try.prog w 0 spare held n 36 (([c0, c1, c2, c3, c4].drop 3).take (Try.prog.cellsOf 36)) = xs[3]? from hf 3 _ rfl).trans e3
      have f4 := (show DataW.trod enc Try.prog w 0 spare held n 50 (([c0, c1, c2, c3, c4].drop 4).take (Try.prog.cellsOf 50)) = xs[4]? from hf 4 _ rfl).trans e4
      rw [Try.cells_int] at f0 f1
      rw [Try.cells_string] at f2
      rw [Try.cells_strings] at f3
      rw [Try.cells_lVals] at f4
      obtain ⟨k, k0⟩ := int_open f0
      obtain ⟨m, k1⟩ := int_open f1
      obtain ⟨s, k2, hs⟩ := string_open f2
      obtain ⟨A1, n1, q1, keys, k3, l3, r3⟩ := strings_open f3
      obtain ⟨A2, n2, q2, list, k4, l4, r4⟩ := slice_open (f := valDs) (fs := valsDs) (sz := 5) Try.underlying50 Try.cells_lVal (by omega) rfl (fun xs x => by rw [valsDs_append_]; simp [valsDs]) (fun n' hn' => ih n' (by omega)) f4
      simp at k0 k1 k2 k3 k4
      subst k0 k1 k2 k3 k4 l3 l4
      exact ⟨.mk k m s keys list, _, _, rfl, rfl, _, _, rfl, rfl, _, _, rfl, ⟨rfl, hs⟩, _, _, rfl, r3, _, _, rfl, r4, rfl⟩

set_option maxRecDepth 100000 in
/-- An argument that is a tree. -/
theorem arg_val {r : Reach} {b0 : Nat} {v : Value} {d : DataW H} {p : List MemPlace} (hv : Value.okWide Try.prog w r b0 52 v) (h : DataW.Trod enc Try.prog w 0 spare held 52 v d p) :
    ∃ (us : List Value) (x : Val), v = .agg us.toArray ∧ RDv w w.heap.size (valDs x) us := by
  obtain ⟨cs, rfl, hsz⟩ := okWide_struct Try.underlying52 hv
  obtain ⟨fuel, hf⟩ := h
  obtain ⟨x, hx⟩ := val_open fuel _ _ hf
  exact ⟨cs.toList, x, by simp, hx⟩
end
end Go.Proofs.Ytppfgepoegicgaa
namespace Go.Proofs.Ytppfgepoegicgaa
open Go Go.RowKit Go.ChangeShapes Go.WideShapes Go.Deep

section
variable {H : Type} {enc : TypeId × Value → H} {w : World} {spare : Nat → Bool} {held : Bool}
theorem Try.cells_lKept : Try.prog.cellsOf 118 = 6 := by kernel_rfl
theorem Try.cells_lKepts : Try.prog.cellsOf 93 = 1 := by kernel_rfl
theorem Try.cells_lAsker : Try.prog.cellsOf 95 = 4 := by kernel_rfl
theorem Try.cells_lAskers : Try.prog.cellsOf 22 = 1 := by kernel_rfl
theorem Try.cells_lShelf : Try.prog.cellsOf 24 = 1 := by kernel_rfl

set_option maxRecDepth 100000 in
theorem kept_open (fuel : Nat) (cs : List Value) (y : DataW H × List MemPlace) (h : DataW.trod enc Try.prog w 0 spare held fuel 118 cs = some y) : ∃ v : Kept, RDv w w.heap.size (keptDs v) cs := by
  obtain ⟨xs, n, rfl, hy, hlen, hxl, hf⟩ := DataW.trod_struct Try.underlying118 h
  rw [Try.cells_lKept] at hlen
  have hx : ∀ i (hi : i < 2), ∃ y, xs[i]? = some y := fun i hi => ⟨xs[i]'(by rw [hxl]; exact hi), List.getElem?_eq_getElem _⟩
  match cs, hlen with
  | [c0, c1, c2, c3, c4, c5], _ =>
    obtain ⟨y0, e0⟩ := hx 0 (by omega)
    obtain ⟨y1, e1⟩ := hx 1 (by omega)
    have f0 := (show DataW.trod enc Try.prog w 0 spare held n 9 (([c0, c1, c2, c3, c4, c5].drop 0).take (Try.prog.cellsOf 9)) = xs[0]? from hf 0 _ rfl).trans e0
    have f1 := (show DataW.trod enc Try.prog w 0 spare held n 52 (([c0, c1, c2, c3, c4, c5].drop 1).take (Try.prog.cellsOf 52)) = xs[1]? from hf 1 _ rfl).trans e1
    rw [Try.cells_string] at f0
    rw [Try.cells_lVal] at f1
    obtain ⟨s, k0, hs⟩ := string_open f0
    obtain ⟨v, hv⟩ := val_open _ _ _ f1
    simp at k0
    subst k0
    exact ⟨⟨s, v⟩, _, _, rfl, ⟨rfl, hs⟩, hv⟩

theorem keptsDs_append_ : ∀ a b : List Kept, keptsDs (a ++ b) = keptsDs a ++ keptsDs b
  | [], _ => rfl
  | s :: a, b => by simp [keptsDs, keptsDs_append_ a b]
theorem askersDs_append_ : ∀ a b : List Asker, askersDs (a ++ b) = askersDs a ++ askersDs b
  | [], _ => rfl
  | s :: a, b => by simp [askersDs, askersDs_append_ a b]

set_option maxRecDepth 100000 in
theorem asker_open (fuel : Nat) (cs : List Value) (y : DataW H × List MemPlace) (h : DataW.trod enc Try.prog w 0 spare held fuel 95 cs = some y) : ∃ v : Asker, RDv w w.heap.size (askerDs v) cs := by
  obtain ⟨xs, n, rfl, hy, hlen, hxl, hf⟩ := DataW.trod_struct Try.underlying95 h
  rw [Try.cells_lAsker] at hlen
  have hx : ∀ i (hi : i < 4), ∃ y, xs[i]? = some y := fun i hi => ⟨xs[i]'(by rw [hxl]; exact hi), List.getElem?_eq_getElem _⟩
  match cs, hlen with
  | [c0, c1, c2, c3], _ =>
    obtain ⟨y0, e0⟩ := hx 0 (by omega)
    obtain ⟨y1, e1⟩ := hx 1 (by omega)
    obtain ⟨y2, e2⟩ := hx 2 (by omega)
    obtain ⟨y3, e3⟩ := hx 3 (by omega)
    have f0 := (show DataW.trod enc Try.prog w 0 spare held n 9 (([c0, c1, c2, c3].drop 0).take (Try.prog.cellsOf 9)) = xs[0]? from hf 0 _ rfl).trans e0
    have f1 := (show DataW.trod enc Try.prog w 0 spare held n 3 (([c0, c1, c2, c3].drop 1).take (Try.prog.cellsOf 3)) = xs[1]? from hf 1 _ rfl).trans e1
    have f2 := (show DataW.trod enc Try.prog w 0 spare held n 3 (([c0, c1, c2, c3].drop 2).take (Try.prog.cellsOf 3)) = xs[2]? from hf 2 _ rfl).trans e2
    have f3 := (show DataW.trod enc Try.prog w 0 spare held n 93 (([c0, c1, c2, c3].drop 3).take (Try.prog.cellsOf 93)) = xs[3]? from hf 3 _ rfl).trans e3
    rw [Try.cells_string] at f0
    rw [Try.cells_int] at f1 f2
    rw [Try.cells_lKepts] at f3
    obtain ⟨s, k0, hs⟩ := string_open f0
    obtain ⟨m, k1⟩ := int_open f1
    obtain ⟨u, k2⟩ := int_open f2
    obtain ⟨A2, n2, q2, list, k4, l4, r4⟩ := slice_open (f := keptDs) (fs := keptsDs) (sz := 6) Try.underlying93 Try.cells_lKept (by omega) rfl (fun xs x => by rw [keptsDs_append_]; simp [keptsDs]) (fun n' _ => kept_open n') f3
    simp at k0 k1 k2 k4
    subst k0 k1 k2 k4 l4
    exact ⟨⟨s, m, u, list⟩, _, _, rfl, ⟨rfl, hs⟩, _, _, rfl, rfl, _, _, rfl, rfl, _, _, rfl, r4, rfl⟩

set_option maxRecDepth 100000 in
theorem shelf_open (fuel : Nat) (cs : List Value) (y : DataW H × List MemPlace) (h : DataW.trod enc Try.prog w 0 spare held fuel 24 cs = some y) : ∃ v : Shelf, RDv w w.heap.size (shelfDs v) cs := by
  obtain ⟨xs, n, rfl, hy, hlen, hxl, hf⟩ := DataW.trod_struct Try.underlying24 h
  rw [Try.cells_lShelf] at hlen
  have hx : ∀ i (hi : i < 1), ∃ y, xs[i]? = some y := fun i hi => ⟨xs[i]'(by rw [hxl]; exact hi), List.getElem?_eq_getElem _⟩
  match cs, hlen with
  | [c0], _ =>
    obtain ⟨y0, e0⟩ := hx 0 (by omega)
    have f3 := (show DataW.trod enc Try.prog w 0 spare held n 22 (([c0].drop 0).take (Try.prog.cellsOf 22)) = xs[0]? from hf 0 _ rfl).trans e0
    rw [Try.cells_lAskers] at f3
    obtain ⟨A2, n2, q2, list, k4, l4, r4⟩ := slice_open (f := askerDs) (fs := askersDs) (sz := 4) Try.underlying22 Try.cells_lAsker (by omega) rfl (fun xs x => by rw [askersDs_append_]; simp [askersDs]) (fun n' _ => asker_open n') f3
    simp at k4
    subst k4 l4
    exact ⟨⟨list⟩, _, _, rfl, r4, rfl⟩

set_option maxRecDepth 100000 in
/-- An argument that is a shelf. -/
theorem arg_shelf {r : Reach} {b0 : Nat} {v : Value} {d : DataW H} {p : List MemPlace} (hv : Value.okWide Try.prog w r b0 24 v) (h : DataW.Trod enc Try.prog w 0 spare held 24 v d p) :
    ∃ (us : List Value) (x : Shelf), v = .agg us.toArray ∧ RDv w w.heap.size (shelfDs x) us := by
  obtain ⟨cs, rfl, hsz⟩ := okWide_struct Try.underlying24 hv
  obtain ⟨fuel, hf⟩ := h
  obtain ⟨x, hx⟩ := shelf_open fuel _ _ hf
  exact ⟨cs.toList, x, by simp, hx⟩
end
end Go.Proofs.Ytppfgepoegicgaa
