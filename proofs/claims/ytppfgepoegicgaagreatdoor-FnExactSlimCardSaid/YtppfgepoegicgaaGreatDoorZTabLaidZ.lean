/- Parts of the proof: TabLaidZ. -/
import Derived.Test.YtppfgepoegicgaaGreatDoorRows
import Derived.Test.YtppfgepoegicgaaGreatDoorGb
import Derived.Test.YtppfgepoegicgaaGreatDoorGab
import Derived.JoinedOf
import Derived.LaidLaws
namespace Go.Proofs.YtppfgepoegicgaaGreatDoor
open Go Go.RowKit Go.ChangeShapes Go.WideShapes Go.Deep

theorem laid_is : (Rows.laid_loop_example_cribble_impl_filtKids : DataW Unit) = .slice (tabCells.map fun z => .lit (.int .i64 z)) [] := rfl
theorem filtKids_named : Tryz.prog.globalNamed "loop.example/cribble/impl.filtKids" = some 0 := by kernel_rfl
theorem filtKids_type : (Tryz.prog.globals[0]?).map (·.type) = some 72 := by kernel_rfl

/-- What the row's 'laid' gives the walk: the table's cells. -/
theorem tab_of_laid {W : World} (h : laidMet Tryz.prog Rows.fnExactSlimRow.laid W) : Tab W W.heap.size := by
  obtain ⟨ps, ⟨g, t, cs, fuel, p, q, hg, ht, hvar, hd, _, _⟩, _⟩ := h
  obtain rfl := Option.some.inj (filtKids_named.symm.trans hg)
  obtain rfl := Option.some.inj (filtKids_type.symm.trans ht)
  rw [laid_is] at hd
  rcases DataW.trod_slice Tryz.underlying72 hd with ⟨_, hx⟩ | ⟨a, len, cap, elems, rest, n, hn, hcs, hx, _, hl, hm, hlen, hel, _⟩
  · cases congrArg Prod.fst hx
  · have hE := congrArg Prod.fst hx
    simp only [DataW.slice.injEq] at hE
    have hE1 := hE.1
    have h22 : elems.length = 22 := by
      have := congrArg List.length hE1
      simpa [tabCells] using this.symm
    obtain rfl : len = 22 := by omega
    have hc0 : W.cell? ⟨0, 0, none⟩ = some (.slice (some a) 22 cap) := by
      have := World.var?_cell hg hvar 0
      rw [this, ← Array.getElem?_toList, hcs]
      rfl
    have hT : ∀ i : Nat, i < 22 → W.cell? (a.add i) = some (.int .i64 (tabCells.getD i 0)) := fun i hi => by
      have h2 := hel i hi
      rw [List.getElem?_eq_getElem (by omega), Option.bind_eq_some_iff] at h2
      obtain ⟨cs', h3, h4⟩ := h2
      rw [Tryz.cells_int] at h3
      obtain ⟨_, h5, h6⟩ := World.cells?_some h3
      obtain ⟨s, hs, hx2, _⟩ := DataW.trod_int Tryz.underlying3 h4
      have e1 : (elems[i]'(by omega)).1 = .lit (.int .i64 (tabCells.getD i 0)) := by
        have h7 := congrArg (fun l => l[i]?) hE1
        simp only [List.getElem?_map, List.getElem?_eq_getElem (show i < elems.length by omega), Option.map_some] at h7
        have h8 : i < tabCells.length := by simpa [tabCells] using hi
        rw [List.getElem?_eq_getElem h8] at h7
        have h9 := Option.some.inj h7
        rw [← h9, List.getD_eq_getElem?_getD, List.getElem?_eq_getElem h8]
        rfl
      have e2 := congrArg Prod.fst hx2
      rw [e1] at e2
      have e3 : s = tabCells.getD i 0 := by simpa using e2.symm
      have h7 := h6 0 (by omega)
      rw [hs, add_of_add] at h7
      simp at h7
      rw [h7, e3]
    refine ⟨?_, a, cap, hc0, ?_, hT⟩
    · have := World.block_lt_of_cell? W _ hc0
      exact this
    · have := World.block_lt_of_cell? W _ (hT 0 (by omega))
      rwa [block_of_add] at this
end Go.Proofs.YtppfgepoegicgaaGreatDoor
