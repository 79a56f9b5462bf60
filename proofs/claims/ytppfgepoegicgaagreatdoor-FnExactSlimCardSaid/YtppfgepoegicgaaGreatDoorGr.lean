/- slices.Insert of one element into a row of one's own. -/
import Derived.Test.YtppfgepoegicgaaGreatDoorGn
namespace Go.Proofs.YtppfgepoegicgaaGreatDoor
open Go Go.RowKit

/-- What comes back: the row with the element at i. -/
def InsS (w : World) (base : Nat) (ob : Option Nat) (n i : Nat) (us xs : List Value) (e : Ending) (w' : World) : Prop :=
  ∃ A c, e = .returned (.slice A (n + 1) c) ∧ w'.ownsRow base 9 1 (.slice A (n + 1) c) (n + 1) (us.take (i * 1) ++ xs ++ us.drop (i * 1)) ∧ w.grownBy w' ob ∧ ((Value.slice A (n + 1) c).ownBlock = ob ∨ ∃ k, (Value.slice A (n + 1) c).ownBlock = some k ∧ w.heap.size ≤ k)
set_option maxRecDepth 100000 in
set_option maxHeartbeats 8000000 in
theorem insEndS (A : Option Addr) (n c g : Nat) (us xs : List Value) (w : World) (base : Nat) (hb : base ≤ w.heap.size) (hown : w.ownsRow base 9 1 (.slice A n c) n us) (hx : Blk w g 9 xs) (hxl : xs.length = 1) (hone : ∀ u ∈ xs, u.oneCell' = true) (hn : n ≤ 1048576) :
    Calls Tryz.prog 100 #[.slice A n c, .int .i64 n, .slice (some ⟨g, 0, none⟩) 1 1] w (InsS w base (Value.slice A n c).ownBlock n n us xs) := by
  obtain ⟨ob, eo⟩ : ∃ ob, ob = (Value.slice A n c).ownBlock := ⟨_, rfl⟩
  rw [← eo]
  have EO := Lib.hid eo
  obtain ⟨iE, hiE, zE0, zE1, zE2⟩ := info_parts' Tryz.info_string
  have HO := Lib.hid hown
  have HR := Lib.hid (show Reads w (g + 1) 1 (some ⟨g, 0, none⟩) 1 xs from ⟨by omega, fun _ => ⟨_, rfl, by show g < g + 1; omega, fun j u hj => by rw [show (⟨g, 0, none⟩ : Addr).add j = ⟨g, j, none⟩ by unfold Addr.add; split <;> simp_all, hx.cell]; exact hj⟩⟩)
  have HN := Lib.hid hone
  have hul := hown.1
  have HU := Lib.hid hul
  have hcap : n ≤ c ∧ c ≤ 9223372036854775807 := by
    obtain ⟨_, ⟨e, h0⟩ | ⟨_, cap, _, e, _, _, h1, h2, _⟩⟩ := hown
    · injection e with _ _ e; omega
    · injection e with _ _ e; unfold maxLen at h2; omega
  obtain ⟨hc1, hc2⟩ := hcap
  clear hown hone hul hxl eo
  go_enter Tryz.func100, Tryz.ntmps100
  go_wp2_with (at_builtin; go_loud (refine wpList_append_reads _ rfl _ _ 22 rfl base 9 iE _ 1 16 Tryz.underlying22 hiE zE0 zE1 zE2 rfl (by decide) _ n us (by rfl) HO.out _ 1 1 (g + 1) xs (by rfl) HR.out HN.out (by unfold maxLen; omega) (by omega) hb ?_; intro v7 w7 hown7 hg7 hat7; obtain ⟨A7, n7, q7, rfl⟩ := owns_shape hown7; have HW7 := Lib.hid hown7; have HG7 := Lib.hid hg7; have HA7 := Lib.hid hat7; clear hown7 hg7 hat7))
  all_goals
    go_ret
    have hn7 : n7 = n + 1 := by
      obtain ⟨_, ⟨_, h0⟩ | ⟨_, _, _, e, _⟩⟩ := HW7.out
      · omega
      · injection e
    subst hn7
    exact ⟨_, _, rfl, by rw [List.take_of_length_le (by rw [HU.out]; exact Nat.le_refl _), List.drop_of_length_le (by rw [HU.out]; exact Nat.le_refl _), List.append_nil]; exact HW7.out, by rw [EO.out]; exact HG7.out, by rw [EO.out]; exact HA7.out.imp id fun h => ⟨_, h, Nat.le_refl _⟩⟩
set_option maxRecDepth 100000 in
set_option maxHeartbeats 8000000 in
/-- In the midst, and no room: a new row. -/
theorem insGrowS (gb n i c g : Nat) (cur : Array Value) (us xs : List Value) (w : World) (hi : i < n) (hc : n ≤ c) (hroom : c < n + 1) (hg : w.heap[gb]? = some (.cells cur 9 (0, 0))) (hcur : cur.toList.take (n * 1) = us) (hul : us.length = n * 1) (hx : Blk w g 9 xs) (hxl : xs.length = 1) (hou : ∀ u ∈ us, u.oneCell' = true) (hox : ∀ u ∈ xs, u.oneCell' = true) (hn : n ≤ 1048576) :
    Calls Tryz.prog 100 #[.slice (some ⟨gb, 0, none⟩) n c, .int .i64 i, .slice (some ⟨g, 0, none⟩) 1 1] w fun e w' => ∃ c' R, e = .returned (.slice (some ⟨w.heap.size, 0, none⟩) (n + 1) c') ∧ Below w.heap.size w w' ∧ w'.heap[w.heap.size]? = some (.cells R 9 (0, 0)) ∧ n + 1 ≤ c' ∧ c' ≤ maxLen ∧ R.size = c' * 1 ∧ R.toList.take ((n + 1) * 1) = us.take (i * 1) ++ xs ++ us.drop (i * 1) := by
  obtain ⟨iE, hiE, zE0, zE1, zE2⟩ := info_parts' Tryz.info_string
  have hcell : ∀ (W : World), W.heap[gb]? = w.heap[gb]? → ∀ j u, us[j]? = some u → W.cell? ⟨gb, j, none⟩ = some u := fun W hW j u hj => by
    have h1 : W.cell? ⟨gb, j, none⟩ = w.cell? ⟨gb, j, none⟩ := World.cell?_of_block hW
    have h2 : j < n * 1 := hul ▸ (List.getElem?_eq_some_iff.1 hj).1
    rw [h1]
    simp only [World.cell?, hg]
    rw [← hcur, List.getElem?_take_of_lt h2] at hj
    simpa using hj
  have hbw : gb < w.heap.size := (Array.getElem?_eq_some_iff.1 hg).1
  have hold : (Builtin.firstCells iE.size i (.slice (some ⟨gb, 0, none⟩) i c)).run Tryz.prog w.drew = .ok (us.take (i * 1)).toArray w.drew := by
    rw [zE1]
    exact run_firstCells_some w.drew 1 i ⟨gb, 0, none⟩ i c (us.take (i * 1)) (by rw [List.length_take, hul]; omega) (fun j v hj => by
      rw [show (⟨gb, 0, none⟩ : Addr).add j = ⟨gb, j, none⟩ by unfold Addr.add; split <;> simp_all]
      refine hcell w.drew rfl j v ?_
      rw [List.getElem?_take] at hj
      split at hj
      · exact hj
      · cases hj)
  have hik : i + (n + 1 - i) = n + 1 := by omega
  have hkk : (n : Int) + 1 - (i : Int) = ((n + 1 - i : Nat) : Int) := by omega
  have hrz := fun ty => Lib.run_append_grow_zeros w 22 3 ty 9 iE _ .i64 .i64 Tryz.underlying22 Tryz.underlying3 hiE zE0 (some ⟨gb, 0, none⟩) i c (us.take (i * 1)) hold (n + 1 - i) (by omega) (by rw [zE1]; decide) (by omega) (by omega) (by rw [zE2]; omega) (by rw [zE2, hik]; exact growslice_fits hroom (by omega))
  rw [hik, ← hkk] at hrz
  obtain ⟨G, hG⟩ : ∃ G, G = grownCap w (n + 1) c 9 := ⟨_, rfl⟩
  rw [← hG] at hrz
  have hGn : n + 1 ≤ G := by rw [hG]; exact grownCap_ge w _ _ _
  have hGm : G ≤ maxLen := by rw [hG]; exact grownCap_le_maxLen w (n + 1) c 9 (by unfold maxLen; omega)
  obtain ⟨ROW, hROW⟩ : ∃ ROW : Array Value, ROW = (us.take (i * 1)).toArray ++ Builtin.zeroCells (Value.string ⟨#[]⟩).cells (n + 1 - i) ++ Builtin.zeroCells (Value.string ⟨#[]⟩).cells (G - (n + 1)) := ⟨_, rfl⟩
  obtain ⟨Zs, hZs⟩ : ∃ Zs : List Value, ROW.toList = us.take (i * 1) ++ Zs := ⟨_, by rw [hROW]; simp; rfl⟩
  have hRs : ROW.size = G * 1 := by
    rw [hROW, Array.size_append, Array.size_append, size_zeroCells, size_zeroCells]
    simp [Value.cells, hul]
    omega
  rw [← hROW] at hrz
  clear hROW hold hik
  have hsz : (Tryz.prog.info? 9).map (·.size) = some 1 := by rw [hiE]; simp [zE1]
  have hgw := hx.lt
  obtain ⟨W1, hW1⟩ : ∃ W, W = w.alloc (.cells ROW 9) := ⟨_, rfl⟩
  have hN1 : W1.heap[w.heap.size]? = some (.cells ROW 9 (0, 0)) := by rw [hW1]; exact heap_alloc_new w _
  have hcpA : ∀ (W : World), W.heap = W1.heap → ∀ ty dc, (Builtin.copy_ #[22, 22] ty #[.slice (some ⟨w.heap.size, i * 1, none⟩) (n + 1 - i) dc, .slice (some ⟨g, 0, none⟩) 1 1]).run Tryz.prog W = .ok (goInt (Nat.min 1 (n + 1 - i))) (W.setRow w.heap.size (ROW.toList.take (i * 1) ++ xs ++ ROW.toList.drop (i * 1 + xs.length)).toArray) := fun W hW ty dc =>
    run_copy_n W _ _ ty 9 w.heap.size (i * 1) (n + 1 - i) dc ⟨g, 0, none⟩ 1 1 1 ROW 9 xs Tryz.underlying22 hsz (by rw [hW]; exact hN1) (by rw [hxl, show Nat.min 1 (n + 1 - i) = 1 from Nat.min_eq_left (by omega)]) (fun j v hj => by
      rw [show (⟨g, 0, none⟩ : Addr).add j = ⟨g, j, none⟩ by unfold Addr.add; split <;> simp_all]
      have h1 : W.cell? ⟨g, j, none⟩ = w.cell? ⟨g, j, none⟩ := World.cell?_of_block (by rw [hW, hW1]; exact Below.heap_alloc _ _ _ hgw)
      rw [h1, hx.cell]; exact hj) (by rw [hxl, hRs]; omega) hox
  obtain ⟨R1, hR1⟩ : ∃ R1 : Array Value, R1 = (ROW.toList.take (i * 1) ++ xs ++ ROW.toList.drop (i * 1 + xs.length)).toArray := ⟨_, rfl⟩
  rw [← hR1] at hcpA
  have hR1s : R1.size = G * 1 := by rw [hR1]; simp [hxl, hRs]; omega
  have hdl : (us.drop (i * 1)).length = (n - i) * 1 := by rw [List.length_drop, hul]; omega
  have hN2 : (W1.setRow w.heap.size R1).heap[w.heap.size]? = some (.cells R1 9 (0, 0)) := setRow_heap W1 _ ROW R1 _ _ hN1
  have hcpB : ∀ (W : World), W.heap = (W1.setRow w.heap.size R1).heap → ∀ ty dc sc, (Builtin.copy_ #[22, 22] ty #[.slice (some ⟨w.heap.size, (i + 1) * 1, none⟩) (n + 1 - (i + 1)) dc, .slice (some ⟨gb, i * 1, none⟩) (n - i) sc]).run Tryz.prog W = .ok (goInt (Nat.min (n - i) (n + 1 - (i + 1)))) (W.setRow w.heap.size (R1.toList.take ((i + 1) * 1) ++ us.drop (i * 1) ++ R1.toList.drop ((i + 1) * 1 + (us.drop (i * 1)).length)).toArray) := fun W hW ty dc sc =>
    run_copy_n W _ _ ty 9 w.heap.size ((i + 1) * 1) (n + 1 - (i + 1)) dc ⟨gb, i * 1, none⟩ (n - i) sc 1 R1 9 (us.drop (i * 1)) Tryz.underlying22 hsz (by rw [hW]; exact hN2) (by rw [hdl, show Nat.min (n - i) (n + 1 - (i + 1)) = n - i from Nat.min_eq_left (by omega)]) (fun j v hj => by
      rw [Addr.add_lit]
      exact hcell W (by rw [hW, setRow_other _ _ _ _ (by omega), hW1]; exact Below.heap_alloc _ _ _ hbw) _ v (by rwa [List.getElem?_drop] at hj)) (by rw [hdl, hR1s]; omega) (fun v hv => hou v (List.mem_of_mem_drop hv))
  have hA2 : ∀ W : World, W.heap = W1.heap → ((W.setRow w.heap.size R1).drew).heap = (W1.setRow w.heap.size R1).heap := fun W h => by show (W.setRow _ _).heap = _; simp [World.setRow, h]
  simp only [Nat.mul_one] at hcpA
  have HZ := Lib.hid hrz
  have HCA := Lib.hid hcpA
  have hz2 : ¬ ((i : Int) = (n : Int)) := by omega
  have hz3 : (c : Int) < (n : Int) + 1 := by omega
  have hb3 : (i : Int) ≤ (n : Int) := by omega
  have HW1 := Lib.hid hW1
  obtain ⟨R2, hR2⟩ : ∃ R2 : Array Value, R2 = (R1.toList.take ((i + 1) * 1) ++ us.drop (i * 1) ++ R1.toList.drop ((i + 1) * 1 + (us.drop (i * 1)).length)).toArray := ⟨_, rfl⟩
  have HT := Lib.hid (show R2.toList.take ((n + 1) * 1) = us.take (i * 1) ++ xs ++ us.drop (i * 1) from by
    rw [hR2, hR1]
    simp only [List.toList_toArray]
    rw [hZs, hxl, show (i + 1) * 1 = i * 1 + 1 by omega, put_cells (k := 1) (by rw [List.length_take, hul]; omega) hxl, List.take_append_of_le_length (by simp only [List.length_append, List.length_take, List.length_drop, hul, hxl]; omega)]
    exact List.take_of_length_le (by simp only [List.length_append, List.length_take, List.length_drop, hul, hxl]; omega))
  have HS := Lib.hid (show R2.size = G * 1 from by rw [hR2]; simp only [List.size_toArray, List.length_append, List.length_take, List.length_drop, Array.length_toList, hR1s, hul]; omega)
  rw [← hR2] at hcpB
  simp only [Nat.mul_one] at hcpB
  have HCB := Lib.hid hcpB
  have HGN := Lib.hid hGn
  have HGM := Lib.hid hGm
  clear hrz hcpA hcpB hkk hcell hG hR1 hW1 hZs hRs hR1s hR2 hcur hul hou hox hN1 hN2 hdl hA2 hx hxl hg hgw hbw
  go_enter Tryz.func100, Tryz.ntmps100
  go_wp2_with (first
    | (at_builtin; refine Lib.wpList_append_run _ rfl _ _ _ _ rfl _ _ rfl rfl _ _ (HZ.out _) ?_)
    | (refine wpList_copy_runI _ rfl _ _ 22 22 rfl _ _ rfl rfl (HCA.out _ (by rw [HW1.out]; rfl) _ _) ?_))
  have w1 : IntKind.i64.wrap ((i : Int) + 1) = (i : Int) + 1 := by rw [IntKind.wrap_i64]; omega
  have b1 : (0 : Int) ≤ (i : Int) + 1 := by omega
  have b2 : (i : Int) + 1 ≤ (n : Int) + 1 := by omega
  have b3 : ((i : Int) + 1).toNat = i + 1 := by omega
  have b4 : ¬ (G = i + 1) := by omega
  have b5 : ¬ (c = i) := by omega
  go_region_law (go_loud (refine step_copy_runI rfl _ _ 22 22 rfl (.slice (some ⟨w.heap.size, i + 1, none⟩) (n + 1 - (i + 1)) (G - (i + 1))) (.slice (some ⟨gb, i, none⟩) (n - i) (c - i)) (by simp [Act.eval, Act.put]) (by simp [Act.eval, Act.put]) (HCB.out _ (by rw [HW1.out]; rfl) _ _ _) ?_))
  go_wp2
  go_ret
  have hB : Below w.heap.size w (((w.alloc (.cells ROW 9)).setRow w.heap.size R1).setRow w.heap.size R2) := below_setRow' (below_setRow' (below_box _ _) (Nat.le_refl _) _) (Nat.le_refl _) _
  exact ⟨_, R2, rfl, ⟨hB.os, hB.tape, hB.output, hB.size, hB.block⟩, setRow_heap _ _ R1 R2 _ _ (setRow_heap _ _ ROW R1 _ _ (heap_alloc_new w _)), HGN.out, HGM.out, HS.out, HT.out⟩
set_option maxRecDepth 100000 in
set_option maxHeartbeats 8000000 in
/-- In the midst, and there is room: in place. -/
theorem insShiftS (gb n i c g : Nat) (cur : Array Value) (us xs : List Value) (w : World) (hi : i < n) (hroom : n + 1 ≤ c) (hcm : c ≤ maxLen) (hne : g ≠ gb) (hg : w.heap[gb]? = some (.cells cur 9 (0, 0))) (hcs : cur.size = c * 1) (hcur : cur.toList.take (n * 1) = us) (hul : us.length = n * 1) (hx : Blk w g 9 xs) (hxl : xs.length = 1) (hou : ∀ u ∈ us, u.oneCell' = true) (hox : ∀ u ∈ xs, u.oneCell' = true) (hn : n ≤ 1048576) :
    Calls Tryz.prog 100 #[.slice (some ⟨gb, 0, none⟩) n c, .int .i64 i, .slice (some ⟨g, 0, none⟩) 1 1] w fun e w' => ∃ R, e = .returned (.slice (some ⟨gb, 0, none⟩) (n + 1) c) ∧ w.grownBy w' (some gb) ∧ w'.heap[gb]? = some (.cells R 9 (0, 0)) ∧ R.size = c * 1 ∧ R.toList.take ((n + 1) * 1) = us.take (i * 1) ++ xs ++ us.drop (i * 1) := by
  obtain ⟨iE, hiE, zE0, zE1, zE2⟩ := info_parts' Tryz.info_string
  have hc63 : c ≤ 9223372036854775807 := by unfold maxLen at hcm; omega
  have hsz : (Tryz.prog.info? 9).map (·.size) = some 1 := by rw [hiE]; simp [zE1]
  have hov : ∀ lb cb, (callFunc 108 #[.slice (some ⟨g, 0, none⟩) 1 1, .slice (some ⟨gb, (i + 1) * 1, none⟩) lb cb]).run Tryz.prog w = .ok (.value (.bool false)) w := fun lb cb => by
    rw [run_callFunc_extern Tryz.func108 (by kernel_rfl) (by kernel_rfl) (by kernel_rfl) (e := Extern.SlicesOverlaps.overlaps #[22, 22] #[4]) (by kernel_rfl),
      Lib.run_overlaps_apart w 22 4 9 Tryz.underlying22 1 (fun w => by simp [sizeOf, typeInfo, hiE, zE1]) ⟨g, 0, none⟩ ⟨gb, (i + 1) * 1, none⟩ 1 1 lb cb hne 9 9 xs.toArray.size cur.size (by unfold Blk at hx; simp [World.shape?, hx]) (by simp [World.shape?, hg]) (by rw [hcs]; omega) (hx.frozen 0) (hx.frozen _)]
    rfl
  have hdl : (us.drop (i * 1)).length = (n - i) * 1 := by rw [List.length_drop, hul]; omega
  have hcp1 : ∀ ty dc sc, (Builtin.copy_ #[22, 22] ty #[.slice (some ⟨gb, (i + 1) * 1, none⟩) (n + 1 - (i + 1)) dc, .slice (some ⟨gb, i * 1, none⟩) (n + 1 - i) sc]).run Tryz.prog w.drew = .ok (goInt (Nat.min (n + 1 - i) (n + 1 - (i + 1)))) (w.drew.setRow gb (cur.toList.take ((i + 1) * 1) ++ us.drop (i * 1) ++ cur.toList.drop ((i + 1) * 1 + (us.drop (i * 1)).length)).toArray) := fun ty dc sc =>
    run_copy_n w.drew _ _ ty 9 gb ((i + 1) * 1) (n + 1 - (i + 1)) dc ⟨gb, i * 1, none⟩ (n + 1 - i) sc 1 cur 9 (us.drop (i * 1)) Tryz.underlying22 hsz hg (by rw [hdl, show Nat.min (n + 1 - i) (n + 1 - (i + 1)) = n - i from by show min _ _ = _; omega]) (fun j v hj => by
      rw [Addr.add_lit]
      rw [List.getElem?_drop] at hj
      have h2 : i * 1 + j < n * 1 := hul ▸ (List.getElem?_eq_some_iff.1 hj).1
      show w.cell? _ = _
      simp only [World.cell?, hg]
      rw [← hcur, List.getElem?_take_of_lt h2] at hj
      simpa using hj) (by rw [hdl, hcs]; omega) (fun v hv => hou v (List.mem_of_mem_drop hv))
  obtain ⟨R1, hR1⟩ : ∃ R1 : Array Value, R1 = (cur.toList.take ((i + 1) * 1) ++ us.drop (i * 1) ++ cur.toList.drop ((i + 1) * 1 + (us.drop (i * 1)).length)).toArray := ⟨_, rfl⟩
  rw [← hR1] at hcp1
  have hR1s : R1.size = c * 1 := by rw [hR1]; simp only [List.size_toArray, List.length_append, List.length_take, List.length_drop, Array.length_toList, hcs, hul]; omega
  have hN1 : (w.setRow gb R1).heap[gb]? = some (.cells R1 9 (0, 0)) := setRow_heap w _ cur R1 _ _ hg
  have hcp2 : ∀ (W : World), W.heap = (w.setRow gb R1).heap → ∀ ty dc, (Builtin.copy_ #[22, 22] ty #[.slice (some ⟨gb, i * 1, none⟩) (n + 1 - i) dc, .slice (some ⟨g, 0, none⟩) 1 1]).run Tryz.prog W = .ok (goInt (Nat.min 1 (n + 1 - i))) (W.setRow gb (R1.toList.take (i * 1) ++ xs ++ R1.toList.drop (i * 1 + xs.length)).toArray) := fun W hW ty dc =>
    run_copy_n W _ _ ty 9 gb (i * 1) (n + 1 - i) dc ⟨g, 0, none⟩ 1 1 1 R1 9 xs Tryz.underlying22 hsz (by rw [hW]; exact hN1) (by rw [hxl, show Nat.min 1 (n + 1 - i) = 1 from Nat.min_eq_left (by omega)]) (fun j v hj => by
      rw [show (⟨g, 0, none⟩ : Addr).add j = ⟨g, j, none⟩ by unfold Addr.add; split <;> simp_all]
      have h1 : W.cell? ⟨g, j, none⟩ = w.cell? ⟨g, j, none⟩ := World.cell?_of_block (by rw [hW]; exact setRow_other _ _ _ _ hne)
      rw [h1, hx.cell]; exact hj) (by rw [hxl, hR1s]; omega) hox
  obtain ⟨R2, hR2⟩ : ∃ R2 : Array Value, R2 = (R1.toList.take (i * 1) ++ xs ++ R1.toList.drop (i * 1 + xs.length)).toArray := ⟨_, rfl⟩
  rw [← hR2] at hcp2
  have HT := Lib.hid (show R2.toList.take ((n + 1) * 1) = us.take (i * 1) ++ xs ++ us.drop (i * 1) from by
    rw [hR2, hR1]
    simp only [List.toList_toArray]
    rw [show (i + 1) * 1 = i * 1 + 1 by omega, shift_cells (k := 1) (by rw [Array.length_toList, hcs]; omega) hxl, show cur.toList.take (i * 1) = us.take (i * 1) by rw [← hcur, List.take_take, Nat.min_eq_left (by omega)], List.take_append_of_le_length (by simp only [List.length_append, List.length_take, List.length_drop, hul, hxl]; omega)]
    exact List.take_of_length_le (by simp only [List.length_append, List.length_take, List.length_drop, hul, hxl]; omega))
  have HS := Lib.hid (show R2.size = c * 1 from by rw [hR2]; simp only [List.size_toArray, List.length_append, List.length_take, List.length_drop, Array.length_toList, hR1s, hxl]; omega)
  simp only [Nat.mul_one] at hov hcp1 hcp2
  have HOV := Lib.hid hov
  have HC1 := Lib.hid hcp1
  have HC2 := Lib.hid hcp2
  have HG := Lib.hid hg
  have HN1 := Lib.hid hN1
  have hz2 : ¬ ((i : Int) = (n : Int)) := by omega
  have hz3 : ¬ ((c : Int) < (n : Int) + 1) := by omega
  have hb3 : (i : Int) ≤ (n : Int) := by omega
  have w1 : IntKind.i64.wrap ((i : Int) + 1) = (i : Int) + 1 := by rw [IntKind.wrap_i64]; omega
  have b1 : (0 : Int) ≤ (i : Int) + 1 := by omega
  have b2 : (i : Int) + 1 ≤ (n : Int) + 1 := by omega
  have b3 : ((i : Int) + 1).toNat = i + 1 := by omega
  have b4 : ¬ (c = i + 1) := by omega
  have b5 : ¬ (c = i) := by omega
  have b6 : (i : Int) ≤ (n : Int) + 1 := by omega
  clear hov hcp1 hcp2 hR1 hR2 hg hcs hcur hul hxl hou hox hR1s hdl hN1
  go_enter Tryz.func100, Tryz.ntmps100
  go_wp2_with (simp only [HOV.out])
  go_region_law (go_loud (refine step_copy_runI rfl _ _ 22 22 rfl (.slice (some ⟨gb, i + 1, none⟩) (n + 1 - (i + 1)) (c - (i + 1))) (.slice (some ⟨gb, i, none⟩) (n + 1 - i) (c - i)) (by simp [Act.eval, Act.put]) (by simp [Act.eval, Act.put]) (HC1.out _ _ _) ?_))
  go_wp2_with (refine wpList_copy_runI _ rfl _ _ 22 22 rfl _ _ rfl rfl (HC2.out _ (by rfl) _ _) ?_)
  go_ret
  exact ⟨R2, rfl, ⟨rfl, rfl, rfl, by simp, fun k hk hkk => ((setRow_other _ _ _ _ (fun e => hkk (by rw [e]))).trans (setRow_other _ _ _ _ (fun e => hkk (by rw [e]))))⟩, setRow_heap _ _ R1 R2 _ _ (setRow_heap _ _ _ R1 _ _ HG.out), HS.out, HT.out⟩
/-- slices.Insert of one element into a row of one's own. -/
theorem insRowS (A : Option Addr) (n c i g : Nat) (us xs : List Value) (w : World) (base : Nat) (hb : base ≤ w.heap.size) (hown : w.ownsRow base 9 1 (.slice A n c) n us) (hx : Blk w g 9 xs) (hxl : xs.length = 1) (hox : ∀ u ∈ xs, u.oneCell' = true) (hou : ∀ u ∈ us, u.oneCell' = true) (hi : i ≤ n) (hne : (Value.slice A n c).ownBlock ≠ some g) (hn : n ≤ 1048576) :
    Calls Tryz.prog 100 #[.slice A n c, .int .i64 i, .slice (some ⟨g, 0, none⟩) 1 1] w (InsS w base (Value.slice A n c).ownBlock n i us xs) := by
  by_cases e : i = n
  · subst e
    exact insEndS A i c g us xs w base hb hown hx hxl hox hn
  · obtain ⟨hul, ⟨ev, h0⟩ | ⟨gb, cap, cur, ev, hgb, hg, h1, h2, h3, h4⟩⟩ := hown
    · omega
    · injection ev with e1 _ e2
      subst e1 e2
      have hlen : (us.take (i * 1) ++ xs ++ us.drop (i * 1)).length = (n + 1) * 1 := by simp only [List.length_append, List.length_take, List.length_drop, hul, hxl]; omega
      by_cases hr : n + 1 ≤ c
      · refine (insShiftS gb n i c g cur us xs w (by omega) hr h2 (fun h => hne (by rw [h]; rfl)) hg h3 h4 hul hx hxl hou hox hn).mono ?_
        rintro e w' ⟨R, rfl, hgr, hR, hs, ht⟩
        exact ⟨_, _, rfl, ⟨hlen, .inr ⟨gb, c, R, rfl, hgb, hR, hr, h2, hs, ht⟩⟩, hgr, .inl rfl⟩
      · refine (insGrowS gb n i c g cur us xs w (by omega) h1 (by omega) hg h4 hul hx hxl hou hox hn).mono ?_
        rintro e w' ⟨c', R, rfl, hB, hR, h5, h6, h7, h8⟩
        exact ⟨_, _, rfl, ⟨hlen, .inr ⟨_, _, R, rfl, hb, hR, h5, h6, h7, h8⟩⟩, ⟨hB.os, hB.tape, hB.output, hB.size, fun k hk _ => hB.block k hk⟩, .inr ⟨_, rfl, Nat.le_refl _⟩⟩
end Go.Proofs.YtppfgepoegicgaaGreatDoor
namespace Go.Proofs.YtppfgepoegicgaaGreatDoor
open Go Go.RowKit

/-- What comes back: the row with the element at i. -/
def InsV (w : World) (base : Nat) (ob : Option Nat) (n i : Nat) (us xs : List Value) (e : Ending) (w' : World) : Prop :=
  ∃ A c, e = .returned (.slice A (n + 1) c) ∧ w'.ownsRow base 32 5 (.slice A (n + 1) c) (n + 1) (us.take (i * 5) ++ xs ++ us.drop (i * 5)) ∧ w.grownBy w' ob ∧ ((Value.slice A (n + 1) c).ownBlock = ob ∨ ∃ k, (Value.slice A (n + 1) c).ownBlock = some k ∧ w.heap.size ≤ k)
set_option maxRecDepth 100000 in
set_option maxHeartbeats 8000000 in
theorem insEndV (A : Option Addr) (n c g : Nat) (us xs : List Value) (w : World) (base : Nat) (hb : base ≤ w.heap.size) (hown : w.ownsRow base 32 5 (.slice A n c) n us) (hx : Blk w g 32 xs) (hxl : xs.length = 5) (hone : ∀ u ∈ xs, u.oneCell' = true) (hn : n ≤ 1048576) :
    Calls Tryz.prog 101 #[.slice A n c, .int .i64 n, .slice (some ⟨g, 0, none⟩) 1 1] w (InsV w base (Value.slice A n c).ownBlock n n us xs) := by
  obtain ⟨ob, eo⟩ : ∃ ob, ob = (Value.slice A n c).ownBlock := ⟨_, rfl⟩
  rw [← eo]
  have EO := Lib.hid eo
  obtain ⟨iE, hiE, zE0, zE1, zE2⟩ := info_parts' Tryz.info_Val
  have HO := Lib.hid hown
  have HR := Lib.hid (show Reads w (g + 1) 5 (some ⟨g, 0, none⟩) 1 xs from ⟨by omega, fun _ => ⟨_, rfl, by show g < g + 1; omega, fun j u hj => by rw [show (⟨g, 0, none⟩ : Addr).add j = ⟨g, j, none⟩ by unfold Addr.add; split <;> simp_all, hx.cell]; exact hj⟩⟩)
  have HN := Lib.hid hone
  have hul := hown.1
  have HU := Lib.hid hul
  have hcap : n ≤ c ∧ c ≤ 9223372036854775807 := by
    obtain ⟨_, ⟨e, h0⟩ | ⟨_, cap, _, e, _, _, h1, h2, _⟩⟩ := hown
    · injection e with _ _ e; omega
    · injection e with _ _ e; unfold maxLen at h2; omega
  obtain ⟨hc1, hc2⟩ := hcap
  clear hown hone hul hxl eo
  go_enter Tryz.func101, Tryz.ntmps101
  go_wp2_with (at_builtin; go_loud (refine wpList_append_reads _ rfl _ _ 30 rfl base 32 iE _ 5 80 Tryz.underlying30 hiE zE0 zE1 zE2 rfl (by decide) _ n us (by rfl) HO.out _ 1 1 (g + 1) xs (by rfl) HR.out HN.out (by unfold maxLen; omega) (by omega) hb ?_; intro v7 w7 hown7 hg7 hat7; obtain ⟨A7, n7, q7, rfl⟩ := owns_shape hown7; have HW7 := Lib.hid hown7; have HG7 := Lib.hid hg7; have HA7 := Lib.hid hat7; clear hown7 hg7 hat7))
  all_goals
    go_ret
    have hn7 : n7 = n + 1 := by
      obtain ⟨_, ⟨_, h0⟩ | ⟨_, _, _, e, _⟩⟩ := HW7.out
      · omega
      · injection e
    subst hn7
    exact ⟨_, _, rfl, by rw [List.take_of_length_le (by rw [HU.out]; exact Nat.le_refl _), List.drop_of_length_le (by rw [HU.out]; exact Nat.le_refl _), List.append_nil]; exact HW7.out, by rw [EO.out]; exact HG7.out, by rw [EO.out]; exact HA7.out.imp id fun h => ⟨_, h, Nat.le_refl _⟩⟩
set_option maxRecDepth 100000 in
set_option maxHeartbeats 8000000 in
/-- In the midst, and no room: a new row. -/
theorem insGrowV (gb n i c g : Nat) (cur : Array Value) (us xs : List Value) (w : World) (hi : i < n) (hc : n ≤ c) (hroom : c < n + 1) (hg : w.heap[gb]? = some (.cells cur 32 (0, 0))) (hcur : cur.toList.take (n * 5) = us) (hul : us.length = n * 5) (hx : Blk w g 32 xs) (hxl : xs.length = 5) (hou : ∀ u ∈ us, u.oneCell' = true) (hox : ∀ u ∈ xs, u.oneCell' = true) (hn : n ≤ 1048576) :
    Calls Tryz.prog 101 #[.slice (some ⟨gb, 0, none⟩) n c, .int .i64 i, .slice (some ⟨g, 0, none⟩) 1 1] w fun e w' => ∃ c' R, e = .returned (.slice (some ⟨w.heap.size, 0, none⟩) (n + 1) c') ∧ Below w.heap.size w w' ∧ w'.heap[w.heap.size]? = some (.cells R 32 (0, 0)) ∧ n + 1 ≤ c' ∧ c' ≤ maxLen ∧ R.size = c' * 5 ∧ R.toList.take ((n + 1) * 5) = us.take (i * 5) ++ xs ++ us.drop (i * 5) := by
  obtain ⟨iE, hiE, zE0, zE1, zE2⟩ := info_parts' Tryz.info_Val
  have hcell : ∀ (W : World), W.heap[gb]? = w.heap[gb]? → ∀ j u, us[j]? = some u → W.cell? ⟨gb, j, none⟩ = some u := fun W hW j u hj => by
    have h1 : W.cell? ⟨gb, j, none⟩ = w.cell? ⟨gb, j, none⟩ := World.cell?_of_block hW
    have h2 : j < n * 5 := hul ▸ (List.getElem?_eq_some_iff.1 hj).1
    rw [h1]
    simp only [World.cell?, hg]
    rw [← hcur, List.getElem?_take_of_lt h2] at hj
    simpa using hj
  have hbw : gb < w.heap.size := (Array.getElem?_eq_some_iff.1 hg).1
  have hold : (Builtin.firstCells iE.size i (.slice (some ⟨gb, 0, none⟩) i c)).run Tryz.prog w.drew = .ok (us.take (i * 5)).toArray w.drew := by
    rw [zE1]
    exact run_firstCells_some w.drew 5 i ⟨gb, 0, none⟩ i c (us.take (i * 5)) (by rw [List.length_take, hul]; omega) (fun j v hj => by
      rw [show (⟨gb, 0, none⟩ : Addr).add j = ⟨gb, j, none⟩ by unfold Addr.add; split <;> simp_all]
      refine hcell w.drew rfl j v ?_
      rw [List.getElem?_take] at hj
      split at hj
      · exact hj
      · cases hj)
  have hik : i + (n + 1 - i) = n + 1 := by omega
  have hkk : (n : Int) + 1 - (i : Int) = ((n + 1 - i : Nat) : Int) := by omega
  have hrz := fun ty => Lib.run_append_grow_zeros w 30 3 ty 32 iE _ .i64 .i64 Tryz.underlying30 Tryz.underlying3 hiE zE0 (some ⟨gb, 0, none⟩) i c (us.take (i * 5)) hold (n + 1 - i) (by omega) (by rw [zE1]; decide) (by omega) (by omega) (by rw [zE2]; omega) (by rw [zE2, hik]; exact growslice_fits hroom (by omega))
  rw [hik, ← hkk] at hrz
  obtain ⟨G, hG⟩ : ∃ G, G = grownCap w (n + 1) c 32 := ⟨_, rfl⟩
  rw [← hG] at hrz
  have hGn : n + 1 ≤ G := by rw [hG]; exact grownCap_ge w _ _ _
  have hGm : G ≤ maxLen := by rw [hG]; exact grownCap_le_maxLen w (n + 1) c 32 (by unfold maxLen; omega)
  obtain ⟨ROW, hROW⟩ : ∃ ROW : Array Value, ROW = (us.take (i * 5)).toArray ++ Builtin.zeroCells (Value.agg #[.int .i64 0, .int .i64 0, .string ⟨#[]⟩, .slice none 0 0, .slice none 0 0]).cells (n + 1 - i) ++ Builtin.zeroCells (Value.agg #[.int .i64 0, .int .i64 0, .string ⟨#[]⟩, .slice none 0 0, .slice none 0 0]).cells (G - (n + 1)) := ⟨_, rfl⟩
  obtain ⟨Zs, hZs⟩ : ∃ Zs : List Value, ROW.toList = us.take (i * 5) ++ Zs := ⟨_, by rw [hROW]; simp; rfl⟩
  have hRs : ROW.size = G * 5 := by
    rw [hROW, Array.size_append, Array.size_append, size_zeroCells, size_zeroCells]
    simp [Value.cells, hul]
    omega
  rw [← hROW] at hrz
  clear hROW hold hik
  have hsz : (Tryz.prog.info? 32).map (·.size) = some 5 := by rw [hiE]; simp [zE1]
  have hgw := hx.lt
  obtain ⟨W1, hW1⟩ : ∃ W, W = w.alloc (.cells ROW 32) := ⟨_, rfl⟩
  have hN1 : W1.heap[w.heap.size]? = some (.cells ROW 32 (0, 0)) := by rw [hW1]; exact heap_alloc_new w _
  have hcpA : ∀ (W : World), W.heap = W1.heap → ∀ ty dc, (Builtin.copy_ #[30, 30] ty #[.slice (some ⟨w.heap.size, i * 5, none⟩) (n + 1 - i) dc, .slice (some ⟨g, 0, none⟩) 1 1]).run Tryz.prog W = .ok (goInt (Nat.min 1 (n + 1 - i))) (W.setRow w.heap.size (ROW.toList.take (i * 5) ++ xs ++ ROW.toList.drop (i * 5 + xs.length)).toArray) := fun W hW ty dc =>
    run_copy_n W _ _ ty 32 w.heap.size (i * 5) (n + 1 - i) dc ⟨g, 0, none⟩ 1 1 5 ROW 32 xs Tryz.underlying30 hsz (by rw [hW]; exact hN1) (by rw [hxl, show Nat.min 1 (n + 1 - i) = 1 from Nat.min_eq_left (by omega)]) (fun j v hj => by
      rw [show (⟨g, 0, none⟩ : Addr).add j = ⟨g, j, none⟩ by unfold Addr.add; split <;> simp_all]
      have h1 : W.cell? ⟨g, j, none⟩ = w.cell? ⟨g, j, none⟩ := World.cell?_of_block (by rw [hW, hW1]; exact Below.heap_alloc _ _ _ hgw)
      rw [h1, hx.cell]; exact hj) (by rw [hxl, hRs]; omega) hox
  obtain ⟨R1, hR1⟩ : ∃ R1 : Array Value, R1 = (ROW.toList.take (i * 5) ++ xs ++ ROW.toList.drop (i * 5 + xs.length)).toArray := ⟨_, rfl⟩
  rw [← hR1] at hcpA
  have hR1s : R1.size = G * 5 := by rw [hR1]; simp [hxl, hRs]; omega
  have hdl : (us.drop (i * 5)).length = (n - i) * 5 := by rw [List.length_drop, hul]; omega
  have hN2 : (W1.setRow w.heap.size R1).heap[w.heap.size]? = some (.cells R1 32 (0, 0)) := setRow_heap W1 _ ROW R1 _ _ hN1
  have hcpB : ∀ (W : World), W.heap = (W1.setRow w.heap.size R1).heap → ∀ ty dc sc, (Builtin.copy_ #[30, 30] ty #[.slice (some ⟨w.heap.size, (i + 1) * 5, none⟩) (n + 1 - (i + 1)) dc, .slice (some ⟨gb, i * 5, none⟩) (n - i) sc]).run Tryz.prog W = .ok (goInt (Nat.min (n - i) (n + 1 - (i + 1)))) (W.setRow w.heap.size (R1.toList.take ((i + 1) * 5) ++ us.drop (i * 5) ++ R1.toList.drop ((i + 1) * 5 + (us.drop (i * 5)).length)).toArray) := fun W hW ty dc sc =>
    run_copy_n W _ _ ty 32 w.heap.size ((i + 1) * 5) (n + 1 - (i + 1)) dc ⟨gb, i * 5, none⟩ (n - i) sc 5 R1 32 (us.drop (i * 5)) Tryz.underlying30 hsz (by rw [hW]; exact hN2) (by rw [hdl, show Nat.min (n - i) (n + 1 - (i + 1)) = n - i from Nat.min_eq_left (by omega)]) (fun j v hj => by
      rw [Addr.add_lit]
      exact hcell W (by rw [hW, setRow_other _ _ _ _ (by omega), hW1]; exact Below.heap_alloc _ _ _ hbw) _ v (by rwa [List.getElem?_drop] at hj)) (by rw [hdl, hR1s]; omega) (fun v hv => hou v (List.mem_of_mem_drop hv))
  have hA2 : ∀ W : World, W.heap = W1.heap → ((W.setRow w.heap.size R1).drew).heap = (W1.setRow w.heap.size R1).heap := fun W h => by show (W.setRow _ _).heap = _; simp [World.setRow, h]
  have HZ := Lib.hid hrz
  have HCA := Lib.hid hcpA
  have hz2 : ¬ ((i : Int) = (n : Int)) := by omega
  have hz3 : (c : Int) < (n : Int) + 1 := by omega
  have hb3 : (i : Int) ≤ (n : Int) := by omega
  have HW1 := Lib.hid hW1
  obtain ⟨R2, hR2⟩ : ∃ R2 : Array Value, R2 = (R1.toList.take ((i + 1) * 5) ++ us.drop (i * 5) ++ R1.toList.drop ((i + 1) * 5 + (us.drop (i * 5)).length)).toArray := ⟨_, rfl⟩
  have HT := Lib.hid (show R2.toList.take ((n + 1) * 5) = us.take (i * 5) ++ xs ++ us.drop (i * 5) from by
    rw [hR2, hR1]
    simp only [List.toList_toArray]
    rw [hZs, hxl, show (i + 1) * 5 = i * 5 + 5 by omega, put_cells (k := 5) (by rw [List.length_take, hul]; omega) hxl, List.take_append_of_le_length (by simp only [List.length_append, List.length_take, List.length_drop, hul, hxl]; omega)]
    exact List.take_of_length_le (by simp only [List.length_append, List.length_take, List.length_drop, hul, hxl]; omega))
  have HS := Lib.hid (show R2.size = G * 5 from by rw [hR2]; simp only [List.size_toArray, List.length_append, List.length_take, List.length_drop, Array.length_toList, hR1s, hul]; omega)
  rw [← hR2] at hcpB
  have HCB := Lib.hid hcpB
  have HGN := Lib.hid hGn
  have HGM := Lib.hid hGm
  clear hrz hcpA hcpB hkk hcell hG hR1 hW1 hZs hRs hR1s hR2 hcur hul hou hox hN1 hN2 hdl hA2 hx hxl hg hgw hbw
  go_enter Tryz.func101, Tryz.ntmps101
  go_wp2_with (first
    | (at_builtin; refine Lib.wpList_append_run _ rfl _ _ _ _ rfl _ _ rfl rfl _ _ (HZ.out _) ?_)
    | (refine wpList_copy_runI _ rfl _ _ 30 30 rfl _ _ rfl rfl (HCA.out _ (by rw [HW1.out]; rfl) _ _) ?_))
  have w1 : IntKind.i64.wrap ((i : Int) + 1) = (i : Int) + 1 := by rw [IntKind.wrap_i64]; omega
  have b1 : (0 : Int) ≤ (i : Int) + 1 := by omega
  have b2 : (i : Int) + 1 ≤ (n : Int) + 1 := by omega
  have b3 : ((i : Int) + 1).toNat = i + 1 := by omega
  have b4 : ¬ (G = i + 1) := by omega
  have b5 : ¬ (c = i) := by omega
  go_region_law (go_loud (refine step_copy_runI rfl _ _ 30 30 rfl (.slice (some ⟨w.heap.size, (i + 1) * 5, none⟩) (n + 1 - (i + 1)) (G - (i + 1))) (.slice (some ⟨gb, i * 5, none⟩) (n - i) (c - i)) (by simp [Act.eval, Act.put]) (by simp [Act.eval, Act.put]) (HCB.out _ (by rw [HW1.out]; rfl) _ _ _) ?_))
  go_wp2
  go_ret
  have hB : Below w.heap.size w (((w.alloc (.cells ROW 32)).setRow w.heap.size R1).setRow w.heap.size R2) := below_setRow' (below_setRow' (below_box _ _) (Nat.le_refl _) _) (Nat.le_refl _) _
  exact ⟨_, R2, rfl, ⟨hB.os, hB.tape, hB.output, hB.size, hB.block⟩, setRow_heap _ _ R1 R2 _ _ (setRow_heap _ _ ROW R1 _ _ (heap_alloc_new w _)), HGN.out, HGM.out, HS.out, HT.out⟩
set_option maxRecDepth 100000 in
set_option maxHeartbeats 8000000 in
/-- In the midst, and there is room: in place. -/
theorem insShiftV (gb n i c g : Nat) (cur : Array Value) (us xs : List Value) (w : World) (hi : i < n) (hroom : n + 1 ≤ c) (hcm : c ≤ maxLen) (hne : g ≠ gb) (hg : w.heap[gb]? = some (.cells cur 32 (0, 0))) (hcs : cur.size = c * 5) (hcur : cur.toList.take (n * 5) = us) (hul : us.length = n * 5) (hx : Blk w g 32 xs) (hxl : xs.length = 5) (hou : ∀ u ∈ us, u.oneCell' = true) (hox : ∀ u ∈ xs, u.oneCell' = true) (hn : n ≤ 1048576) :
    Calls Tryz.prog 101 #[.slice (some ⟨gb, 0, none⟩) n c, .int .i64 i, .slice (some ⟨g, 0, none⟩) 1 1] w fun e w' => ∃ R, e = .returned (.slice (some ⟨gb, 0, none⟩) (n + 1) c) ∧ w.grownBy w' (some gb) ∧ w'.heap[gb]? = some (.cells R 32 (0, 0)) ∧ R.size = c * 5 ∧ R.toList.take ((n + 1) * 5) = us.take (i * 5) ++ xs ++ us.drop (i * 5) := by
  obtain ⟨iE, hiE, zE0, zE1, zE2⟩ := info_parts' Tryz.info_Val
  have hc63 : c ≤ 9223372036854775807 := by unfold maxLen at hcm; omega
  have hsz : (Tryz.prog.info? 32).map (·.size) = some 5 := by rw [hiE]; simp [zE1]
  have hov : ∀ lb cb, (callFunc 110 #[.slice (some ⟨g, 0, none⟩) 1 1, .slice (some ⟨gb, (i + 1) * 5, none⟩) lb cb]).run Tryz.prog w = .ok (.value (.bool false)) w := fun lb cb => by
    rw [run_callFunc_extern Tryz.func110 (by kernel_rfl) (by kernel_rfl) (by kernel_rfl) (e := Extern.SlicesOverlaps.overlaps #[30, 30] #[4]) (by kernel_rfl),
      Lib.run_overlaps_apart w 30 4 32 Tryz.underlying30 5 (fun w => by simp [sizeOf, typeInfo, hiE, zE1]) ⟨g, 0, none⟩ ⟨gb, (i + 1) * 5, none⟩ 1 1 lb cb hne 32 32 xs.toArray.size cur.size (by unfold Blk at hx; simp [World.shape?, hx]) (by simp [World.shape?, hg]) (by rw [hcs]; omega) (hx.frozen 0) (hx.frozen _)]
    rfl
  have hdl : (us.drop (i * 5)).length = (n - i) * 5 := by rw [List.length_drop, hul]; omega
  have hcp1 : ∀ ty dc sc, (Builtin.copy_ #[30, 30] ty #[.slice (some ⟨gb, (i + 1) * 5, none⟩) (n + 1 - (i + 1)) dc, .slice (some ⟨gb, i * 5, none⟩) (n + 1 - i) sc]).run Tryz.prog w.drew = .ok (goInt (Nat.min (n + 1 - i) (n + 1 - (i + 1)))) (w.drew.setRow gb (cur.toList.take ((i + 1) * 5) ++ us.drop (i * 5) ++ cur.toList.drop ((i + 1) * 5 + (us.drop (i * 5)).length)).toArray) := fun ty dc sc =>
    run_copy_n w.drew _ _ ty 32 gb ((i + 1) * 5) (n + 1 - (i + 1)) dc ⟨gb, i * 5, none⟩ (n + 1 - i) sc 5 cur 32 (us.drop (i * 5)) Tryz.underlying30 hsz hg (by rw [hdl, show Nat.min (n + 1 - i) (n + 1 - (i + 1)) = n - i from by show min _ _ = _; omega]) (fun j v hj => by
      rw [Addr.add_lit]
      rw [List.getElem?_drop] at hj
      have h2 : i * 5 + j < n * 5 := hul ▸ (List.getElem?_eq_some_iff.1 hj).1
      show w.cell? _ = _
      simp only [World.cell?, hg]
      rw [← hcur, List.getElem?_take_of_lt h2] at hj
      simpa using hj) (by rw [hdl, hcs]; omega) (fun v hv => hou v (List.mem_of_mem_drop hv))
  obtain ⟨R1, hR1⟩ : ∃ R1 : Array Value, R1 = (cur.toList.take ((i + 1) * 5) ++ us.drop (i * 5) ++ cur.toList.drop ((i + 1) * 5 + (us.drop (i * 5)).length)).toArray := ⟨_, rfl⟩
  rw [← hR1] at hcp1
  have hR1s : R1.size = c * 5 := by rw [hR1]; simp only [List.size_toArray, List.length_append, List.length_take, List.length_drop, Array.length_toList, hcs, hul]; omega
  have hN1 : (w.setRow gb R1).heap[gb]? = some (.cells R1 32 (0, 0)) := setRow_heap w _ cur R1 _ _ hg
  have hcp2 : ∀ (W : World), W.heap = (w.setRow gb R1).heap → ∀ ty dc, (Builtin.copy_ #[30, 30] ty #[.slice (some ⟨gb, i * 5, none⟩) (n + 1 - i) dc, .slice (some ⟨g, 0, none⟩) 1 1]).run Tryz.prog W = .ok (goInt (Nat.min 1 (n + 1 - i))) (W.setRow gb (R1.toList.take (i * 5) ++ xs ++ R1.toList.drop (i * 5 + xs.length)).toArray) := fun W hW ty dc =>
    run_copy_n W _ _ ty 32 gb (i * 5) (n + 1 - i) dc ⟨g, 0, none⟩ 1 1 5 R1 32 xs Tryz.underlying30 hsz (by rw [hW]; exact hN1) (by rw [hxl, show Nat.min 1 (n + 1 - i) = 1 from Nat.min_eq_left (by omega)]) (fun j v hj => by
      rw [show (⟨g, 0, none⟩ : Addr).add j = ⟨g, j, none⟩ by unfold Addr.add; split <;> simp_all]
      have h1 : W.cell? ⟨g, j, none⟩ = w.cell? ⟨g, j, none⟩ := World.cell?_of_block (by rw [hW]; exact setRow_other _ _ _ _ hne)
      rw [h1, hx.cell]; exact hj) (by rw [hxl, hR1s]; omega) hox
  obtain ⟨R2, hR2⟩ : ∃ R2 : Array Value, R2 = (R1.toList.take (i * 5) ++ xs ++ R1.toList.drop (i * 5 + xs.length)).toArray := ⟨_, rfl⟩
  rw [← hR2] at hcp2
  have HT := Lib.hid (show R2.toList.take ((n + 1) * 5) = us.take (i * 5) ++ xs ++ us.drop (i * 5) from by
    rw [hR2, hR1]
    simp only [List.toList_toArray]
    rw [show (i + 1) * 5 = i * 5 + 5 by omega, shift_cells (k := 5) (by rw [Array.length_toList, hcs]; omega) hxl, show cur.toList.take (i * 5) = us.take (i * 5) by rw [← hcur, List.take_take, Nat.min_eq_left (by omega)], List.take_append_of_le_length (by simp only [List.length_append, List.length_take, List.length_drop, hul, hxl]; omega)]
    exact List.take_of_length_le (by simp only [List.length_append, List.length_take, List.length_drop, hul, hxl]; omega))
  have HS := Lib.hid (show R2.size = c * 5 from by rw [hR2]; simp only [List.size_toArray, List.length_append, List.length_take, List.length_drop, Array.length_toList, hR1s, hxl]; omega)
  have HOV := Lib.hid hov
  have HC1 := Lib.hid hcp1
  have HC2 := Lib.hid hcp2
  have HG := Lib.hid hg
  have HN1 := Lib.hid hN1
  have hz2 : ¬ ((i : Int) = (n : Int)) := by omega
  have hz3 : ¬ ((c : Int) < (n : Int) + 1) := by omega
  have hb3 : (i : Int) ≤ (n : Int) := by omega
  have w1 : IntKind.i64.wrap ((i : Int) + 1) = (i : Int) + 1 := by rw [IntKind.wrap_i64]; omega
  have b1 : (0 : Int) ≤ (i : Int) + 1 := by omega
  have b2 : (i : Int) + 1 ≤ (n : Int) + 1 := by omega
  have b3 : ((i : Int) + 1).toNat = i + 1 := by omega
  have b4 : ¬ (c = i + 1) := by omega
  have b5 : ¬ (c = i) := by omega
  have b6 : (i : Int) ≤ (n : Int) + 1 := by omega
  clear hov hcp1 hcp2 hR1 hR2 hg hcs hcur hul hxl hou hox hR1s hdl hN1
  go_enter Tryz.func101, Tryz.ntmps101
  go_wp2_with (simp only [HOV.out])
  go_region_law (go_loud (refine step_copy_runI rfl _ _ 30 30 rfl (.slice (some ⟨gb, (i + 1) * 5, none⟩) (n + 1 - (i + 1)) (c - (i + 1))) (.slice (some ⟨gb, i * 5, none⟩) (n + 1 - i) (c - i)) (by simp [Act.eval, Act.put]) (by simp [Act.eval, Act.put]) (HC1.out _ _ _) ?_))
  go_wp2_with (refine wpList_copy_runI _ rfl _ _ 30 30 rfl _ _ rfl rfl (HC2.out _ (by rfl) _ _) ?_)
  go_ret
  exact ⟨R2, rfl, ⟨rfl, rfl, rfl, by simp, fun k hk hkk => ((setRow_other _ _ _ _ (fun e => hkk (by rw [e]))).trans (setRow_other _ _ _ _ (fun e => hkk (by rw [e]))))⟩, setRow_heap _ _ R1 R2 _ _ (setRow_heap _ _ _ R1 _ _ HG.out), HS.out, HT.out⟩
/-- slices.Insert of one element into a row of one's own. -/
theorem insRowV (A : Option Addr) (n c i g : Nat) (us xs : List Value) (w : World) (base : Nat) (hb : base ≤ w.heap.size) (hown : w.ownsRow base 32 5 (.slice A n c) n us) (hx : Blk w g 32 xs) (hxl : xs.length = 5) (hox : ∀ u ∈ xs, u.oneCell' = true) (hou : ∀ u ∈ us, u.oneCell' = true) (hi : i ≤ n) (hne : (Value.slice A n c).ownBlock ≠ some g) (hn : n ≤ 1048576) :
    Calls Tryz.prog 101 #[.slice A n c, .int .i64 i, .slice (some ⟨g, 0, none⟩) 1 1] w (InsV w base (Value.slice A n c).ownBlock n i us xs) := by
  by_cases e : i = n
  · subst e
    exact insEndV A i c g us xs w base hb hown hx hxl hox hn
  · obtain ⟨hul, ⟨ev, h0⟩ | ⟨gb, cap, cur, ev, hgb, hg, h1, h2, h3, h4⟩⟩ := hown
    · omega
    · injection ev with e1 _ e2
      subst e1 e2
      have hlen : (us.take (i * 5) ++ xs ++ us.drop (i * 5)).length = (n + 1) * 5 := by simp only [List.length_append, List.length_take, List.length_drop, hul, hxl]; omega
      by_cases hr : n + 1 ≤ c
      · refine (insShiftV gb n i c g cur us xs w (by omega) hr h2 (fun h => hne (by rw [h]; rfl)) hg h3 h4 hul hx hxl hou hox hn).mono ?_
        rintro e w' ⟨R, rfl, hgr, hR, hs, ht⟩
        exact ⟨_, _, rfl, ⟨hlen, .inr ⟨gb, c, R, rfl, hgb, hR, hr, h2, hs, ht⟩⟩, hgr, .inl rfl⟩
      · refine (insGrowV gb n i c g cur us xs w (by omega) h1 (by omega) hg h4 hul hx hxl hou hox hn).mono ?_
        rintro e w' ⟨c', R, rfl, hB, hR, h5, h6, h7, h8⟩
        exact ⟨_, _, rfl, ⟨hlen, .inr ⟨_, _, R, rfl, hb, hR, h5, h6, h7, h8⟩⟩, ⟨hB.os, hB.tape, hB.output, hB.size, fun k hk _ => hB.block k hk⟩, .inr ⟨_, rfl, Nat.le_refl _⟩⟩
end Go.Proofs.YtppfgepoegicgaaGreatDoor
