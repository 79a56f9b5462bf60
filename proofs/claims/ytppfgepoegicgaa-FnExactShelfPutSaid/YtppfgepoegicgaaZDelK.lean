/- slices.Delete: one element of a row of kept trees. -/
import Derived.Test.YtppfgepoegicgaaGa
import Derived.Test.YtppfgepoegicgaaGb
import Derived.Deep.RegionLaw
import Derived.Lib.SliceRun
namespace Go.Proofs.Ytppfgepoegicgaa
open Go Go.RowKit
theorem setCells_all : ∀ (vs : List Value) (w : World) (b o : Nat), w.setCells b o vs = setAll w b o vs
  | [], _, _, _ => rfl
  | _ :: vs, _, _, _ => setCells_all vs _ _ _
theorem Upd.setAll {fp : List Nat} {g : Nat} (hg : g ∈ fp) : ∀ (us : List Value) (w : World) (o : Nat), Upd fp w (setAll w g o us)
  | [], w, _ => Upd.refl fp w
  | u :: us, w, o => (Upd.setCell w (p := ⟨g, o, none⟩) hg u).trans (Upd.setAll hg us _ _)
/-- 'clear(s)', s a slice of one element. -/
theorem run_clear_one {P : Program} (w : World) (t e ty : TypeId) (z : Value) (zs : List Value) (ht : P.underlying t = some (.slice e)) (hv : ∀ w, (zeroValue e).run P w = .ok z w) (hz : z.cells = zs.toArray) (h1 : ∀ u ∈ zs, u.oneCell' = true) (b o c : Nat)
    (hc : ∀ j, j < zs.length → (w.cell? ⟨b, o + j, none⟩).isSome = true) (hf : ∀ j, j < zs.length → w.frozen? ⟨b, o + j, none⟩ = false) :
    (Builtin.clear_ #[t] ty #[.slice (some ⟨b, o, none⟩) 1 c]).run P w = .ok (.tuple #[]) (w.setCells b o zs) := by
  have hzc : (Builtin.zeroCells z.cells 1).toList = zs := by
    rw [hz]
    simp only [Builtin.zeroCells]
    apply List.ext_getElem
    · simp
    · intro i h1 h2
      simp [Nat.mod_eq_of_lt h2, h2]
  have hst := run_storeCells_cells (P := P) b o zs 0 w (by simpa using hc) (by simpa using hf) h1
  simp only [Nat.add_zero] at hst
  simp [Builtin.clear_, run_underlying ht, hv, hzc, hst]

set_option maxRecDepth 100000 in
set_option maxHeartbeats 4000000 in
theorem delete_calls (g : Nat) (ty : TypeId) (n c t : Nat) (cs0 cs1 cs2 cs3 : List Value) (w : World) (hb : Blk w g ty (cs0 ++ (cs1 ++ (cs2 ++ cs3)))) (h0 : cs0.length = t * 6) (h1 : cs1.length = 6) (h2 : cs2.length = (n - t - 1) * 6) (ht : t < n) (hn : n ≤ c) (hone : ∀ u ∈ cs2, u.oneCell' = true) :
    Calls Try.prog 64 #[.slice (some ⟨g, 0, none⟩) n c, .int .i64 (t : Int), .int .i64 ((t : Int) + 1)] w fun e w' => e = .returned (.slice (some ⟨g, 0, none⟩) (n - 1) c) ∧ (∃ cs', Blk w' g ty (cs0 ++ (cs2 ++ cs'))) ∧ Upd [g] w w' := by
  obtain ⟨iK, hiK, zK0, zK1, zK2⟩ := info_parts' Try.info_Kept
  obtain ⟨W1, hW1⟩ : ∃ W1, W1 = w.drew.setCells g (0 + t * 6) cs2 := ⟨_, rfl⟩
  obtain ⟨old, r6, rest, ho, hr6, he⟩ : ∃ old r6 rest, old.length = cs2.length ∧ r6.length = 6 ∧ cs1 ++ (cs2 ++ cs3) = old ++ (r6 ++ rest) := by
    refine ⟨(cs1 ++ (cs2 ++ cs3)).take cs2.length, ((cs1 ++ (cs2 ++ cs3)).drop cs2.length).take 6, ((cs1 ++ (cs2 ++ cs3)).drop cs2.length).drop 6, ?_, ?_, ?_⟩
    · rw [List.length_take]; simp only [List.length_append]; omega
    · rw [List.length_take, List.length_drop]; simp only [List.length_append]; omega
    · rw [List.take_append_drop, List.take_append_drop]
  have hB1 : Blk W1 g ty (cs0 ++ (cs2 ++ (r6 ++ rest))) := by
    rw [hW1, setCells_all, Nat.zero_add, ← h0]
    exact Blk.setAll cs2 ho (by rw [← he]; exact hb.drew)
  have hU1 : Upd [g] w W1 := by
    rw [hW1, setCells_all]
    exact (Upd.of_below (Below.refl _ _).drew).trans (Upd.setAll (by simp) _ _ _)
  obtain ⟨zs, hzs⟩ : ∃ zs : List Value, zs = [.string ⟨#[]⟩, .int .i64 0, .int .i64 0, .string ⟨#[]⟩, .slice none 0 0, .slice none 0 0] := ⟨_, rfl⟩
  have hzl : zs.length = 6 := by rw [hzs]; rfl
  obtain ⟨W2, hW2⟩ : ∃ W2, W2 = W1.setCells g ((n - 1) * 6) zs := ⟨_, rfl⟩
  have hlen1 : cs0.length + cs2.length = (n - 1) * 6 := by omega
  have hB2 : Blk W2 g ty (cs0 ++ (cs2 ++ (zs ++ rest))) := by
    have := Blk.setAll (w := W1) (g := g) (t := ty) zs (pre := cs0 ++ cs2) (old := r6) (rest := rest) (by omega) (by simpa using hB1)
    rw [hW2, setCells_all]
    rw [List.length_append, hlen1] at this
    simpa using this
  have hU2 : Upd [g] w W2 := by
    rw [hW2, setCells_all]
    exact hU1.trans (Upd.setAll (by simp) _ _ _)
  have hspot : ∀ j, j < 6 → (W1.cell? ⟨g, (n - 1) * 6 + j, none⟩).isSome = true := fun j hj => by
    rw [hB1.cell, List.getElem?_eq_getElem (by simp only [List.length_append]; omega)]
    rfl
  have en : n - (t + (n - (t + 1))) = 1 := by omega
  have em : t + (n - (t + 1)) = n - 1 := by omega
  have hcl : ∀ tt c', (Builtin.clear_ #[59] tt #[.slice (some ⟨g, (t + (n - (t + 1))) * 6, none⟩) (n - (t + (n - (t + 1)))) c']).run Try.prog W1 = .ok (.tuple #[]) W2 := fun tt c' => by
    rw [hW2, en, em]
    exact run_clear_one W1 _ _ tt _ zs Try.underlying59 Try.zeroValue70 (by rw [hzs]; rfl) (by rw [hzs]; decide) g ((n - 1) * 6) c' (fun j hj => hspot j (by omega)) (fun j _ => hB1.frozen _)
  have EM := Lib.hid em
  clear en em
  have hone' := Lib.hid hone
  have OUT := Lib.hid (show (∃ cs', Blk W2 g ty (cs0 ++ (cs2 ++ cs'))) ∧ Upd [g] w W2 from ⟨⟨_, hB2⟩, hU2⟩)
  have hW : Hid (W1 = w.drew.setCells g (0 + t * 6) cs2) := hW1
  obtain ⟨A, hA, hsrc⟩ : ∃ A : Addr, (if c = t + 1 then some (⟨g, 0, none⟩ : Addr) else some ⟨g, (t + 1) * 6, none⟩) = some A ∧ Hid (∀ j u, cs2[j]? = some u → w.drew.cell? (A.add j) = some u) := by
    by_cases h : c = t + 1
    · refine ⟨⟨g, 0, none⟩, by simp [h], fun j u hu => ?_⟩
      have h0 : cs2.length = 0 := by rw [h2]; omega
      rw [List.length_eq_zero_iff.1 h0] at hu
      simp at hu
    · refine ⟨⟨g, (t + 1) * 6, none⟩, by simp [h], fun j u hu => ?_⟩
      have hadd : (⟨g, (t + 1) * 6, none⟩ : Addr).add j = ⟨g, (t + 1) * 6 + j, none⟩ := by unfold Addr.add; split <;> simp_all
      rw [hadd, hb.drew.cell, ← List.append_assoc, List.getElem?_append_right (by simp only [List.length_append]; omega)]
      rw [show (t + 1) * 6 + j - (cs0 ++ cs1).length = j by simp only [List.length_append]; omega, List.getElem?_append_left (List.getElem?_eq_some_iff.1 hu).1]
      exact hu
  have s1 : Hid (cs2.length = (n - (t + 1)) * 6) := by show _ = _; rw [h2, show n - t - 1 = n - (t + 1) by omega]
  have s3 : Hid (∀ j, j < cs2.length → (w.drew.cell? ⟨g, 0 + t * 6 + j, none⟩).isSome = true ∧ w.drew.frozen? ⟨g, 0 + t * 6 + j, none⟩ = false) := by
    intro j hj
    refine ⟨?_, hb.drew.frozen _⟩
    rw [hb.drew.cell, List.getElem?_eq_getElem (by simp only [List.length_append]; omega)]
    rfl
  have hne : ((t : Int) == (t : Int) + 1) = false := by simp; omega
  have hb0 : (0 : Int) ≤ (t : Int) + 1 := by omega
  have hb1 : (t : Int) + 1 ≤ (n : Int) := by omega
  have htc : t ≤ c := by omega
  have htc1 : t + 1 ≤ c := by omega
  have htn : t + 1 ≤ n := by omega
  clear hb h0 h1 h2 hone hW1 hB1 hU1 hW2 hB2 hU2 hzs hzl hlen1 ho hr6 he hspot
  go_enter Try.func64, Try.ntmps64
  go_wp2_with fail
  go_region_law (go_loud (refine step_append_room rfl (.tmp 22) (.tmp 25) 59 rfl 70 iK 6 Try.underlying59 hiK zK1 g 0 t c (by simp [Act.eval, Act.put]) A (n - (t + 1)) (c - (t + 1)) cs2 (by simp [Act.eval, Act.put]) s1.out hsrc.out hone'.out (by omega) s3.out ?_; rw [← hW.out]))
  go_wp2
  go_ret
  exact ⟨by rw [EM.out]; rfl, OUT.out⟩
end Go.Proofs.Ytppfgepoegicgaa
