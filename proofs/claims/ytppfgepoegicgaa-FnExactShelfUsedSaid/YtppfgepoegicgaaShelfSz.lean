import Derived.Test.YtppfgepoegicgaaKeptSzR
import Derived.Test.YtppfgepoegicgaaAskerSzR
namespace Go.Proofs.Ytppfgepoegicgaa
open Go Go.RowKit

theorem szDs_cons_str (s : ByteArray) (r : List Dat) (l : Int) : szDs (.str s :: r) l = if l - s.size < 0 then -1 else szDs r (l - s.size) := by
  simp only [szDs, szD]
  by_cases h : l - (s.size : Int) < 0
  · simp [h]
  · simp [h]
theorem szDs_cons_int (n : Int) (r : List Dat) (l : Int) (hl : 0 ≤ l) : szDs (.int n :: r) l = szDs r l := by
  have e : szD (.int n) l = l := by simp only [szD]
  simp only [szDs]
  rw [e, if_neg (by omega)]
theorem szDs_one (d : Dat) (l : Int) (hl : 0 ≤ l) : szDs [d] l = szD d l := by
  simp only [szDs]
  have := szD_range d l hl
  split <;> omega

set_option maxHeartbeats 1000000 in
theorem szKept_calls (v : Kept) : SzKept v := by
  intro us left w B hB h h0 h1
  obtain ⟨us', rfl, hs, hv⟩ := keptDs_open h
  obtain ⟨a, b, s, A1, n1, c1, A2, n2, c2, rfl⟩ := valDs_shape hv
  have hR : szDs (keptDs v) left = if left - v.name.size < 0 then -1 else szDs (valDs v.v) (left - v.name.size) := szDs_cons_str _ _ _
  obtain ⟨m1, em1⟩ : ∃ m, m = szDs (valDs v.v) (left - v.name.size) := ⟨_, rfl⟩
  have r1 := szDs_range (valDs v.v) (left - v.name.size)
  rw [← em1] at hR r1
  have E1 := Lib.hid em1
  have R1 := Lib.hid r1
  clear em1 r1 h
  have hbx := fun o => below_box w o
  by_cases t0 : left - (v.name.size : Int) < 0
  · rw [if_pos t0] at hR
    have HR := Lib.hid hR
    clear hR
    go_enter Try.func99, Try.ntmps99
    go_wp2
    go_ret
    exact ⟨by rw [HR.out]; rfl, hbx _⟩
  · rw [if_neg t0] at hR
    have b1 := R1.out (by omega)
    by_cases t1 : m1 < 0
    all_goals
      have HR := Lib.hid hR
      clear hR
      go_enter Try.func99, Try.ntmps99
      go_wp2_with fail
      refine (szVal_calls v.v [_, _, _, _, _] _ _ B (by simp; omega) (hv.below ((hbx _).mono hB)) (by omega) (by omega)).mono ?_
      rintro e w1 ⟨rfl, hb1⟩
      rw [← E1.out]
      obtain ⟨hb, hz, hc, hf⟩ := bbox hb1
      go_wp2
      go_ret
    · exact ⟨by rw [HR.out, show m1 = -1 by omega]; rfl, hb⟩
    · exact ⟨by rw [HR.out]; rfl, hb⟩
theorem szKepts_calls (vs : List Kept) : SzKepts vs := szKepts_of vs fun v _ => szKept_calls v

set_option maxHeartbeats 1000000 in
theorem szAsker_calls (v : Asker) : SzAsker v := by
  intro us left w B hB h h0 h1
  obtain ⟨A, c, rfl, hs, hv⟩ := askerDs_open h
  have hR : szDs (askerDs v) left = if left - v.name.size < 0 then -1 else szD (.row 6 v.trees.length (keptsDs v.trees)) (left - v.name.size) := by
    unfold askerDs
    rw [szDs_cons_str]
    by_cases t : left - (v.name.size : Int) < 0
    · rw [if_pos t, if_pos t]
    · rw [if_neg t, if_neg t, szDs_cons_int _ _ _ (by omega), szDs_cons_int _ _ _ (by omega), szDs_one _ _ (by omega)]
  obtain ⟨m1, em1⟩ : ∃ m, m = szD (.row 6 v.trees.length (keptsDs v.trees)) (left - v.name.size) := ⟨_, rfl⟩
  have r1 := szD_range (.row 6 v.trees.length (keptsDs v.trees)) (left - v.name.size)
  rw [← em1] at hR r1
  have E1 := Lib.hid em1
  have R1 := Lib.hid r1
  clear em1 r1 h
  have hbx := fun o => below_box w o
  by_cases t0 : left - (v.name.size : Int) < 0
  · rw [if_pos t0] at hR
    have HR := Lib.hid hR
    clear hR
    go_enter Try.func72, Try.ntmps72
    go_wp2
    go_ret
    exact ⟨by rw [HR.out]; rfl, hbx _⟩
  · rw [if_neg t0] at hR
    have b1 := R1.out (by omega)
    by_cases t1 : m1 < 0
    all_goals
      have HR := Lib.hid hR
      clear hR
      go_enter Try.func72, Try.ntmps72
      go_wp2_with fail
      refine (szKepts_calls v.trees A c _ _ B (by simp; omega) (hv.below ((hbx _).mono hB)) (by omega) (by omega)).mono ?_
      rintro e w1 ⟨rfl, hb1⟩
      rw [← E1.out]
      obtain ⟨hb, hz, hc, hf⟩ := bbox hb1
      go_wp2
      go_ret
    · exact ⟨by rw [HR.out, show m1 = -1 by omega]; rfl, hb⟩
    · exact ⟨by rw [HR.out]; rfl, hb⟩
theorem szAskers_calls (vs : List Asker) : SzAskers vs := szAskers_of vs fun v _ => szAsker_calls v

set_option maxHeartbeats 1000000 in
theorem szShelf_calls (v : Shelf) (us : List Value) (left : Int) (w : World) (B : Nat) (hB : B ≤ w.heap.size) (h : RDv w B (shelfDs v) us) (h0 : 0 ≤ left) (h1 : left ≤ 1048576) :
    Calls Try.prog 10 #[.agg us.toArray, .int .i64 left] w fun e w' => e = .returned (.int .i64 (szDs (shelfDs v) left)) ∧ Below w.heap.size w w' := by
  obtain ⟨A, c, rfl, hv⟩ := shelfDs_open h
  have hR : szDs (shelfDs v) left = szD (.row 4 v.askers.length (askersDs v.askers)) left := szDs_one _ _ h0
  obtain ⟨m1, em1⟩ : ∃ m, m = szD (.row 4 v.askers.length (askersDs v.askers)) left := ⟨_, rfl⟩
  have b1 := szD_range (.row 4 v.askers.length (askersDs v.askers)) left h0
  rw [← em1] at hR b1
  have E1 := Lib.hid em1
  clear em1 h
  have hbx := fun o => below_box w o
  by_cases t1 : m1 < 0
  all_goals
    have HR := Lib.hid hR
    clear hR
    go_enter Try.func10, Try.ntmps10
    go_wp2_with fail
    refine (szAskers_calls v.askers A c _ _ B (by simp; omega) (hv.below ((hbx _).mono hB)) (by omega) (by omega)).mono ?_
    rintro e w1 ⟨rfl, hb1⟩
    rw [← E1.out]
    obtain ⟨hb, hz, hc, hf⟩ := bbox hb1
    go_wp2
    go_ret
  · exact ⟨by rw [HR.out, show m1 = -1 by omega]; rfl, hb⟩
  · exact ⟨by rw [HR.out]; rfl, hb⟩
end Go.Proofs.Ytppfgepoegicgaa
