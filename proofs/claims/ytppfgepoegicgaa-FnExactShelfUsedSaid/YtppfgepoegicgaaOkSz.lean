import Derived.Test.YtppfgepoegicgaaShelfSz
import Derived.Test.YtppfgepoegicgaaOkShS
namespace Go.Proofs.Ytppfgepoegicgaa
open Go Go.RowKit

theorem sz_cons {d : Dat} {ds : List Dat} {l : Int} (hl : 0 ≤ l) (h : 0 ≤ szDs (d :: ds) l) : 0 ≤ szD d l ∧ szD d l ≤ l ∧ 0 ≤ szDs ds (szD d l) := by
  have h1 := szD_range d l hl
  simp only [szDs] at h
  split at h
  · omega
  · exact ⟨by omega, by omega, h⟩
theorem sz_part {a b : List Dat} {l : Int} (hl : 0 ≤ l) (h : 0 ≤ szDs (a ++ b) l) : 0 ≤ szDs a l ∧ szDs a l ≤ l ∧ 0 ≤ szDs b (szDs a l) ∧ szDs (a ++ b) l = szDs b (szDs a l) := by
  have h1 := szDs_range a l hl
  have e := szDs_append a b l hl
  rw [e] at h ⊢
  split at h
  · omega
  · next h2 => exact ⟨by omega, by omega, h, by rw [if_neg h2]⟩
theorem sz_row {z n : Nat} {cells : List Dat} {l : Int} (h : 0 ≤ szD (.row z n cells) l) : 0 ≤ l - n ∧ 0 ≤ szDs cells (l - n) ∧ szD (.row z n cells) l = szDs cells (l - n) := by
  simp only [szD] at h ⊢
  split at h
  · omega
  · next h2 => exact ⟨by omega, h, by rw [if_neg h2]⟩
def CntSz (v : Val) : Prop := ∀ l : Int, 0 ≤ l → 0 ≤ szDs (valDs v) l → szDs (valDs v) l + valCnt v ≤ l + 1
theorem cnts_of_sz : ∀ (vs : List Val), (∀ v ∈ vs, CntSz v) → ∀ l : Int, 0 ≤ l → 0 ≤ szDs (valsDs vs) l → szDs (valsDs vs) l + valsCnt vs ≤ l + vs.length
  | [], _, l, hl, h => by simp [valsDs, szDs, valsCnt]
  | v :: r, ih, l, hl, h => by
    simp only [valsDs] at h ⊢
    obtain ⟨h1, h2, h3, h4⟩ := sz_part hl h
    have e1 := ih v (List.mem_cons_self) l hl h1
    have e2 := cnts_of_sz r (fun x hx => ih x (List.mem_cons_of_mem _ hx)) _ h1 h3
    rw [h4]
    simp only [valsCnt, List.length_cons]
    omega
theorem cnt_of_sz : ∀ v, CntSz v := Val.ind fun kind n s keys list ih l hl h => by
  rw [szDs_val kind n s keys list l hl] at h ⊢
  split at h
  · omega
  · next h1 =>
    rw [if_neg h1]
    split at h
    · omega
    · next h2 =>
      rw [if_neg h2]
      have r1 := szD_range (.row 1 keys.length (strDs keys)) (l - s.size) (by omega)
      obtain ⟨h3, h4, h5⟩ := sz_row h
      have := cnts_of_sz list ih _ h3 h4
      rw [h5]
      simp only [valCnt]
      omega
theorem kepts_of_sz : ∀ (ts : List Kept) (l : Int), 0 ≤ l → l ≤ 1048576 → 0 ≤ szDs (keptsDs ts) l → ∀ y ∈ ts, valCnt y.v ≤ 1099511627776
  | [], _, _, _, _, y, hy => by cases hy
  | t :: r, l, hl, hl1, h, y, hy => by
    simp only [keptsDs] at h
    obtain ⟨h1, h2, h3, h4⟩ := sz_part hl h
    rcases List.mem_cons.1 hy with rfl | hy
    · simp only [keptDs] at h1
      obtain ⟨h5, h6, h7⟩ := sz_cons hl h1
      have := cnt_of_sz y.v _ h5 h7
      omega
    · exact kepts_of_sz r _ h1 (by omega) h3 y hy
theorem askers_of_sz : ∀ (xs : List Asker) (l : Int), 0 ≤ l → l ≤ 1048576 → 0 ≤ szDs (askersDs xs) l → ∀ a ∈ xs, ∀ y ∈ a.trees, valCnt y.v ≤ 1099511627776
  | [], _, _, _, _, a, ha, _, _ => by cases ha
  | t :: r, l, hl, hl1, h, a, ha, y, hy => by
    simp only [askersDs] at h
    obtain ⟨h1, h2, h3, h4⟩ := sz_part hl h
    rcases List.mem_cons.1 ha with rfl | ha
    · simp only [askerDs] at h1
      obtain ⟨g1, g2, g3⟩ := sz_cons hl h1
      obtain ⟨g4, g5, g6⟩ := sz_cons g1 g3
      obtain ⟨g7, g8, g9⟩ := sz_cons g4 g6
      obtain ⟨g10, g11, g12⟩ := sz_cons g7 g9
      obtain ⟨g13, g14, g15⟩ := sz_row g10
      exact kepts_of_sz a.trees _ g13 (by omega) g14 y hy
    · exact askers_of_sz r _ h1 (by omega) h3 a ha y hy
theorem shelf_of_sz (x : Shelf) (l : Int) (hl : 0 ≤ l) (hl1 : l ≤ 1048576) (h : 0 ≤ szDs (shelfDs x) l) : ∀ a ∈ x.askers, ∀ y ∈ a.trees, valCnt y.v ≤ 1099511627776 := by
  simp only [shelfDs] at h
  obtain ⟨h1, _, _⟩ := sz_cons hl h
  obtain ⟨h3, h4, _⟩ := sz_row h1
  exact askers_of_sz x.askers _ h3 (by omega) h4
end Go.Proofs.Ytppfgepoegicgaa
