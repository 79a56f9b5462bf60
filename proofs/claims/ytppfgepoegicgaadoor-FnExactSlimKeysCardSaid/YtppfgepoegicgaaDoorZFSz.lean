/- Parts of the proof: FSz. -/
import Derived.Test.YtppfgepoegicgaaDoorZFiltSz
import Derived.Test.YtppfgepoegicgaaDoorZFOkDef
namespace Go.Proofs.YtppfgepoegicgaaDoor
open Go Go.RowKit

theorem sz_part {a b : List Dat} {l : Int} (hl : 0 ≤ l) (h : 0 ≤ szDs (a ++ b) l) : 0 ≤ szDs a l ∧ szDs a l ≤ l ∧ 0 ≤ szDs b (szDs a l) ∧ szDs (a ++ b) l = szDs b (szDs a l) := by
  have h1 := szDs_range a l hl
  have e := szDs_append a b l hl
  rw [e] at h ⊢
  split at h
  · omega
  · next h2 => exact ⟨by omega, by omega, h, by rw [if_neg h2]⟩
theorem sz_row {z n : Nat} {cells : List Dat} {l : Int} (h : 0 ≤ szD (.row z n cells) l) : 0 ≤ l - n ∧ 0 ≤ szDs cells (l - n) ∧ szD (.row z n cells) l = szDs cells (l - n) := by
  simp only [szD] at h ⊢
  split at h
  · omega
  · next h2 => exact ⟨by omega, h, by rw [if_neg h2]⟩
def CntSz (v : Val) : Prop := ∀ l : Int, 0 ≤ l → 0 ≤ szDs (valDs v) l → szDs (valDs v) l + valCnt v ≤ l + 1
theorem cnts_of_sz : ∀ (vs : List Val), (∀ v ∈ vs, CntSz v) → ∀ l : Int, 0 ≤ l → 0 ≤ szDs (valsDs vs) l → szDs (valsDs vs) l + valsCnt vs ≤ l + vs.length
  | [], _, l, hl, h => by simp [valsDs, szDs, valsCnt]
  | v :: r, ih, l, hl, h => by
    simp only [valsDs] at h ⊢
    obtain ⟨h1, h2, h3, h4⟩ := sz_part hl h
    have e1 := ih v (List.mem_cons_self) l hl h1
    have e2 := cnts_of_sz r (fun x hx => ih x (List.mem_cons_of_mem _ hx)) _ h1 h3
    rw [h4]
    simp only [valsCnt, List.length_cons]
    omega
theorem cnt_of_sz : ∀ v, CntSz v := Val.ind fun kind n s keys list ih l hl h => by
  rw [szDs_val kind n s keys list l hl] at h ⊢
  split at h
  · omega
  · next h1 =>
    rw [if_neg h1]
    split at h
    · omega
    · next h2 =>
      rw [if_neg h2]
      have r1 := szD_range (.row 1 keys.length (strDs keys)) (l - s.size) (by omega)
      obtain ⟨h3, h4, h5⟩ := sz_row h
      have := cnts_of_sz list ih _ h3 h4
      rw [h5]
      simp only [valCnt]
      omega
mutual
/-- All the trees within have parts that a number can count. -/
def VSm : Filt → Prop
  | .mk _ _ _ v kids => valCnt v ≤ 1099511627776 ∧ VSms kids
def VSms : List Filt → Prop
  | [] => True
  | x :: r => VSm x ∧ VSms r
end
theorem vsm_mem : ∀ {xs : List Filt} {x : Filt}, VSms xs → x ∈ xs → VSm x
  | [], _, _, h => by cases h
  | y :: r, x, h, hm => by
    simp only [VSms] at h
    rcases List.mem_cons.1 hm with rfl | hm
    · exact h.1
    · exact vsm_mem h.2 hm
def FCntSz (x : Filt) : Prop := ∀ l : Int, 0 ≤ l → l ≤ 1048576 → 0 ≤ szDs (filtDs x) l → szDs (filtDs x) l + filtCnt x ≤ l + 1 ∧ VSm x
theorem fcnts_of_sz : ∀ (xs : List Filt), (∀ x ∈ xs, FCntSz x) → ∀ l : Int, 0 ≤ l → l ≤ 1048576 → 0 ≤ szDs (filtsDs xs) l → szDs (filtsDs xs) l + filtsCnt xs ≤ l + xs.length ∧ VSms xs
  | [], _, l, hl, hl1, h => by simp [filtsDs, szDs, filtsCnt, VSms]
  | v :: r, ih, l, hl, hl1, h => by
    simp only [filtsDs] at h ⊢
    obtain ⟨h1, h2, h3, h4⟩ := sz_part hl h
    have e1 := ih v (List.mem_cons_self) l hl hl1 h1
    have e2 := fcnts_of_sz r (fun x hx => ih x (List.mem_cons_of_mem _ hx)) _ h1 (by omega) h3
    rw [h4]
    simp only [filtsCnt, List.length_cons, VSms]
    exact ⟨by omega, e1.2, e2.2⟩
theorem fcnt_of_sz : ∀ x, FCntSz x := Filt.ind fun kind n s v kids ih l hl hl1 h => by
  rw [szDs_filt kind n s v kids l hl] at h ⊢
  split at h
  · omega
  · next h1 =>
    rw [if_neg h1]
    split at h
    · omega
    · next h2 =>
      rw [if_neg h2]
      have r1 := szDs_range (valDs v) (l - s.size) (by omega)
      have c1 := cnt_of_sz v (l - s.size) (by omega) (by omega)
      obtain ⟨h3, h4, h5⟩ := sz_row h
      have := fcnts_of_sz kids ih _ h3 (by omega) h4
      rw [h5]
      simp only [filtCnt, VSm]
      exact ⟨by omega, by omega, this.2⟩
end Go.Proofs.YtppfgepoegicgaaDoor
