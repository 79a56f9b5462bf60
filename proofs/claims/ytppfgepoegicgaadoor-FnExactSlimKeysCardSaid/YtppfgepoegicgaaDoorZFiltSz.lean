/- Parts of the proof: FiltSz. -/
import Derived.Test.YtppfgepoegicgaaDoorGb
namespace Go.Proofs.YtppfgepoegicgaaDoor
open Go Go.RowKit

theorem szDs_cons_str (s : ByteArray) (r : List Dat) (l : Int) : szDs (.str s :: r) l = if l - s.size < 0 then -1 else szDs r (l - s.size) := by
  simp only [szDs, szD]
  by_cases h : l - (s.size : Int) < 0
  · simp [h]
  · simp [h]
theorem szDs_cons_int (n : Int) (r : List Dat) (l : Int) (hl : 0 ≤ l) : szDs (.int n :: r) l = szDs r l := by
  have e : szD (.int n) l = l := by simp only [szD]
  simp only [szDs]
  rw [e, if_neg (by omega)]
theorem szDs_one (d : Dat) (l : Int) (hl : 0 ≤ l) : szDs [d] l = szD d l := by
  simp only [szDs]
  have := szD_range d l hl
  split <;> omega
theorem szDs_filt (kind n : Int) (s : ByteArray) (v : Val) (kids : List Filt) (l : Int) (hl : 0 ≤ l) :
    szDs (filtDs (.mk kind n s v kids)) l = if l - s.size < 0 then -1 else if szDs (valDs v) (l - s.size) < 0 then -1 else szD (.row 9 kids.length (filtsDs kids)) (szDs (valDs v) (l - s.size)) := by
  simp only [filtDs]
  rw [szDs_cons_int _ _ _ hl, szDs_cons_int _ _ _ hl, szDs_cons_str]
  by_cases h : l - (s.size : Int) < 0
  · rw [if_pos h, if_pos h]
  · rw [if_neg h, if_neg h, szDs_append _ _ _ (by omega)]
    by_cases h1 : szDs (valDs v) (l - s.size) < 0
    · rw [if_pos h1, if_pos h1]
    · rw [if_neg h1, if_neg h1, szDs_one _ _ (by omega)]

set_option maxHeartbeats 1000000 in
theorem szFilt_of (x : Filt) (ih : ∀ kind n s v kids, x = .mk kind n s v kids → SzFilts kids) : SzFilt x := by
  intro us left w B hB h h0 h1
  obtain ⟨kind, n, s, v, kids, a3, a4, a5, A6, n6, q6, A7, n7, q7, A8, q8, rfl, rfl, hs, hv, hk⟩ := filtDs_all h
  have IH := Lib.hid (ih _ _ _ _ _ rfl)
  clear ih h
  have hR := szDs_filt kind n s v kids left h0
  have hbx := fun o => below_box w o
  obtain ⟨m1, em1⟩ : ∃ m, m = szDs (valDs v) (left - s.size) := ⟨_, rfl⟩
  obtain ⟨m2, em2⟩ : ∃ m, m = szD (.row 9 kids.length (filtsDs kids)) m1 := ⟨_, rfl⟩
  rw [← em1, ← em2] at hR
  have r1 := szDs_range (valDs v) (left - s.size)
  have r2 := szD_range (.row 9 kids.length (filtsDs kids)) m1
  rw [← em1] at r1
  rw [← em2] at r2
  have E1 := Lib.hid em1
  have E2 := Lib.hid em2
  have R1 := Lib.hid r1
  have R2 := Lib.hid r2
  clear em1 em2 r1 r2
  by_cases t0 : left - (s.size : Int) < 0
  · rw [if_pos t0] at hR
    have HR := Lib.hid hR
    clear hR
    go_enter Tryd.func6, Tryd.ntmps6
    go_wp2
    go_ret
    exact ⟨by rw [HR.out]; rfl, hbx _⟩
  · rw [if_neg t0] at hR
    have b1 := R1.out (by omega)
    by_cases t1 : m1 < 0
    · rw [if_pos t1] at hR
      have HR := Lib.hid hR
      clear hR
      go_enter Tryd.func6, Tryd.ntmps6
      go_wp2_with fail
      refine (szVal_calls v [_, _, _, _, _] _ _ B (by simp; omega) (hv.below ((hbx _).mono hB)) (by omega) (by omega)).mono ?_
      rintro e w1 ⟨rfl, hb1⟩
      rw [← E1.out]
      obtain ⟨hb, hz, hc, hf⟩ := bbox hb1
      go_wp2
      go_ret
      exact ⟨by rw [HR.out]; rfl, hb⟩
    · rw [if_neg t1] at hR
      have b2 := R2.out (by omega)
      by_cases t2 : m2 < 0
      all_goals
        have HR := Lib.hid hR
        clear hR
        go_enter Tryd.func6, Tryd.ntmps6
        go_wp2_with fail
        refine (szVal_calls v [_, _, _, _, _] _ _ B (by simp; omega) (hv.below ((hbx _).mono hB)) (by omega) (by omega)).mono ?_
        rintro e w1 ⟨rfl, hb1⟩
        rw [← E1.out]
        obtain ⟨hb, hz, hc, hf⟩ := bbox hb1
        go_wp2_with fail
        refine (IH.out A8 q8 _ _ B (by omega) (hk.below (hb.mono hB)) (by omega) (by omega)).mono ?_
        rintro e w2 ⟨rfl, hb2⟩
        rw [← E2.out]
        go_wp2
        go_ret
      · exact ⟨by rw [HR.out, show m2 = -1 by omega]; rfl, hb.trans (hb2.mono (by omega))⟩
      · exact ⟨by rw [HR.out]; rfl, hb.trans (hb2.mono (by omega))⟩
theorem szFilt_calls : ∀ v, SzFilt v := Filt.ind fun kind n s v kids ih => szFilt_of _ fun _ _ _ _ _ e => by
  injection e with e1 e2 e3 e4 e5
  subst e5
  exact szFilts_of _ ih
theorem szFilts_calls (vs : List Filt) : SzFilts vs := szFilts_of vs fun v _ => szFilt_calls v
end Go.Proofs.YtppfgepoegicgaaDoor
