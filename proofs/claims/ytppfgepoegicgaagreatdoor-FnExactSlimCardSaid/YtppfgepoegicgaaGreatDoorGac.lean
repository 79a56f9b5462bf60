/- Parts of the proof: FKids, FiltSz, FSz. -/
import Derived.Test.YtppfgepoegicgaaGreatDoorZFOkDef
import Derived.Test.YtppfgepoegicgaaGreatDoorGb
namespace Go.Proofs.YtppfgepoegicgaaGreatDoor
open Go Go.RowKit

set_option maxRecDepth 100000 in
set_option maxHeartbeats 4000000 in
theorem kids_calls (k : Int) (w : World) : Calls Tryz.prog 54 #[.int .i64 k] w fun e w' => e = .returned (.int .i64 (kidsOf k)) ∧ w' = w := by
  by_cases e1 : k = 1
  · subst e1
    go_enter Tryz.func54, Tryz.ntmps54
    go_wp2
    go_ret
    exact ⟨rfl, rfl⟩
  by_cases e2 : k = 2
  · subst e2
    go_enter Tryz.func54, Tryz.ntmps54
    go_wp2
    go_ret
    exact ⟨rfl, rfl⟩
  by_cases e3 : k = 3
  · subst e3
    go_enter Tryz.func54, Tryz.ntmps54
    go_wp2
    go_ret
    exact ⟨rfl, rfl⟩
  by_cases e4 : k = 4
  · subst e4
    go_enter Tryz.func54, Tryz.ntmps54
    go_wp2
    go_ret
    exact ⟨rfl, rfl⟩
  by_cases e5 : k = 5
  · subst e5
    go_enter Tryz.func54, Tryz.ntmps54
    go_wp2
    go_ret
    exact ⟨rfl, rfl⟩
  by_cases e6 : k = 6
  · subst e6
    go_enter Tryz.func54, Tryz.ntmps54
    go_wp2
    go_ret
    exact ⟨rfl, rfl⟩
  by_cases e7 : k = 7
  · subst e7
    go_enter Tryz.func54, Tryz.ntmps54
    go_wp2
    go_ret
    exact ⟨rfl, rfl⟩
  by_cases e8 : k = 8
  · subst e8
    go_enter Tryz.func54, Tryz.ntmps54
    go_wp2
    go_ret
    exact ⟨rfl, rfl⟩
  by_cases e9 : k = 9
  · subst e9
    go_enter Tryz.func54, Tryz.ntmps54
    go_wp2
    go_ret
    exact ⟨rfl, rfl⟩
  by_cases e10 : k = 10
  · subst e10
    go_enter Tryz.func54, Tryz.ntmps54
    go_wp2
    go_ret
    exact ⟨rfl, rfl⟩
  by_cases e11 : k = 11
  · subst e11
    go_enter Tryz.func54, Tryz.ntmps54
    go_wp2
    go_ret
    exact ⟨rfl, rfl⟩
  by_cases e12 : k = 12
  · subst e12
    go_enter Tryz.func54, Tryz.ntmps54
    go_wp2
    go_ret
    exact ⟨rfl, rfl⟩
  by_cases e13 : k = 13
  · subst e13
    go_enter Tryz.func54, Tryz.ntmps54
    go_wp2
    go_ret
    exact ⟨rfl, rfl⟩
  by_cases e14 : k = 14
  · subst e14
    go_enter Tryz.func54, Tryz.ntmps54
    go_wp2
    go_ret
    exact ⟨rfl, rfl⟩
  by_cases e15 : k = 15
  · subst e15
    go_enter Tryz.func54, Tryz.ntmps54
    go_wp2
    go_ret
    exact ⟨rfl, rfl⟩
  by_cases e16 : k = 16
  · subst e16
    go_enter Tryz.func54, Tryz.ntmps54
    go_wp2
    go_ret
    exact ⟨rfl, rfl⟩
  by_cases e17 : k = 17
  · subst e17
    go_enter Tryz.func54, Tryz.ntmps54
    go_wp2
    go_ret
    exact ⟨rfl, rfl⟩
  by_cases e18 : k = 18
  · subst e18
    go_enter Tryz.func54, Tryz.ntmps54
    go_wp2
    go_ret
    exact ⟨rfl, rfl⟩
  by_cases e19 : k = 19
  · subst e19
    go_enter Tryz.func54, Tryz.ntmps54
    go_wp2
    go_ret
    exact ⟨rfl, rfl⟩
  by_cases e20 : k = 20
  · subst e20
    go_enter Tryz.func54, Tryz.ntmps54
    go_wp2
    go_ret
    exact ⟨rfl, rfl⟩
  by_cases e21 : k = 21
  · subst e21
    go_enter Tryz.func54, Tryz.ntmps54
    go_wp2
    go_ret
    exact ⟨rfl, rfl⟩
  have HE := Lib.hid (show kidsOf k = -1 by unfold kidsOf; rw [if_pos (by omega)])
  have b1 : (k == 1) = false := by simpa using e1
  have b2 : (k == 2) = false := by simpa using e2
  have b3 : (k == 3) = false := by simpa using e3
  have b4 : (k == 4) = false := by simpa using e4
  have b5 : (k == 5) = false := by simpa using e5
  have b6 : (k == 6) = false := by simpa using e6
  have b7 : (k == 7) = false := by simpa using e7
  have b8 : (k == 8) = false := by simpa using e8
  have b9 : (k == 9) = false := by simpa using e9
  have b10 : (k == 10) = false := by simpa using e10
  have b11 : (k == 11) = false := by simpa using e11
  have b12 : (k == 12) = false := by simpa using e12
  have b13 : (k == 13) = false := by simpa using e13
  have b14 : (k == 14) = false := by simpa using e14
  have b15 : (k == 15) = false := by simpa using e15
  have b16 : (k == 16) = false := by simpa using e16
  have b17 : (k == 17) = false := by simpa using e17
  have b18 : (k == 18) = false := by simpa using e18
  have b19 : (k == 19) = false := by simpa using e19
  have b20 : (k == 20) = false := by simpa using e20
  have b21 : (k == 21) = false := by simpa using e21
  clear e1 e2 e3 e4 e5 e6 e7 e8 e9 e10 e11 e12 e13 e14 e15 e16 e17 e18 e19 e20 e21
  go_enter Tryz.func54, Tryz.ntmps54
  go_wp2
  go_ret
  exact ⟨by rw [HE.out]; rfl, rfl⟩
end Go.Proofs.YtppfgepoegicgaaGreatDoor
namespace Go.Proofs.YtppfgepoegicgaaGreatDoor
open Go Go.RowKit

theorem szDs_cons_str (s : ByteArray) (r : List Dat) (l : Int) : szDs (.str s :: r) l = if l - s.size < 0 then -1 else szDs r (l - s.size) := by
  simp only [szDs, szD]
  by_cases h : l - (s.size : Int) < 0
  · simp [h]
  · simp [h]
theorem szDs_cons_int (n : Int) (r : List Dat) (l : Int) (hl : 0 ≤ l) : szDs (.int n :: r) l = szDs r l := by
  have e : szD (.int n) l = l := by simp only [szD]
  simp only [szDs]
  rw [e, if_neg (by omega)]
theorem szDs_one (d : Dat) (l : Int) (hl : 0 ≤ l) : szDs [d] l = szD d l := by
  simp only [szDs]
  have := szD_range d l hl
  split <;> omega
theorem szDs_filt (kind n : Int) (s : ByteArray) (v : Val) (kids : List Filt) (l : Int) (hl : 0 ≤ l) :
    szDs (filtDs (.mk kind n s v kids)) l = if l - s.size < 0 then -1 else if szDs (valDs v) (l - s.size) < 0 then -1 else szD (.row 9 kids.length (filtsDs kids)) (szDs (valDs v) (l - s.size)) := by
  simp only [filtDs]
  rw [szDs_cons_int _ _ _ hl, szDs_cons_int _ _ _ hl, szDs_cons_str]
  by_cases h : l - (s.size : Int) < 0
  · rw [if_pos h, if_pos h]
  · rw [if_neg h, if_neg h, szDs_append _ _ _ (by omega)]
    by_cases h1 : szDs (valDs v) (l - s.size) < 0
    · rw [if_pos h1, if_pos h1]
    · rw [if_neg h1, if_neg h1, szDs_one _ _ (by omega)]

set_option maxHeartbeats 1000000 in
theorem szFilt_of (x : Filt) (ih : ∀ kind n s v kids, x = .mk kind n s v kids → SzFilts kids) : SzFilt x := by
  intro us left w B hB h h0 h1
  obtain ⟨kind, n, s, v, kids, a3, a4, a5, A6, n6, q6, A7, n7, q7, A8, q8, rfl, rfl, hs, hv, hk⟩ := filtDs_all h
  have IH := Lib.hid (ih _ _ _ _ _ rfl)
  clear ih h
  have hR := szDs_filt kind n s v kids left h0
  have hbx := fun o => below_box w o
  obtain ⟨m1, em1⟩ : ∃ m, m = szDs (valDs v) (left - s.size) := ⟨_, rfl⟩
  obtain ⟨m2, em2⟩ : ∃ m, m = szD (.row 9 kids.length (filtsDs kids)) m1 := ⟨_, rfl⟩
  rw [← em1, ← em2] at hR
  have r1 := szDs_range (valDs v) (left - s.size)
  have r2 := szD_range (.row 9 kids.length (filtsDs kids)) m1
  rw [← em1] at r1
  rw [← em2] at r2
  have E1 := Lib.hid em1
  have E2 := Lib.hid em2
  have R1 := Lib.hid r1
  have R2 := Lib.hid r2
  clear em1 em2 r1 r2
  by_cases t0 : left - (s.size : Int) < 0
  · rw [if_pos t0] at hR
    have HR := Lib.hid hR
    clear hR
    go_enter Tryz.func4, Tryz.ntmps4
    go_wp2
    go_ret
    exact ⟨by rw [HR.out]; rfl, hbx _⟩
  · rw [if_neg t0] at hR
    have b1 := R1.out (by omega)
    by_cases t1 : m1 < 0
    · rw [if_pos t1] at hR
      have HR := Lib.hid hR
      clear hR
      go_enter Tryz.func4, Tryz.ntmps4
      go_wp2_with fail
      refine (szVal_calls v [_, _, _, _, _] _ _ B (by simp; omega) (hv.below ((hbx _).mono hB)) (by omega) (by omega)).mono ?_
      rintro e w1 ⟨rfl, hb1⟩
      rw [← E1.out]
      obtain ⟨hb, hz, hc, hf⟩ := bbox hb1
      go_wp2
      go_ret
      exact ⟨by rw [HR.out]; rfl, hb⟩
    · rw [if_neg t1] at hR
      have b2 := R2.out (by omega)
      by_cases t2 : m2 < 0
      all_goals
        have HR := Lib.hid hR
        clear hR
        go_enter Tryz.func4, Tryz.ntmps4
        go_wp2_with fail
        refine (szVal_calls v [_, _, _, _, _] _ _ B (by simp; omega) (hv.below ((hbx _).mono hB)) (by omega) (by omega)).mono ?_
        rintro e w1 ⟨rfl, hb1⟩
        rw [← E1.out]
        obtain ⟨hb, hz, hc, hf⟩ := bbox hb1
        go_wp2_with fail
        refine (IH.out A8 q8 _ _ B (by omega) (hk.below (hb.mono hB)) (by omega) (by omega)).mono ?_
        rintro e w2 ⟨rfl, hb2⟩
        rw [← E2.out]
        go_wp2
        go_ret
      · exact ⟨by rw [HR.out, show m2 = -1 by omega]; rfl, hb.trans (hb2.mono (by omega))⟩
      · exact ⟨by rw [HR.out]; rfl, hb.trans (hb2.mono (by omega))⟩
theorem szFilt_calls : ∀ v, SzFilt v := Filt.ind fun kind n s v kids ih => szFilt_of _ fun _ _ _ _ _ e => by
  injection e with e1 e2 e3 e4 e5
  subst e5
  exact szFilts_of _ ih
theorem szFilts_calls (vs : List Filt) : SzFilts vs := szFilts_of vs fun v _ => szFilt_calls v
end Go.Proofs.YtppfgepoegicgaaGreatDoor
namespace Go.Proofs.YtppfgepoegicgaaGreatDoor
open Go Go.RowKit

theorem sz_part {a b : List Dat} {l : Int} (hl : 0 ≤ l) (h : 0 ≤ szDs (a ++ b) l) : 0 ≤ szDs a l ∧ szDs a l ≤ l ∧ 0 ≤ szDs b (szDs a l) ∧ szDs (a ++ b) l = szDs b (szDs a l) := by
  have h1 := szDs_range a l hl
  have e := szDs_append a b l hl
  rw [e] at h ⊢
  split at h
  · omega
  · next h2 => exact ⟨by omega, by omega, h, by rw [if_neg h2]⟩
theorem sz_row {z n : Nat} {cells : List Dat} {l : Int} (h : 0 ≤ szD (.row z n cells) l) : 0 ≤ l - n ∧ 0 ≤ szDs cells (l - n) ∧ szD (.row z n cells) l = szDs cells (l - n) := by
  simp only [szD] at h ⊢
  split at h
  · omega
  · next h2 => exact ⟨by omega, h, by rw [if_neg h2]⟩
def CntSz (v : Val) : Prop := ∀ l : Int, 0 ≤ l → 0 ≤ szDs (valDs v) l → szDs (valDs v) l + valCnt v ≤ l + 1
theorem cnts_of_sz : ∀ (vs : List Val), (∀ v ∈ vs, CntSz v) → ∀ l : Int, 0 ≤ l → 0 ≤ szDs (valsDs vs) l → szDs (valsDs vs) l + valsCnt vs ≤ l + vs.length
  | [], _, l, hl, h => by simp [valsDs, szDs, valsCnt]
  | v :: r, ih, l, hl, h => by
    simp only [valsDs] at h ⊢
    obtain ⟨h1, h2, h3, h4⟩ := sz_part hl h
    have e1 := ih v (List.mem_cons_self) l hl h1
    have e2 := cnts_of_sz r (fun x hx => ih x (List.mem_cons_of_mem _ hx)) _ h1 h3
    rw [h4]
    simp only [valsCnt, List.length_cons]
    omega
theorem cnt_of_sz : ∀ v, CntSz v := Val.ind fun kind n s keys list ih l hl h => by
  rw [szDs_val kind n s keys list l hl] at h ⊢
  split at h
  · omega
  · next h1 =>
    rw [if_neg h1]
    split at h
    · omega
    · next h2 =>
      rw [if_neg h2]
      have r1 := szD_range (.row 1 keys.length (strDs keys)) (l - s.size) (by omega)
      obtain ⟨h3, h4, h5⟩ := sz_row h
      have := cnts_of_sz list ih _ h3 h4
      rw [h5]
      simp only [valCnt]
      omega
mutual
/-- All the trees within have parts that a number can count. -/
def VSm : Filt → Prop
  | .mk _ _ _ v kids => valCnt v ≤ 1099511627776 ∧ VSms kids
def VSms : List Filt → Prop
  | [] => True
  | x :: r => VSm x ∧ VSms r
end
theorem vsm_mem : ∀ {xs : List Filt} {x : Filt}, VSms xs → x ∈ xs → VSm x
  | [], _, _, h => by cases h
  | y :: r, x, h, hm => by
    simp only [VSms] at h
    rcases List.mem_cons.1 hm with rfl | hm
    · exact h.1
    · exact vsm_mem h.2 hm
def FCntSz (x : Filt) : Prop := ∀ l : Int, 0 ≤ l → l ≤ 1048576 → 0 ≤ szDs (filtDs x) l → szDs (filtDs x) l + filtCnt x ≤ l + 1 ∧ VSm x
theorem fcnts_of_sz : ∀ (xs : List Filt), (∀ x ∈ xs, FCntSz x) → ∀ l : Int, 0 ≤ l → l ≤ 1048576 → 0 ≤ szDs (filtsDs xs) l → szDs (filtsDs xs) l + filtsCnt xs ≤ l + xs.length ∧ VSms xs
  | [], _, l, hl, hl1, h => by simp [filtsDs, szDs, filtsCnt, VSms]
  | v :: r, ih, l, hl, hl1, h => by
    simp only [filtsDs] at h ⊢
    obtain ⟨h1, h2, h3, h4⟩ := sz_part hl h
    have e1 := ih v (List.mem_cons_self) l hl hl1 h1
    have e2 := fcnts_of_sz r (fun x hx => ih x (List.mem_cons_of_mem _ hx)) _ h1 (by omega) h3
    rw [h4]
    simp only [filtsCnt, List.length_cons, VSms]
    exact ⟨by omega, e1.2, e2.2⟩
theorem fcnt_of_sz : ∀ x, FCntSz x := Filt.ind fun kind n s v kids ih l hl hl1 h => by
  rw [szDs_filt kind n s v kids l hl] at h ⊢
  split at h
  · omega
  · next h1 =>
    rw [if_neg h1]
    split at h
    · omega
    · next h2 =>
      rw [if_neg h2]
      have r1 := szDs_range (valDs v) (l - s.size) (by omega)
      have c1 := cnt_of_sz v (l - s.size) (by omega) (by omega)
      obtain ⟨h3, h4, h5⟩ := sz_row h
      have := fcnts_of_sz kids ih _ h3 (by omega) h4
      rw [h5]
      simp only [filtCnt, VSm]
      exact ⟨by omega, by omega, this.2⟩
end Go.Proofs.YtppfgepoegicgaaGreatDoor
