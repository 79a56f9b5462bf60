import Derived.Test.YtppfgepoegicgaaDoorProg
import Derived.Test.YtppfgepoegicgaaDoorBase
import Derived.KernelRfl
import Derived.Outline
import Derived.Lib.Hide
namespace Go.Proofs.YtppfgepoegicgaaDoor
open Go Go.RowKit

mutual
def szD : Dat → Int → Int
  | .int _, l => l
  | .str s, l => if l - s.size < 0 then -1 else l - s.size
  | .row _ n cells, l => if l - n < 0 then -1 else szDs cells (l - n)
def szDs : List Dat → Int → Int
  | [], l => l
  | d :: ds, l => if szD d l < 0 then -1 else szDs ds (szD d l)
end

theorem szDs_str (s : ByteArray) (r : List ByteArray) (l : Int) : szDs (strDs (s :: r)) l = if l - s.size < 0 then -1 else szDs (strDs r) (l - s.size) := by
  simp only [strDs, szDs, szD]
  by_cases h : l - (s.size : Int) < 0
  · simp [h]
  · simp [h]

set_option maxHeartbeats 1000000 in
theorem szStringS_calls (ss : List ByteArray) (A : Option Addr) (c : Nat) (left : Int) (w : World) (B : Nat) (hB : B ≤ w.heap.size) (h : RD w B (.row 1 ss.length (strDs ss)) (.slice A ss.length c)) (h0 : 0 ≤ left) (h1 : left ≤ 1048576) :
    Calls Tryd.prog 38 #[.slice A ss.length c, .int .i64 left] w fun e w' => e = .returned (.int .i64 (szD (.row 1 ss.length (strDs ss)) left)) ∧ Below w.heap.size w w' := by
  have hn := h.len
  have H := Lib.hid h
  clear h
  go_enter Tryd.func38, Tryd.ntmps38
  by_cases hs : left - (ss.length : Int) < 0
  · have HR := Lib.hid (show szD (.row 1 ss.length (strDs ss)) left = -1 by simp [szD, hs])
    go_wp2
    go_ret
    exact ⟨by rw [HR.out]; rfl, Below.refl _ _⟩
  · have HR := Lib.hid (show szD (.row 1 ss.length (strDs ss)) left = szDs (strDs ss) (left - ss.length) by simp [szD, hs])
    go_wp2
    go_loopw [1, 5] (fun v i w' => ∃ (k : Nat) (l : Int), k ≤ ss.length ∧ v = .int .i64 l ∧ i = .int .i64 k ∧ 0 ≤ l ∧ l ≤ 1048576 ∧ Hid (szDs (strDs (ss.drop k)) l = szDs (strDs ss) (left - ss.length)) ∧ w' = w) (fun _ i _ => ss.length - (intOf i).toNat)
    case atStart => exact ⟨0, _, by omega, rfl, rfl, by omega, by omega, rfl, rfl⟩
    case round =>
      obtain ⟨k, l, hk, rfl, rfl, hl0, hl1, HI, rfl⟩ := hrel
      by_cases hlt : k < ss.length
      · obtain ⟨ad, s0, rfl, hb, hc, hs0, hd⟩ := row1_at H.out rfl hlt
        have h2 := HI.out
        clear HI
        rw [hd.out, szDs_str] at h2
        by_cases hs2 : l - (s0.size : Int) < 0
        · rw [if_pos hs2] at h2
          have HI := Lib.hid h2
          clear h2
          go_wp2
          go_ret
          exact ⟨by rw [HR.out, ← HI.out]; rfl, Below.refl _ _⟩
        · rw [if_neg hs2] at h2
          have HI := Lib.hid h2
          clear h2
          go_wp2
          go_roundw
          case rel => exact ⟨k + 1, _, by omega, rfl, by go_num, by omega, by omega, HI, trivial⟩
          case measure => simp [intOf]; omega
      · have e : k = ss.length := by omega
        have h2 := HI.out
        clear HI
        rw [e, List.drop_length] at h2
        have HI := Lib.hid h2
        clear h2 e
        go_wp2
        go_ret
        exact ⟨by rw [HR.out, ← HI.out]; rfl, Below.refl _ _⟩

def SzVal (v : Val) : Prop := ∀ (us : List Value) (left : Int) (w : World) (B : Nat), B ≤ w.heap.size → RDv w B (valDs v) us → 0 ≤ left → left ≤ 1048576 →
  Calls Tryd.prog 19 #[.agg us.toArray, .int .i64 left] w fun e w' => e = .returned (.int .i64 (szDs (valDs v) left)) ∧ Below w.heap.size w w'
def SzVals (vs : List Val) : Prop := ∀ (A : Option Addr) (c : Nat) (left : Int) (w : World) (B : Nat), B ≤ w.heap.size → RD w B (.row 5 vs.length (valsDs vs)) (.slice A vs.length c) → 0 ≤ left → left ≤ 1048576 →
  Calls Tryd.prog 39 #[.slice A vs.length c, .int .i64 left] w fun e w' => e = .returned (.int .i64 (szD (.row 5 vs.length (valsDs vs)) left)) ∧ Below w.heap.size w w'
mutual
theorem szD_range : ∀ (d : Dat) (l : Int), 0 ≤ l → -1 ≤ szD d l ∧ szD d l ≤ l
  | .int _, l, h => by simp only [szD]; omega
  | .str s, l, h => by simp only [szD]; split <;> omega
  | .row _ n cells, l, h => by
    simp only [szD]
    split
    · omega
    · have := szDs_range cells (l - n) (by omega)
      omega
theorem szDs_range : ∀ (ds : List Dat) (l : Int), 0 ≤ l → -1 ≤ szDs ds l ∧ szDs ds l ≤ l
  | [], l, h => by simp only [szDs]; omega
  | d :: ds, l, h => by
    have h1 := szD_range d l h
    simp only [szDs]
    split
    · omega
    · have := szDs_range ds (szD d l) (by omega)
      omega
end
theorem szDs_append : ∀ (a b : List Dat) (l : Int), 0 ≤ l → szDs (a ++ b) l = if szDs a l < 0 then -1 else szDs b (szDs a l)
  | [], b, l, h => by
    have e : szDs [] l = l := by simp only [szDs]
    rw [List.nil_append, e, if_neg (by omega)]
  | d :: a, b, l, hl => by
    simp only [List.cons_append, szDs]
    by_cases h : szD d l < 0
    · simp [h]
    · simp [h, szDs_append a b _ (show 0 ≤ szD d l by omega)]

set_option maxHeartbeats 1000000 in
theorem szVals_of (vs : List Val) (ih : ∀ v ∈ vs, SzVal v) : SzVals vs := by
  intro A c left w B hB h h0 h1
  have hn := h.len
  have H := Lib.hid h
  have IH := Lib.hid ih
  clear h ih
  go_enter Tryd.func39, Tryd.ntmps39
  by_cases hs : left - (vs.length : Int) < 0
  · have HR := Lib.hid (show szD (.row 5 vs.length (valsDs vs)) left = -1 by simp [szD, hs])
    go_wp2
    go_ret
    exact ⟨by rw [HR.out]; rfl, Below.refl _ _⟩
  · have HR := Lib.hid (show szD (.row 5 vs.length (valsDs vs)) left = szDs (valsDs vs) (left - vs.length) by simp [szD, hs])
    go_wp2
    go_loopw [1, 5] (fun v i w' => ∃ (k : Nat) (l : Int), k ≤ vs.length ∧ v = .int .i64 l ∧ i = .int .i64 k ∧ 0 ≤ l ∧ l ≤ 1048576 ∧ Hid (szDs (valsDs (vs.drop k)) l = szDs (valsDs vs) (left - vs.length)) ∧ Below w.heap.size w w') (fun _ i _ => vs.length - (intOf i).toNat)
    case atStart => exact ⟨0, _, by omega, rfl, rfl, by omega, by omega, rfl, Below.refl _ _⟩
    case round =>
      obtain ⟨k, l, hk, rfl, rfl, hl0, hl1, HI, hb⟩ := hrel
      have hz := hb.size
      by_cases hlt : k < vs.length
      · obtain ⟨ad, v, c0, c1, c2, c3, c4, rfl, hbl, hv, hm, hd, x0, x1, x2, x3, x4⟩ := row5_at (H.out.upto (hb.mono hB) (Nat.le_refl _)) rfl hlt
        have h2 := HI.out
        clear HI
        rw [hd.out] at h2
        simp only [valsDs] at h2
        rw [szDs_append _ _ _ hl0] at h2
        obtain ⟨m, em⟩ : ∃ m, m = szDs (valDs v) l := ⟨_, rfl⟩
        have hr := szDs_range (valDs v) l hl0
        rw [← em] at h2 hr
        have EM := Lib.hid em
        clear em
        by_cases hs2 : m < 0
        · rw [if_pos hs2] at h2
          have HI := Lib.hid h2
          clear h2
          go_wp2_with fail
          refine (IH.out v hm _ l wr B (by omega) hv hl0 hl1).mono ?_
          rintro e w1 ⟨rfl, hb1⟩
          rw [← EM.out]
          go_wp2
          go_ret
          exact ⟨by rw [HR.out, ← HI.out]; rfl, hb.trans (hb1.mono hz)⟩
        · rw [if_neg hs2] at h2
          have HI := Lib.hid h2
          clear h2
          go_wp2_with fail
          refine (IH.out v hm _ l wr B (by omega) hv hl0 hl1).mono ?_
          rintro e w1 ⟨rfl, hb1⟩
          rw [← EM.out]
          go_wp2
          go_roundw
          case rel => exact ⟨k + 1, _, by omega, rfl, by go_num, by omega, by omega, HI, hb.trans (hb1.mono hz)⟩
          case measure => simp [intOf]; omega
      · have e : k = vs.length := by omega
        have h2 := HI.out
        clear HI
        rw [e, List.drop_length] at h2
        have HI := Lib.hid h2
        clear h2 e
        go_wp2
        go_ret
        exact ⟨by rw [HR.out, ← HI.out]; rfl, hb⟩

theorem szDs_val (kind n : Int) (s : ByteArray) (keys : List ByteArray) (list : List Val) (l : Int) (hl : 0 ≤ l) :
    szDs (valDs (.mk kind n s keys list)) l = if l - s.size < 0 then -1 else if szD (.row 1 keys.length (strDs keys)) (l - s.size) < 0 then -1 else szD (.row 5 list.length (valsDs list)) (szD (.row 1 keys.length (strDs keys)) (l - s.size)) := by
  have e1 : ∀ m : Int, szD (.int kind) m = m := fun m => by simp only [szD]
  have e2 : ∀ m : Int, szD (.int n) m = m := fun m => by simp only [szD]
  have e3 : ∀ m : Int, szDs [] m = m := fun m => by simp only [szDs]
  have e4 : ∀ (d : Dat) (m : Int), 0 ≤ m → (if szD d m < 0 then -1 else szD d m) = szD d m := fun d m hm => by
    have := szD_range d m hm
    split <;> omega
  simp only [valDs, szDs, e1, e2]
  rw [if_neg (by omega), if_neg (by omega)]
  have e5 : szD (.str s) l = if l - s.size < 0 then -1 else l - s.size := by simp only [szD]
  rw [e5]
  by_cases h : l - (s.size : Int) < 0
  · simp [h]
  · rw [if_neg h, if_neg h, if_neg h]
    by_cases h1 : szD (.row 1 keys.length (strDs keys)) (l - s.size) < 0
    · rw [if_pos h1, if_pos h1]
    · rw [if_neg h1, if_neg h1, e4 _ _ (by omega)]

set_option maxHeartbeats 1000000 in
theorem szVal_of (v : Val) (ih : ∀ kind n s keys list, v = .mk kind n s keys list → SzVals list) : SzVal v := by
  intro us left w B hB h h0 h1
  obtain ⟨kind, n, s, keys, list, A1, c1, A2, c2, rfl, rfl, hs, hk, hl⟩ := valDs_open h
  have IH := Lib.hid (ih _ _ _ _ _ rfl)
  clear ih h
  have hR := szDs_val kind n s keys list left h0
  have hbx := fun o => below_box w o
  obtain ⟨m1, em1⟩ : ∃ m, m = szD (.row 1 keys.length (strDs keys)) (left - s.size) := ⟨_, rfl⟩
  obtain ⟨m2, em2⟩ : ∃ m, m = szD (.row 5 list.length (valsDs list)) m1 := ⟨_, rfl⟩
  rw [← em1, ← em2] at hR
  have r1 := szD_range (.row 1 keys.length (strDs keys)) (left - s.size)
  have r2 := szD_range (.row 5 list.length (valsDs list)) m1
  rw [← em1] at r1
  rw [← em2] at r2
  have E1 := Lib.hid em1
  have E2 := Lib.hid em2
  have R1 := Lib.hid r1
  have R2 := Lib.hid r2
  clear em1 em2 r1 r2
  by_cases t0 : left - (s.size : Int) < 0
  · rw [if_pos t0] at hR
    have HR := Lib.hid hR
    clear hR
    go_enter Tryd.func19, Tryd.ntmps19
    go_wp2
    go_ret
    exact ⟨by rw [HR.out]; rfl, hbx _⟩
  · rw [if_neg t0] at hR
    have b1 := R1.out (by omega)
    by_cases t1 : m1 < 0
    · rw [if_pos t1] at hR
      have HR := Lib.hid hR
      clear hR
      go_enter Tryd.func19, Tryd.ntmps19
      go_wp2_with fail
      refine (szStringS_calls keys A1 c1 _ _ B (by simp; omega) (hk.below ((hbx _).mono hB)) (by omega) (by omega)).mono ?_
      rintro e w1 ⟨rfl, hb1⟩
      rw [← E1.out]
      obtain ⟨hb, hz, hc, hf⟩ := bbox hb1
      go_wp2
      go_ret
      exact ⟨by rw [HR.out]; rfl, hb⟩
    · rw [if_neg t1] at hR
      have b2 := R2.out (by omega)
      by_cases t2 : m2 < 0
      all_goals
        have HR := Lib.hid hR
        clear hR
        go_enter Tryd.func19, Tryd.ntmps19
        go_wp2_with fail
        refine (szStringS_calls keys A1 c1 _ _ B (by simp; omega) (hk.below ((hbx _).mono hB)) (by omega) (by omega)).mono ?_
        rintro e w1 ⟨rfl, hb1⟩
        rw [← E1.out]
        obtain ⟨hb, hz, hc, hf⟩ := bbox hb1
        go_wp2_with fail
        refine (IH.out A2 c2 _ _ B (by omega) (hl.below (hb.mono hB)) (by omega) (by omega)).mono ?_
        rintro e w2 ⟨rfl, hb2⟩
        rw [← E2.out]
        go_wp2
        go_ret
      · exact ⟨by rw [HR.out, show m2 = -1 by omega]; rfl, hb.trans (hb2.mono (by omega))⟩
      · exact ⟨by rw [HR.out]; rfl, hb.trans (hb2.mono (by omega))⟩

theorem szVal_calls : ∀ v, SzVal v := Val.ind fun kind n s keys list ih => szVal_of _ fun _ _ _ _ _ e => by
  injection e with e1 e2 e3 e4 e5
  subst e5
  exact szVals_of _ ih
theorem szVals_calls (vs : List Val) : SzVals vs := szVals_of vs fun v _ => szVal_calls v
end Go.Proofs.YtppfgepoegicgaaDoor
