import Derived.Test.YtppfgepoegicgaaDoorFiltRows
import Derived.Test.YtppfgepoegicgaaDoorEqV
import Derived.Test.YtppfgepoegicgaaDoorToV
namespace Go.Proofs.YtppfgepoegicgaaDoor
open Go Go.RowKit

def SzFilt (v : Filt) : Prop := ∀ (us : List Value) (left : Int) (w : World) (B : Nat), B ≤ w.heap.size → RDv w B (filtDs v) us → 0 ≤ left → left ≤ 1048576 →
  Calls Tryd.prog 6 #[.agg us.toArray, .int .i64 left] w fun e w' => e = .returned (.int .i64 (szDs (filtDs v) left)) ∧ Below w.heap.size w w'
def SzFilts (vs : List Filt) : Prop := ∀ (A : Option Addr) (c : Nat) (left : Int) (w : World) (B : Nat), B ≤ w.heap.size → RD w B (.row 9 vs.length (filtsDs vs)) (.slice A vs.length c) → 0 ≤ left → left ≤ 1048576 →
  Calls Tryd.prog 20 #[.slice A vs.length c, .int .i64 left] w fun e w' => e = .returned (.int .i64 (szD (.row 9 vs.length (filtsDs vs)) left)) ∧ Below w.heap.size w w'

set_option maxHeartbeats 1000000 in
theorem szFilts_of (vs : List Filt) (ih : ∀ v ∈ vs, SzFilt v) : SzFilts vs := by
  intro A c left w B hB h h0 h1
  have hn := h.len
  have H := Lib.hid h
  have IH := Lib.hid ih
  clear h ih
  go_enter Tryd.func20, Tryd.ntmps20
  by_cases hs : left - (vs.length : Int) < 0
  · have HR := Lib.hid (show szD (.row 9 vs.length (filtsDs vs)) left = -1 by simp [szD, hs])
    go_wp2
    go_ret
    exact ⟨by rw [HR.out]; rfl, Below.refl _ _⟩
  · have HR := Lib.hid (show szD (.row 9 vs.length (filtsDs vs)) left = szDs (filtsDs vs) (left - vs.length) by simp [szD, hs])
    go_wp2
    go_loopw [1, 5] (fun v i w' => ∃ (k : Nat) (l : Int), k ≤ vs.length ∧ v = .int .i64 l ∧ i = .int .i64 k ∧ 0 ≤ l ∧ l ≤ 1048576 ∧ Hid (szDs (filtsDs (vs.drop k)) l = szDs (filtsDs vs) (left - vs.length)) ∧ Below w.heap.size w w') (fun _ i _ => vs.length - (intOf i).toNat)
    case atStart => exact ⟨0, _, by omega, rfl, rfl, by omega, by omega, rfl, Below.refl _ _⟩
    case round =>
      obtain ⟨k, l, hk, rfl, rfl, hl0, hl1, HI, hb⟩ := hrel
      have hz := hb.size
      by_cases hlt : k < vs.length
      · obtain ⟨ad, v, c0, c1, c2, c3, c4, c5, c6, c7, c8, rfl, hbl, hv, hm, hd, x0, x1, x2, x3, x4, x5, x6, x7, x8⟩ := row9_at (H.out.upto (hb.mono hB) (Nat.le_refl _)) rfl hlt
        have h2 := HI.out
        clear HI
        rw [hd.out] at h2
        simp only [filtsDs] at h2
        rw [szDs_append _ _ _ hl0] at h2
        obtain ⟨m, em⟩ : ∃ m, m = szDs (filtDs v) l := ⟨_, rfl⟩
        have hr := szDs_range (filtDs v) l hl0
        rw [← em] at h2 hr
        have EM := Lib.hid em
        clear em
        by_cases hs2 : m < 0
        · rw [if_pos hs2] at h2
          have HI := Lib.hid h2
          clear h2
          go_wp2_with fail
          refine (IH.out v hm _ l wr B (by omega) hv hl0 hl1).mono ?_
          rintro e w1 ⟨rfl, hb1⟩
          rw [← EM.out]
          go_wp2
          go_ret
          exact ⟨by rw [HR.out, ← HI.out]; rfl, hb.trans (hb1.mono hz)⟩
        · rw [if_neg hs2] at h2
          have HI := Lib.hid h2
          clear h2
          go_wp2_with fail
          refine (IH.out v hm _ l wr B (by omega) hv hl0 hl1).mono ?_
          rintro e w1 ⟨rfl, hb1⟩
          rw [← EM.out]
          go_wp2
          go_roundw
          case rel => exact ⟨k + 1, _, by omega, rfl, by go_num, by omega, by omega, HI, hb.trans (hb1.mono hz)⟩
          case measure => simp [intOf]; omega
      · have e : k = vs.length := by omega
        have h2 := HI.out
        clear HI
        rw [e, List.drop_length] at h2
        have HI := Lib.hid h2
        clear h2 e
        go_wp2
        go_ret
        exact ⟨by rw [HR.out, ← HI.out]; rfl, hb⟩
end Go.Proofs.YtppfgepoegicgaaDoor
