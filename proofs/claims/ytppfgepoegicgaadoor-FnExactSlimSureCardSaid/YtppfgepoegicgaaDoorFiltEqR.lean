import Derived.Test.YtppfgepoegicgaaDoorFiltRows
import Derived.Test.YtppfgepoegicgaaDoorEqV
import Derived.Test.YtppfgepoegicgaaDoorToV
namespace Go.Proofs.YtppfgepoegicgaaDoor
open Go Go.RowKit

def EqFilt (v : Filt) : Prop := ∀ (us us' : List Value) (w : World) (B : Nat), B ≤ w.heap.size → RDv w B (filtDs v) us → RDv w B (filtDs v) us' →
  Calls Tryd.prog 10 #[.agg us.toArray, .agg us'.toArray] w fun e w' => e = .returned (.bool true) ∧ Below w.heap.size w w'
def EqFilts (vs : List Filt) : Prop := ∀ (A A' : Option Addr) (c c' : Nat) (w : World) (B : Nat), B ≤ w.heap.size → RD w B (.row 9 vs.length (filtsDs vs)) (.slice A vs.length c) → RD w B (.row 9 vs.length (filtsDs vs)) (.slice A' vs.length c') →
  Calls Tryd.prog 28 #[.slice A vs.length c, .slice A' vs.length c'] w fun e w' => e = .returned (.bool true) ∧ Below w.heap.size w w'

set_option maxRecDepth 100000 in
set_option maxHeartbeats 1000000 in
theorem eqFilts_of (vs : List Filt) (ih : ∀ v ∈ vs, EqFilt v) : EqFilts vs := by
  intro A A' c c' w B hB h h'
  have hn := h.len
  have H := Lib.hid h
  have H' := Lib.hid h'
  have IH := Lib.hid ih
  clear h h' ih
  go_enter Tryd.func28, Tryd.ntmps28
  go_wp2
  go_loopw [5] (fun i w' => ∃ (k : Nat), k ≤ vs.length ∧ i = .int .i64 k ∧ Below w.heap.size w w') (fun i _ => vs.length - (intOf i).toNat)
  case atStart => exact ⟨0, by omega, rfl, Below.refl _ _⟩
  case round =>
    obtain ⟨k, hk, rfl, hb⟩ := hrel
    have hz := hb.size
    by_cases hlt : k < vs.length
    · obtain ⟨ad, v, c0, c1, c2, c3, c4, c5, c6, c7, c8, rfl, hbl, hv, hm, hd, x0, x1, x2, x3, x4, x5, x6, x7, x8⟩ := row9_at (H.out.upto (hb.mono hB) (Nat.le_refl _)) rfl hlt
      obtain ⟨ad', v', c0', c1', c2', c3', c4', c5', c6', c7', c8', rfl, hbl', hv', hm', hd', x0', x1', x2', x3', x4', x5', x6', x7', x8'⟩ := row9_at (H'.out.upto (hb.mono hB) (Nat.le_refl _)) rfl hlt
      obtain rfl : v = v' := by
        have := hd.out.symm.trans hd'.out
        injection this
      have hb0 : (0 : Int) ≤ (k : Int) := by omega
      have hb1 : (k : Int) < (vs.length : Int) := by omega
      go_wp2_with fail
      go_still_tail 8, (by kernel_rfl)
      change wpList _ _ _ _ _ wr.drew
      have hD : Below wr.heap.size wr wr.drew := (Below.refl _ _).drew
      have hBr : B ≤ wr.heap.size := by omega
      go_wp2_with fail
      refine (IH.out v hm _ _ wr.drew B hBr (hv.below (hD.mono hBr)) (hv'.below (hD.mono hBr))).mono ?_
      rintro e w1 ⟨rfl, hb1⟩
      go_wp2
      go_roundw
      case rel => exact ⟨k + 1, by omega, by go_num, hb.trans ((hD.trans hb1).mono hz)⟩
      case measure => simp [intOf]; omega
    · go_wp2
      go_ret
      exact ⟨rfl, hb⟩
end Go.Proofs.YtppfgepoegicgaaDoor
