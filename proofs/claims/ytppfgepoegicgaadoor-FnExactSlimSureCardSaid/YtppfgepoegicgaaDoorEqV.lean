import Derived.Test.YtppfgepoegicgaaDoorProg
import Derived.Test.YtppfgepoegicgaaDoorBase
import Derived.KernelRfl
import Derived.Outline
import Derived.Lib.Hide
import Derived.Deep.QuietTactic
import Derived.BigQuiet
import Derived.StillTailTactics
namespace Go.Proofs.YtppfgepoegicgaaDoor
open Go Go.RowKit

set_option maxHeartbeats 1000000 in
theorem eqStringS_calls (ss : List ByteArray) (A A' : Option Addr) (c c' : Nat) (w : World) (B : Nat) (hB : B ≤ w.heap.size) (h : RD w B (.row 1 ss.length (strDs ss)) (.slice A ss.length c)) (h' : RD w B (.row 1 ss.length (strDs ss)) (.slice A' ss.length c')) :
    Calls Tryd.prog 15 #[.slice A ss.length c, .slice A' ss.length c'] w fun e w' => e = .returned (.bool true) ∧ Below w.heap.size w w' := by
  have hn := h.len
  have H := Lib.hid h
  have H' := Lib.hid h'
  clear h h'
  go_enter Tryd.func15, Tryd.ntmps15
  go_wp2
  go_loopw [5] (fun i w' => ∃ (k : Nat), k ≤ ss.length ∧ i = .int .i64 k ∧ Below w.heap.size w w') (fun i _ => ss.length - (intOf i).toNat)
  case atStart => exact ⟨0, by omega, rfl, Below.refl _ _⟩
  case round =>
    obtain ⟨k, hk, rfl, hb⟩ := hrel
    by_cases hlt : k < ss.length
    · obtain ⟨ad, s0, rfl, hbl, hc, hs0, hd⟩ := row1_at (H.out.upto (hb.mono hB) (Nat.le_refl _)) rfl hlt
      obtain ⟨ad', s1, rfl, hbl', hc', hs1, hd'⟩ := row1_at (H'.out.upto (hb.mono hB) (Nat.le_refl _)) rfl hlt
      obtain rfl : s0 = s1 := by
        have := hd.out.symm.trans hd'.out
        injection this
      have hb0 : (0 : Int) ≤ (k : Int) := by omega
      have hb1 : (k : Int) < (ss.length : Int) := by omega
      go_wp2
      go_quiet (fail)
      go_wp2
      go_roundw
      case rel => exact ⟨k + 1, by omega, by go_num, below_drewN hb _⟩
      case measure => simp [intOf]; omega
    · go_wp2
      go_ret
      exact ⟨rfl, hb⟩

def EqVal (v : Val) : Prop := ∀ (us us' : List Value) (w : World) (B : Nat), B ≤ w.heap.size → RDv w B (valDs v) us → RDv w B (valDs v) us' →
  Calls Tryd.prog 27 #[.agg us.toArray, .agg us'.toArray] w fun e w' => e = .returned (.bool true) ∧ Below w.heap.size w w'
def EqVals (vs : List Val) : Prop := ∀ (A A' : Option Addr) (c c' : Nat) (w : World) (B : Nat), B ≤ w.heap.size → RD w B (.row 5 vs.length (valsDs vs)) (.slice A vs.length c) → RD w B (.row 5 vs.length (valsDs vs)) (.slice A' vs.length c') →
  Calls Tryd.prog 45 #[.slice A vs.length c, .slice A' vs.length c'] w fun e w' => e = .returned (.bool true) ∧ Below w.heap.size w w'

set_option maxRecDepth 100000 in
set_option maxHeartbeats 1000000 in
theorem eqVals_of (vs : List Val) (ih : ∀ v ∈ vs, EqVal v) : EqVals vs := by
  intro A A' c c' w B hB h h'
  have hn := h.len
  have H := Lib.hid h
  have H' := Lib.hid h'
  have IH := Lib.hid ih
  clear h h' ih
  go_enter Tryd.func45, Tryd.ntmps45
  go_wp2
  go_loopw [5] (fun i w' => ∃ (k : Nat), k ≤ vs.length ∧ i = .int .i64 k ∧ Below w.heap.size w w') (fun i _ => vs.length - (intOf i).toNat)
  case atStart => exact ⟨0, by omega, rfl, Below.refl _ _⟩
  case round =>
    obtain ⟨k, hk, rfl, hb⟩ := hrel
    have hz := hb.size
    by_cases hlt : k < vs.length
    · obtain ⟨ad, v, c0, c1, c2, c3, c4, rfl, hbl, hv, hm, hd, x0, x1, x2, x3, x4⟩ := row5_at (H.out.upto (hb.mono hB) (Nat.le_refl _)) rfl hlt
      obtain ⟨ad', v', c0', c1', c2', c3', c4', rfl, hbl', hv', hm', hd', x0', x1', x2', x3', x4'⟩ := row5_at (H'.out.upto (hb.mono hB) (Nat.le_refl _)) rfl hlt
      obtain rfl : v = v' := by
        have := hd.out.symm.trans hd'.out
        injection this
      have hb0 : (0 : Int) ≤ (k : Int) := by omega
      have hb1 : (k : Int) < (vs.length : Int) := by omega
      go_wp2_with fail
      go_still_tail 8, (by kernel_rfl)
      change wpList _ _ _ _ _ wr.drew
      have hD : Below wr.heap.size wr wr.drew := (Below.refl _ _).drew
      have hBr : B ≤ wr.heap.size := by omega
      go_wp2_with fail
      refine (IH.out v hm _ _ wr.drew B hBr (hv.below (hD.mono hBr)) (hv'.below (hD.mono hBr))).mono ?_
      rintro e w1 ⟨rfl, hb1⟩
      go_wp2
      go_roundw
      case rel => exact ⟨k + 1, by omega, by go_num, hb.trans ((hD.trans hb1).mono hz)⟩
      case measure => simp [intOf]; omega
    · go_wp2
      go_ret
      exact ⟨rfl, hb⟩

set_option maxHeartbeats 1000000 in
theorem eqVal_of (v : Val) (ih : ∀ kind n s keys list, v = .mk kind n s keys list → EqVals list) : EqVal v := by
  intro us us' w B hB h h'
  obtain ⟨kind, n, s, keys, list, A1, c1, A2, c2, rfl, rfl, hs, hk, hl⟩ := valDs_open h
  obtain ⟨_, _, _, _, _, A1', c1', A2', c2', e, rfl, _, hk', hl'⟩ := valDs_open h'
  injection e with e1 e2 e3 e4 e5
  subst e1 e2 e3 e4 e5
  have IH := Lib.hid (ih _ _ _ _ _ rfl)
  clear ih h h'
  have hn1 := hk.len
  have hn2 := hl.len
  go_enter Tryd.func27, Tryd.ntmps27
  go_wp2_with fail
  refine (eqStringS_calls keys A1 A1' c1 c1' _ B (by simp; omega) (hk.below ((below_box2 _ _ _).mono hB)) (hk'.below ((below_box2 _ _ _).mono hB))).mono ?_
  rintro e w1 ⟨rfl, hb1⟩
  obtain ⟨hb, hz, hc, hf⟩ := bbox2 hb1
  clear hb1
  go_wp2_with fail
  refine (IH.out A2 A2' c2 c2' _ B (by omega) (hl.below (hb.mono hB)) (hl'.below (hb.mono hB))).mono ?_
  rintro e w2 ⟨rfl, hb2⟩
  go_wp2
  go_ret
  exact ⟨rfl, hb.trans (hb2.mono (by omega))⟩

theorem eqVal_calls : ∀ v, EqVal v := Val.ind fun kind n s keys list ih => eqVal_of _ fun _ _ _ _ _ e => by
  injection e with e1 e2 e3 e4 e5
  subst e5
  exact eqVals_of _ ih
theorem eqVals_calls (vs : List Val) : EqVals vs := eqVals_of vs fun v _ => eqVal_calls v
end Go.Proofs.YtppfgepoegicgaaDoor
