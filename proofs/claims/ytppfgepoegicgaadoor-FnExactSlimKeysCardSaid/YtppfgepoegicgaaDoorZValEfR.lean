/- Parts of the proof: ValEfR. -/
import Derived.Test.YtppfgepoegicgaaDoorZSpecSameV
import Derived.Test.YtppfgepoegicgaaDoorGa
namespace Go.Proofs.YtppfgepoegicgaaDoor
open Go Go.RowKit

def ISameVal (v v' : Val) : Prop := ∀ (us us' : List Value) (w : World) (B : Nat), B ≤ w.heap.size → RDv w B (valDs v) us → RDv w B (valDs v') us' →
  Calls Tryd.prog 77 #[.agg us.toArray, .agg us'.toArray] w (PBool (v = v') w)

set_option maxRecDepth 100000 in
set_option maxHeartbeats 2000000 in
theorem equalFuncVal_of (vs vs' : List Val) (ih : ∀ x ∈ vs, ∀ y, ISameVal x y) (A A' : Option Addr) (c c' : Nat) (w : World) (B : Nat) (hB : B ≤ w.heap.size) (h : RD w B (.row 5 vs.length (valsDs vs)) (.slice A vs.length c)) (h' : RD w B (.row 5 vs'.length (valsDs vs')) (.slice A' vs'.length c')) :
    Calls Tryd.prog 87 #[.slice A vs.length c, .slice A' vs'.length c', .func (.func 77) #[] #[]] w (PBool (vs = vs') w) := by
  have hn1 := h.len
  have hn2 := h'.len
  by_cases t5 : vs.length = vs'.length
  case neg =>
    have d5 : ((vs.length : Int) != (vs'.length : Int)) = true := by simp; omega
    go_enter Tryd.func87, Tryd.ntmps87
    go_wp2
    go_ret
    exact PBool.no (fun e => absurd (by rw [e]) t5) (Below.refl _ _)
  have d5 : ((vs.length : Int) != (vs'.length : Int)) = false := by simp; omega
  have HL := Lib.hid h
  have HL' := Lib.hid h'
  have T5 := Lib.hid t5
  have IH := Lib.hid ih
  clear h h' t5 ih
  go_enter Tryd.func87, Tryd.ntmps87
  go_wp2
  clear d5
  go_loopw [17] (fun i w' => ∃ (k : Nat), k ≤ vs.length ∧ i = .int .i64 k ∧ Hid (vs.take k = vs'.take k) ∧ Below w.heap.size w w') (fun i _ => vs.length - (intOf i).toNat)
  case atStart => exact ⟨0, by omega, rfl, rfl, Below.refl _ _⟩
  case round =>
    obtain ⟨k, hk, rfl, HT, hb⟩ := hrel
    have hz := hb.size
    by_cases hlt : k < vs.length
    · have hlt' : k < vs'.length := by have := T5.out; omega
      obtain ⟨ad, v, c0, c1, c2, c3, c4, rfl, hbl, hv, hm, hd, x0, x1, x2, x3, x4⟩ := row5_at (HL.out.upto (hb.mono hB) (Nat.le_refl _)) rfl hlt
      obtain ⟨ad', v', c0', c1', c2', c3', c4', rfl, hbl', hv', hm', hd', x0', x1', x2', x3', x4'⟩ := row5_at (HL'.out.upto (hb.mono hB) (Nat.le_refl _)) rfl hlt'
      have HT2 := Lib.hid (take_eq_succ HT.out hd.out hd'.out)
      have HV := Lib.hid hv
      have HV' := Lib.hid hv'
      have j0 : (0 : Int) ≤ (k : Int) := by omega
      have j1 : (k : Int) < (vs.length : Int) := by omega
      have j2 : (k : Int) < (vs'.length : Int) := by omega
      have hBr : B ≤ wr.heap.size := by omega
      obtain ⟨a0, a1, a2, A3, n3, q3, A4, n4, q4, es⟩ := valDs_shape hv
      obtain ⟨a0', a1', a2', A3', n3', q3', A4', n4', q4', es'⟩ := valDs_shape hv'
      simp only [List.cons.injEq, and_true] at es es'
      obtain ⟨rfl, rfl, rfl, rfl, rfl⟩ := es
      obtain ⟨rfl, rfl, rfl, rfl, rfl⟩ := es'
      have hbl2 : (ad'.add (k * 5)).block < wr.heap.size := by rw [block_of_add]; omega
      have z0 := fun o => (World.cell?_alloc_lt wr o (ad'.add (k * 5)) hbl2).trans x0'
      have z1 := fun o => (World.cell?_alloc_lt wr o ⟨(ad'.add (k * 5)).block, (ad'.add (k * 5)).off + 1, none⟩ hbl2).trans x1'
      have z2 := fun o => (World.cell?_alloc_lt wr o ⟨(ad'.add (k * 5)).block, (ad'.add (k * 5)).off + 2, none⟩ hbl2).trans x2'
      have z3 := fun o => (World.cell?_alloc_lt wr o ⟨(ad'.add (k * 5)).block, (ad'.add (k * 5)).off + 3, none⟩ hbl2).trans x3'
      have z4 := fun o => (World.cell?_alloc_lt wr o ⟨(ad'.add (k * 5)).block, (ad'.add (k * 5)).off + 4, none⟩ hbl2).trans x4'
      clear hv hv'
      go_wp2_with fail
      have hW := fun o1 o2 => below_box2 wr o1 o2
      refine (IH.out v hm v' [_, _, _, _, _] [_, _, _, _, _] _ B (Nat.le_trans hBr (hW _ _).size) (HV.out.below ((hW _ _).mono hBr)) (HV'.out.below ((hW _ _).mono hBr))).mono ?_
      rintro e w1 ⟨r, rfl, hr, hb1⟩
      have HR := Lib.hid hr
      have hb2 := hb.trans (((hW _ _).trans (hb1.mono (hW _ _).size)).mono hz)
      clear hr hW hb1
      cases r with
      | true =>
        have HT3 := Lib.hid (HT2.out.2 (HR.out.1 rfl))
        clear HT2
        go_wp2
        go_roundw
        case rel => exact ⟨k + 1, by omega, by go_num, HT3, hb2⟩
        case measure => simp [intOf]; omega
      | false =>
        have HT3 := Lib.hid (show vs ≠ vs' from ne_of_take (k := k + 1) fun e => absurd (HR.out.2 (HT2.out.1 e)) (by simp))
        clear HT2
        go_wp2
        go_ret
        exact PBool.no (fun e => absurd e HT3.out) hb2
    · have e : k = vs.length := by omega
      have h2 := HT.out
      rw [e, List.take_length, T5.out, List.take_length] at h2
      have H2 := Lib.hid h2
      clear HT h2 e T5
      go_wp2
      go_ret
      exact PBool.yes H2.out hb
end Go.Proofs.YtppfgepoegicgaaDoor
