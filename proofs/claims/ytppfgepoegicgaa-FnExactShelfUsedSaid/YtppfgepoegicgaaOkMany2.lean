import Derived.Test.YtppfgepoegicgaaOkMany
namespace Go.Proofs.Ytppfgepoegicgaa
open Go Go.RowKit

set_option maxHeartbeats 2000000 in
theorem sValMany_ok (v : Val) (us : List Value) (w : World) (B : Nat) (hB : B ≤ w.heap.size) (h : RDv w B (valDs v) us) (hok : ValOk v) :
    Calls Try.prog 86 #[.agg us.toArray] w fun e w' => e = .returned (.int .i64 (valCnt v)) ∧ Below w.heap.size w w' := by
  obtain ⟨a0, a1, a2, A3, n3, q3, A4, n4, q4, rfl⟩ := valDs_shape h
  have H := Lib.hid h
  have hC : valCnt v ≤ 1099511627776 := by have := hok.2; omega
  clear h
  have hbx := fun o1 => below_box w o1
  go_enter Try.func86, Try.ntmps86
  go_wp2_with fail
  refine (sValOk_calls v [_, _, _, _, _] _ B (Nat.le_trans hB (hbx _).size) (H.out.below ((hbx _).mono hB)) hC).mono ?_
  rintro e w1 ⟨r, rfl, hr, hb1⟩
  obtain rfl : r = true := hr.2 hok
  obtain ⟨hb, hz, bP⟩ := boxes1 (P := [_, _, _, _, _]) (boxes1_of hb1)
  obtain ⟨cP, fP⟩ := blk_rules bP
  clear hr hb1 bP
  go_wp2_with fail
  refine (sMany_calls v [_, _, _, _, _] _ B 6 6 (by omega) (by omega) (by omega) (H.out.below (hb.mono hB)) hok.1 hC).mono ?_
  rintro e w2 ⟨rfl, hb2⟩
  go_wp2
  go_ret
  exact ⟨rfl, hb.trans (hb2.mono (by omega))⟩

def IMany (v : Val) : Prop := ∀ (us : List Value) (w : World) (B : Nat), B ≤ w.heap.size → RDv w B (valDs v) us → valCnt v ≤ 1099511627776 →
  Calls Try.prog 85 #[.agg us.toArray] w fun e w' => e = .returned (.int .i64 (valCnt v)) ∧ Below w.heap.size w w'

set_option maxRecDepth 100000 in
set_option maxHeartbeats 4000000 in
theorem iMany_of (v : Val) (ih : ∀ kind n s keys list, v = .mk kind n s keys list → ∀ x ∈ list, IMany x) : IMany v := by
  intro us w B hB h hC
  obtain ⟨kind, n, s, keys, list, A1, c1, A2, c2, rfl, rfl, hs, hk, hl⟩ := valDs_open h
  have IH := Lib.hid (ih _ _ _ _ _ rfl)
  have HL := Lib.hid hl
  have hn2 := hl.len
  have HC := Lib.hid (show 1 + valsCnt list ≤ 1099511627776 by simpa only [valCnt] using hC)
  clear h hk hl ih hC
  go_enter Try.func85, Try.ntmps85
  go_wp2
  go_loopw [3, 9] (fun m i w' => ∃ (k j : Nat), k ≤ list.length ∧ i = .int .i64 k ∧ m = .int .i64 j ∧ j ≤ 1099511627776 ∧ Hid (j + valsCnt (list.drop k) = 1 + valsCnt list) ∧ Below (w.heap.size + 1) (w.alloc (.cells #[.int .i64 kind, .int .i64 n, .string s, .slice A1 keys.length c1, .slice A2 list.length c2] 39)) w') (fun _ i _ => list.length - (intOf i).toNat)
  case atStart => exact ⟨0, 1, by omega, rfl, rfl, by omega, rfl, Below.refl _ _⟩
  case round =>
    obtain ⟨k, j, hk, rfl, rfl, hj, HI, hb0⟩ := hrel
    obtain ⟨hb, hz, bP⟩ := boxes1 (P := [_, _, _, _, _]) hb0
    by_cases hlt : k < list.length
    · obtain ⟨ad, v, x0, x1, x2, x3, x4, rfl, hbl, hv, hm, hd1, y0, y1, y2, y3, y4⟩ := row5_at (HL.out.upto (hb.mono hB) (Nat.le_refl _)) rfl hlt
      have hj2 : j + valCnt v ≤ 1099511627776 := by
        have h1 := HI.out
        rw [hd1.out] at h1
        simp only [valsCnt] at h1
        have := HC.out
        omega
      have HI2 := Lib.hid (show j + valCnt v + valsCnt (list.drop (k + 1)) = 1 + valsCnt list by
        have h1 := HI.out
        rw [hd1.out] at h1
        simp only [valsCnt] at h1
        omega)
      obtain ⟨b0, b1, b2, A3, n3, q3, A4, n4, q4, es⟩ := valDs_shape hv
      simp only [List.cons.injEq, and_true] at es
      obtain ⟨rfl, rfl, rfl, rfl, rfl⟩ := es
      have HV := Lib.hid hv
      have hBr : B ≤ wr.heap.size := by omega
      have hW := fun o1 => below_box wr o1
      clear bP hv
      go_wp2_with fail
      refine (IH.out v hm [_, _, _, _, _] _ B (Nat.le_trans hBr (hW _).size) (HV.out.below ((hW _).mono hBr)) (by omega)).mono ?_
      rintro e w1 ⟨rfl, hb1⟩
      have hb2 := hb0.trans (((hW _).trans (hb1.mono (hW _).size)).mono hz)
      clear hW
      obtain ⟨m, em⟩ : ∃ m, m = valCnt v := ⟨_, rfl⟩
      rw [← em] at hj2 HI2
      rw [← em]
      have EM := Lib.hid em
      clear em
      go_wp2
      go_roundw
      case rel => exact ⟨k + 1, j + m, by omega, by go_num, by go_num, by omega, HI2, hb2⟩
      case measure => simp [intOf]; omega
    · have HE := Lib.hid (show j = 1 + valsCnt list by
        have h1 := HI.out
        rw [show k = list.length by omega, List.drop_length] at h1
        simpa only [valsCnt, Nat.add_zero] using h1)
      go_wp2
      go_ret
      exact ⟨by rw [valCnt, ← HE.out]; rfl, hb⟩
theorem iMany_calls : ∀ v, IMany v := Val.ind fun kind n s keys list ih => iMany_of _ fun _ _ _ _ _ e => by
  injection e with e1 e2 e3 e4 e5
  subst e5
  exact ih
end Go.Proofs.Ytppfgepoegicgaa
