import Derived.Test.YtppfgepoegicgaaDoorOkForm3
namespace Go.Proofs.YtppfgepoegicgaaDoor
open Go Go.RowKit

mutual
def valCnt : Val → Nat
  | .mk _ _ _ _ list => 1 + valsCnt list
def valsCnt : List Val → Nat
  | [] => 0
  | v :: r => valCnt v + valsCnt r
end
theorem valsCnt_mem : ∀ {vs : List Val} {v : Val}, v ∈ vs → valCnt v ≤ valsCnt vs
  | [], _, h => by cases h
  | x :: vs, v, h => by
    simp only [valsCnt]
    rcases List.mem_cons.1 h with rfl | h
    · omega
    · have := valsCnt_mem h
      omega
theorem form_pos {d : Nat} {v : Val} (h : Form d v) : d ≠ 0 := by
  rintro rfl
  exact h

def SMany (v : Val) : Prop := ∀ (us : List Value) (w : World) (B d : Nat) (di : Int), di = d → d ≤ 6 → B ≤ w.heap.size → RDv w B (valDs v) us → Form d v → valCnt v ≤ 1099511627776 →
  Calls Tryd.prog 76 #[.agg us.toArray, .int .i64 di] w fun e w' => e = .returned (.int .i64 (valCnt v)) ∧ Below w.heap.size w w'

set_option maxRecDepth 100000 in
set_option maxHeartbeats 4000000 in
theorem sMany_of (v : Val) (ih : ∀ kind n s keys list, v = .mk kind n s keys list → ∀ x ∈ list, SMany x) : SMany v := by
  intro us w B d di hdi hd hB h hF hC
  subst hdi
  obtain ⟨kind, n, s, keys, list, A1, c1, A2, c2, rfl, rfl, hs, hk, hl⟩ := valDs_open h
  have IH := Lib.hid (ih _ _ _ _ _ rfl)
  have HL := Lib.hid hl
  have hn2 := hl.len
  have hd0 := form_pos hF
  have HF := Lib.hid ((form_iff hd0).1 hF).2
  have t0 : (0 : Int) < (d : Int) := by omega
  have t0' : 0 < d := by omega
  have HC := Lib.hid (show 1 + valsCnt list ≤ 1099511627776 by simpa only [valCnt] using hC)
  clear h hk hl ih hF hC hd0
  go_enter Tryd.func76, Tryd.ntmps76
  go_wp2
  go_loopw [5, 6] (fun m i w' => ∃ (k j : Nat), k ≤ list.length ∧ i = .int .i64 k ∧ m = .int .i64 j ∧ j ≤ 1099511627776 ∧ Hid (j + valsCnt (list.drop k) = 1 + valsCnt list) ∧ Below (w.heap.size + 1) (w.alloc (.cells #[.int .i64 kind, .int .i64 n, .string s, .slice A1 keys.length c1, .slice A2 list.length c2] 33)) w') (fun _ i _ => list.length - (intOf i).toNat)
  case atStart => exact ⟨0, 1, by omega, rfl, rfl, by omega, rfl, Below.refl _ _⟩
  case round =>
    obtain ⟨k, j, hk, rfl, rfl, hj, HI, hb0⟩ := hrel
    obtain ⟨hb, hz, bP⟩ := boxes1 (P := [_, _, _, _, _]) hb0
    obtain ⟨cP, fP⟩ := blk_rules bP
    by_cases hlt : k < list.length
    · obtain ⟨ad, v, x0, x1, x2, x3, x4, rfl, hbl, hv, hm, hd1, y0, y1, y2, y3, y4⟩ := row5_at (HL.out.upto (hb.mono hB) (Nat.le_refl _)) rfl hlt
      have hj2 : j + valCnt v ≤ 1099511627776 := by
        have h1 := HI.out
        rw [hd1.out] at h1
        simp only [valsCnt] at h1
        have := HC.out
        omega
      have HI2 := Lib.hid (show j + valCnt v + valsCnt (list.drop (k + 1)) = 1 + valsCnt list by
        have h1 := HI.out
        rw [hd1.out] at h1
        simp only [valsCnt] at h1
        omega)
      go_wp2_with fail
      refine (IH.out v hm _ wr B (d - 1) _ (by omega) (by omega) (by omega) hv (HF.out v hm) (by omega)).mono ?_
      rintro e w1 ⟨rfl, hb1⟩
      have hb2 := hb0.trans (hb1.mono hz)
      clear cP fP bP
      obtain ⟨m, em⟩ : ∃ m, m = valCnt v := ⟨_, rfl⟩
      rw [← em] at hj2 HI2
      rw [← em]
      have EM := Lib.hid em
      clear em
      go_wp2
      go_roundw
      case rel => exact ⟨k + 1, j + m, by omega, by go_num, by go_num, by omega, HI2, hb2⟩
      case measure => simp [intOf]; omega
    · have HE := Lib.hid (show j = 1 + valsCnt list by
        have h1 := HI.out
        rw [show k = list.length by omega, List.drop_length] at h1
        simpa only [valsCnt, Nat.add_zero] using h1)
      go_wp2
      go_ret
      exact ⟨by rw [valCnt, ← HE.out]; rfl, hb⟩
theorem sMany_calls : ∀ v, SMany v := Val.ind fun kind n s keys list ih => sMany_of _ fun _ _ _ _ _ e => by
  injection e with e1 e2 e3 e4 e5
  subst e5
  exact ih

def ValOk (v : Val) : Prop := Form 6 v ∧ valCnt v ≤ 60

set_option maxHeartbeats 2000000 in
theorem sValOk_calls (v : Val) (us : List Value) (w : World) (B : Nat) (hB : B ≤ w.heap.size) (h : RDv w B (valDs v) us) (hC : valCnt v ≤ 1099511627776) :
    Calls Tryd.prog 55 #[.agg us.toArray] w (PBool (ValOk v) w) := by
  obtain ⟨a0, a1, a2, A3, n3, q3, A4, n4, q4, rfl⟩ := valDs_shape h
  have H := Lib.hid h
  clear h
  have hbx := fun o1 => below_box w o1
  go_enter Tryd.func55, Tryd.ntmps55
  go_wp2_with fail
  refine (sForm_calls v [_, _, _, _, _] _ B 6 6 (by omega) (by omega) (Nat.le_trans hB (hbx _).size) (H.out.below ((hbx _).mono hB))).mono ?_
  rintro e w1 ⟨r, rfl, hr, hb1⟩
  have HR := Lib.hid hr
  obtain ⟨hb, hz, bP⟩ := boxes1 (P := [_, _, _, _, _]) (boxes1_of hb1)
  obtain ⟨cP, fP⟩ := blk_rules bP
  clear hr hb1 bP
  cases r with
  | false =>
    have HN := Lib.hid (show ¬ ValOk v from fun h => absurd (HR.out.2 h.1) (by simp))
    go_wp2
    go_ret
    exact PBool.no HN.out hb
  | true =>
    have HT := Lib.hid (HR.out.1 rfl)
    go_wp2_with fail
    refine (sMany_calls v [_, _, _, _, _] _ B 6 6 (by omega) (by omega) (by omega) (H.out.below (hb.mono hB)) HT.out hC).mono ?_
    rintro e w2 ⟨rfl, hb2⟩
    obtain ⟨m, em⟩ : ∃ m, m = valCnt v := ⟨_, rfl⟩
    rw [← em] at hC ⊢
    have EM := Lib.hid em
    clear em
    go_wp2
    go_ret
    refine ⟨_, rfl, ⟨fun h => ⟨HT.out, ?_⟩, fun h => ?_⟩, hb.trans (hb2.mono (by omega))⟩
    · rw [← EM.out]; have : (m : Int) ≤ 60 := by simpa using h
      omega
    · have := h.2; rw [← EM.out] at this; simp; omega

end Go.Proofs.YtppfgepoegicgaaDoor
