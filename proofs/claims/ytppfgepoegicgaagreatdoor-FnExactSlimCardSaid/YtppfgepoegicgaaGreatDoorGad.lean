/- Words for the laws' walks: what one owns, and the law's own variables, behind a call that only makes, or that writes listed blocks. -/
import Derived.Test.YtppfgepoegicgaaGreatDoorZFOkDef
import Derived.Test.YtppfgepoegicgaaGreatDoorZFForm
import Derived.Test.YtppfgepoegicgaaGreatDoorGx
import Derived.Test.YtppfgepoegicgaaGreatDoorGf
namespace Go.Proofs.YtppfgepoegicgaaGreatDoor
open Go Go.RowKit

def SFMany (x : Filt) : Prop := ∀ (us : List Value) (w : World) (B d : Nat) (di : Int), di = d → d ≤ 7 → B ≤ w.heap.size → RDv w B (filtDs x) us → FForm d x → filtCnt x ≤ 1099511627776 →
  Calls Tryz.prog 30 #[.agg us.toArray, .int .i64 di] w fun e w' => e = .returned (.int .i64 (filtCnt x)) ∧ Below w.heap.size w w'

set_option maxRecDepth 100000 in
set_option maxHeartbeats 4000000 in
theorem sFMany_of (x : Filt) (ih : ∀ kind n s v kids, x = .mk kind n s v kids → ∀ y ∈ kids, SFMany y) : SFMany x := by
  intro us w B d di hdi hd hB h hF hC
  subst hdi
  obtain ⟨kind, n, s, v, kids, a3, a4, a5, A6, n6, q6, A7, n7, q7, A8, q8, rfl, rfl, hs, hv, hk⟩ := filtDs_all h
  have IH := Lib.hid (ih _ _ _ _ _ rfl)
  have HL := Lib.hid hk
  have hn2 := hk.len
  have hd0 := fform_pos hF
  have HF := Lib.hid ((fform_iff hd0).1 hF).2.1
  have t0 : (0 : Int) < (d : Int) := by omega
  have t0' : 0 < d := by omega
  have HC := Lib.hid (show 1 + filtsCnt kids ≤ 1099511627776 by simpa only [filtCnt] using hC)
  clear h hk hv ih hF hC hd0
  go_enter Tryz.func30, Tryz.ntmps30
  go_wp2
  go_loopw [5, 6] (fun m i w' => ∃ (k j : Nat), k ≤ kids.length ∧ i = .int .i64 k ∧ m = .int .i64 j ∧ j ≤ 1099511627776 ∧ Hid (j + filtsCnt (kids.drop k) = 1 + filtsCnt kids) ∧ Below (w.heap.size + 1) (w.alloc (.cells #[.int .i64 kind, .int .i64 n, .string s, .int .i64 a3, .int .i64 a4, .string a5, .slice A6 n6 q6, .slice A7 n7 q7, .slice A8 kids.length q8] 35)) w') (fun _ i _ => kids.length - (intOf i).toNat)
  case atStart => exact ⟨0, 1, by omega, rfl, rfl, by omega, rfl, Below.refl _ _⟩
  case round =>
    obtain ⟨k, j, hk, rfl, rfl, hj, HI, hb0⟩ := hrel
    obtain ⟨hb, hz, bP⟩ := boxes1 (P := [_, _, _, _, _, _, _, _, _]) hb0
    obtain ⟨cP, fP⟩ := blk_rules bP
    by_cases hlt : k < kids.length
    · obtain ⟨ad, y, x0, x1, x2, x3, x4, x5, x6, x7, x8, rfl, hbl, hv, hm, hd1, z0, z1, z2, z3, z4, z5, z6, z7, z8⟩ := row9_at (HL.out.upto (hb.mono hB) (Nat.le_refl _)) rfl hlt
      have hj2 : j + filtCnt y ≤ 1099511627776 := by
        have h1 := HI.out
        rw [hd1.out] at h1
        simp only [filtsCnt] at h1
        have := HC.out
        omega
      have HI2 := Lib.hid (show j + filtCnt y + filtsCnt (kids.drop (k + 1)) = 1 + filtsCnt kids by
        have h1 := HI.out
        rw [hd1.out] at h1
        simp only [filtsCnt] at h1
        omega)
      clear bP
      go_wp2_with fail
      refine (IH.out y hm _ wr B (d - 1) _ (by omega) (by omega) (by omega) hv (HF.out y hm) (by omega)).mono ?_
      rintro e w1 ⟨rfl, hb1⟩
      have hb2 := hb0.trans (hb1.mono hz)
      clear cP fP z0 z1 z2 z3 z4 z5 z6 z7 z8
      obtain ⟨m, em⟩ : ∃ m, m = filtCnt y := ⟨_, rfl⟩
      rw [← em] at hj2 HI2
      rw [← em]
      have EM := Lib.hid em
      clear em
      go_wp2
      go_roundw
      case rel => exact ⟨k + 1, j + m, by omega, by go_num, by go_num, by omega, HI2, hb2⟩
      case measure => simp [intOf]; omega
    · have HE := Lib.hid (show j = 1 + filtsCnt kids by
        have h1 := HI.out
        rw [show k = kids.length by omega, List.drop_length] at h1
        simpa only [filtsCnt, Nat.add_zero] using h1)
      go_wp2
      go_ret
      exact ⟨by rw [filtCnt, ← HE.out]; rfl, hb⟩
theorem sFMany_calls : ∀ v, SFMany v := Filt.ind fun kind n s v kids ih => sFMany_of _ fun _ _ _ _ _ e => by
  injection e with e1 e2 e3 e4 e5
  subst e5
  exact ih
end Go.Proofs.YtppfgepoegicgaaGreatDoor
namespace Go.Proofs.YtppfgepoegicgaaGreatDoor
open Go Go.RowKit

set_option maxHeartbeats 2000000 in
theorem sFiltOk_calls (x : Filt) (us : List Value) (w : World) (B : Nat) (hB : B ≤ w.heap.size) (h : RDv w B (filtDs x) us) (hV : VSm x) (hC : filtCnt x ≤ 1099511627776) :
    Calls Tryz.prog 13 #[.agg us.toArray] w (PBool (FOk x) w) := by
  obtain ⟨a0, a1, a2, a3, a4, a5, A6, n6, q6, A7, n7, q7, A8, n8, q8, rfl⟩ := filtDs_shape h
  have H := Lib.hid h
  clear h
  have hbx := fun o1 => below_box w o1
  go_enter Tryz.func13, Tryz.ntmps13
  go_wp2_with fail
  refine (sFForm_calls x [_, _, _, _, _, _, _, _, _] _ B 7 7 (by omega) (by omega) (Nat.le_trans hB (hbx _).size) (H.out.below ((hbx _).mono hB)) hV).mono ?_
  rintro e w1 ⟨r, rfl, hr, hb1⟩
  have HR := Lib.hid hr
  obtain ⟨hb, hz, bP⟩ := boxes1 (P := [_, _, _, _, _, _, _, _, _]) (boxes1_of hb1)
  obtain ⟨cP, fP⟩ := blk_rules bP
  clear hr hb1 bP
  cases r with
  | false =>
    have HN := Lib.hid (show ¬ FOk x from fun h => absurd (HR.out.2 h.1) (by simp))
    go_wp2
    go_ret
    exact PBool.no HN.out hb
  | true =>
    have HT := Lib.hid (HR.out.1 rfl)
    go_wp2_with fail
    refine (sFMany_calls x [_, _, _, _, _, _, _, _, _] _ B 7 7 (by omega) (by omega) (by omega) (H.out.below (hb.mono hB)) HT.out hC).mono ?_
    rintro e w2 ⟨rfl, hb2⟩
    obtain ⟨m, em⟩ : ∃ m, m = filtCnt x := ⟨_, rfl⟩
    rw [← em] at hC ⊢
    have EM := Lib.hid em
    clear em
    go_wp2
    go_ret
    refine ⟨_, rfl, ⟨fun h => ⟨HT.out, ?_⟩, fun h => ?_⟩, hb.trans (hb2.mono (by omega))⟩
    · rw [← EM.out]; have : (m : Int) ≤ 16 := by simpa using h
      omega
    · have := h.2; rw [← EM.out] at this; simp; omega
end Go.Proofs.YtppfgepoegicgaaGreatDoor
namespace Go.Proofs.YtppfgepoegicgaaGreatDoor
open Go Go.RowKit
theorem ODv.below {w w' : World} {ds : List Dat} {us : List Value} {fp : List Nat} (h : ODv w ds us fp) (hb : Below w.heap.size w w') : ODv w' ds us fp := ODv.keep _ _ _ (fun b hm => hb.block b (ODv.lt _ _ _ h b hm)) h
theorem ODv.upd {w w' : World} {ds : List Dat} {us : List Value} {fp fx : List Nat} (h : ODv w ds us fp) (hu : Upd fx w w') (hd : ∀ b ∈ fp, b ∉ fx) : ODv w' ds us fp := ODv.keep _ _ _ (fun b hm => hu.block b (ODv.lt _ _ _ h b hm) (hd b hm)) h
theorem Has.upd {l : List (Nat × List Value)} {w w' : World} {fx : List Nat} (h : Has l w) (hu : Upd fx w w') (hd : ∀ p ∈ l, p.1 ∉ fx) : Has l w' := fun p hp => by
  have h1 := h p hp
  have hb := hu.block p.1 h1.1 (hd p hp)
  refine ⟨Nat.lt_of_lt_of_le h1.1 hu.size, fun i u hi => ?_⟩
  rw [← h1.2 i u hi]
  exact World.cell?_of_block (w := w) (a := ⟨p.1, i, none⟩) hb
theorem OD.below {w w' : World} {d : Dat} {c : Value} {fp : List Nat} (h : OD w d c fp) (hb : Below w.heap.size w w') : OD w' d c fp := OD.keep _ _ _ (fun b hm => hb.block b (OD.lt _ _ _ h b hm)) h
theorem OD.upd {w w' : World} {d : Dat} {c : Value} {fp fx : List Nat} (h : OD w d c fp) (hu : Upd fx w w') (hd : ∀ b ∈ fp, b ∉ fx) : OD w' d c fp := OD.keep _ _ _ (fun b hm => hu.block b (OD.lt _ _ _ h b hm) (hd b hm)) h
end Go.Proofs.YtppfgepoegicgaaGreatDoor
