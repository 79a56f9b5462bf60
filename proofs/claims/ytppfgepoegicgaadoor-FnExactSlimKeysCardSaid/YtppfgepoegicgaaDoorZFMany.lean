/- Parts of the proof: FMany. -/
import Derived.Test.YtppfgepoegicgaaDoorZFOkDef
namespace Go.Proofs.YtppfgepoegicgaaDoor
open Go Go.RowKit

def SFMany (x : Filt) : Prop := ∀ (us : List Value) (w : World) (B d : Nat) (di : Int), di = d → d ≤ 7 → B ≤ w.heap.size → RDv w B (filtDs x) us → FForm d x → filtCnt x ≤ 1099511627776 →
  Calls Tryd.prog 41 #[.agg us.toArray, .int .i64 di] w fun e w' => e = .returned (.int .i64 (filtCnt x)) ∧ Below w.heap.size w w'

set_option maxRecDepth 100000 in
set_option maxHeartbeats 4000000 in
theorem sFMany_of (x : Filt) (ih : ∀ kind n s v kids, x = .mk kind n s v kids → ∀ y ∈ kids, SFMany y) : SFMany x := by
  intro us w B d di hdi hd hB h hF hC
  subst hdi
  obtain ⟨kind, n, s, v, kids, a3, a4, a5, A6, n6, q6, A7, n7, q7, A8, q8, rfl, rfl, hs, hv, hk⟩ := filtDs_all h
  have IH := Lib.hid (ih _ _ _ _ _ rfl)
  have HL := Lib.hid hk
  have hn2 := hk.len
  have hd0 := fform_pos hF
  have HF := Lib.hid ((fform_iff hd0).1 hF).2.1
  have t0 : (0 : Int) < (d : Int) := by omega
  have t0' : 0 < d := by omega
  have HC := Lib.hid (show 1 + filtsCnt kids ≤ 1099511627776 by simpa only [filtCnt] using hC)
  clear h hk hv ih hF hC hd0
  go_enter Tryd.func41, Tryd.ntmps41
  go_wp2
  go_loopw [5, 6] (fun m i w' => ∃ (k j : Nat), k ≤ kids.length ∧ i = .int .i64 k ∧ m = .int .i64 j ∧ j ≤ 1099511627776 ∧ Hid (j + filtsCnt (kids.drop k) = 1 + filtsCnt kids) ∧ Below (w.heap.size + 1) (w.alloc (.cells #[.int .i64 kind, .int .i64 n, .string s, .int .i64 a3, .int .i64 a4, .string a5, .slice A6 n6 q6, .slice A7 n7 q7, .slice A8 kids.length q8] 36)) w') (fun _ i _ => kids.length - (intOf i).toNat)
  case atStart => exact ⟨0, 1, by omega, rfl, rfl, by omega, rfl, Below.refl _ _⟩
  case round =>
    obtain ⟨k, j, hk, rfl, rfl, hj, HI, hb0⟩ := hrel
    obtain ⟨hb, hz, bP⟩ := boxes1 (P := [_, _, _, _, _, _, _, _, _]) hb0
    obtain ⟨cP, fP⟩ := blk_rules bP
    by_cases hlt : k < kids.length
    · obtain ⟨ad, y, x0, x1, x2, x3, x4, x5, x6, x7, x8, rfl, hbl, hv, hm, hd1, z0, z1, z2, z3, z4, z5, z6, z7, z8⟩ := row9_at (HL.out.upto (hb.mono hB) (Nat.le_refl _)) rfl hlt
      have hj2 : j + filtCnt y ≤ 1099511627776 := by
        have h1 := HI.out
        rw [hd1.out] at h1
        simp only [filtsCnt] at h1
        have := HC.out
        omega
      have HI2 := Lib.hid (show j + filtCnt y + filtsCnt (kids.drop (k + 1)) = 1 + filtsCnt kids by
        have h1 := HI.out
        rw [hd1.out] at h1
        simp only [filtsCnt] at h1
        omega)
      clear bP
      go_wp2_with fail
      refine (IH.out y hm _ wr B (d - 1) _ (by omega) (by omega) (by omega) hv (HF.out y hm) (by omega)).mono ?_
      rintro e w1 ⟨rfl, hb1⟩
      have hb2 := hb0.trans (hb1.mono hz)
      clear cP fP z0 z1 z2 z3 z4 z5 z6 z7 z8
      obtain ⟨m, em⟩ : ∃ m, m = filtCnt y := ⟨_, rfl⟩
      rw [← em] at hj2 HI2
      rw [← em]
      have EM := Lib.hid em
      clear em
      go_wp2
      go_roundw
      case rel => exact ⟨k + 1, j + m, by omega, by go_num, by go_num, by omega, HI2, hb2⟩
      case measure => simp [intOf]; omega
    · have HE := Lib.hid (show j = 1 + filtsCnt kids by
        have h1 := HI.out
        rw [show k = kids.length by omega, List.drop_length] at h1
        simpa only [filtsCnt, Nat.add_zero] using h1)
      go_wp2
      go_ret
      exact ⟨by rw [filtCnt, ← HE.out]; rfl, hb⟩
theorem sFMany_calls : ∀ v, SFMany v := Filt.ind fun kind n s v kids ih => sFMany_of _ fun _ _ _ _ _ e => by
  injection e with e1 e2 e3 e4 e5
  subst e5
  exact ih
end Go.Proofs.YtppfgepoegicgaaDoor
