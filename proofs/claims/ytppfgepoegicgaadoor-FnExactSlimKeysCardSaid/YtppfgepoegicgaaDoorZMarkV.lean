/- The law's mark of a row of trees. -/
import Derived.Test.YtppfgepoegicgaaDoorZMarkS
import Derived.Test.YtppfgepoegicgaaDoorGa
namespace Go.Proofs.YtppfgepoegicgaaDoor
open Go Go.RowKit

def MarkVals (vs : List Val) : Prop := ∀ (A : Option Addr) (c : Nat) (k : Int) (fp : List Nat) (w : World), 0 ≤ k → k + vsCnt vs ≤ 4611686018427387904 → OD w (.row 5 vs.length (valsDs vs)) (.slice A vs.length c) fp → fp.Nodup →
    Calls Tryd.prog 51 #[.slice A vs.length c, .int .i64 k] w (PMark (k + vsCnt vs) (.row 5 vs.length (valsDs (mVals vs k))) (.slice A vs.length c) fp w)

set_option maxRecDepth 100000 in
set_option maxHeartbeats 2000000 in
theorem markVals_of (vs : List Val) (ih : ∀ kind n s keys list, (.mk kind n s keys list) ∈ vs → MarkVals list) : MarkVals vs := by
  intro A c k fp w hk0 hk h hnd
  have hn := h.rd'.len
  have H := Lib.hid h
  have HN := Lib.hid hnd
  have IH := Lib.hid ih
  have HK := Lib.hid hk
  clear h hnd ih hk
  go_enter Tryd.func51, Tryd.ntmps51
  go_wp2
  go_loopw [1, 5] (fun q i w' => ∃ (j : Nat) (ks : List Val) (r : Int), j ≤ vs.length ∧ i = .int .i64 j ∧ q = .int .i64 r ∧ 0 ≤ r ∧ Hid (r = k + vsCnt ks) ∧ Hid (ks.length = j) ∧ Hid (vs = ks ++ vs.drop j) ∧ Hid (OD w' (.row 5 vs.length (valsDs (mVals ks k) ++ valsDs (vs.drop j))) (.slice A vs.length c) fp) ∧ Upd fp w w') (fun _ i _ => vs.length - (intOf i).toNat)
  case atStart => exact ⟨0, [], k, by omega, rfl, rfl, hk0, (by simp [vsCnt] : k = k + vsCnt []), (rfl : ([] : List Val).length = 0), (rfl : vs = [] ++ vs.drop 0), H.out, Upd.refl _ _⟩
  case round =>
    obtain ⟨j, ks, r, hj, rfl, rfl, hr0, HR, HL, HS, HO, HU⟩ := hrel
    by_cases hlt : j < vs.length
    · have hdr := List.drop_eq_getElem_cons hlt
      obtain ⟨v, ev⟩ : ∃ v, v = vs[j] := ⟨_, rfl⟩
      rw [← ev] at hdr
      have hmem : v ∈ vs := by rw [ev]; exact List.getElem_mem _
      have HD := Lib.hid hdr
      have ho := HO.out
      rw [hdr, show valsDs (v :: vs.drop (j + 1)) = valDs v ++ valsDs (vs.drop (j + 1)) from rfl] at ho
      have hl5 : ∀ l : List Val, (valsDs l).length = l.length * 5 := fun l => by
        induction l with
        | nil => rfl
        | cons x l ih => simp [valsDs, valDs_length, ih]; omega
      obtain ⟨g, t, us0, ue, us2, fe, rfl, hl0, hle, hM, hcl⟩ := ho.write HN.out (i := j) (by rw [hl5, mVals_length, HL.out]) (valDs_length v) (by omega)
      have hsum : r + vCnt v ≤ 4611686018427387904 := by
        have h1 := HK.out
        have h2 := congrArg vsCnt HS.out
        rw [hdr, vsCnt_append, vsCnt] at h2
        have := HR.out
        omega
      obtain ⟨kind, n, s, keys, list, A1, c1, A2, c2, rfl, rfl, hs, hk1, hk2⟩ := valDs_open hM.own.rd'
      have IH2 := Lib.hid (IH.out _ _ _ _ _ hmem)
      have hcnt : (vCnt (.mk kind n s keys list) : Int) = 3 + keys.length + vsCnt list := by simp [vCnt]
      have b1 : r + 3 + keys.length + vsCnt list ≤ 4611686018427387904 := by omega
      have HL0 := Lib.hid hl0
      have HCL := Lib.hid hcl
      have x0 := hM.cell hl0 0 rfl
      have x1 := hM.cell hl0 1 rfl
      have x2 := hM.cell hl0 2 rfl
      have x3 := hM.cell hl0 3 rfl
      have x4 := hM.cell hl0 4 rfl
      have y0 := hM.frozen (j * 5)
      have y1 := hM.frozen (j * 5 + 1)
      have y2 := hM.frozen (j * 5 + 2)
      rw [Nat.add_zero] at x0
      have HM := Lib.hid hM
      have hcn := Lib.hid hcnt
      clear hdr ev ho hl0 hcl hM HO hle hk1 hk2 hs hcnt hsum hl5 hmem
      go_wp2_with fail
      refine (markText_calls _ _ (by omega)).mono ?_
      rintro e w1 ⟨rfl, hb1⟩
      have hM1 := (((HM.out.int HL0.out 0 rfl trivial _).int HL0.out 1 rfl trivial _).below hb1)
      have x2 := hM1.cell HL0.out 2 rfl
      have x3 := hM1.cell HL0.out 3 rfl
      have x4 := hM1.cell HL0.out 4 rfl
      have y2 := hM1.frozen (j * 5 + 2)
      have hM2 := hM1.str HL0.out 2 rfl trivial _ (markT_size (k := r + 1 + 1) (by omega))
      obtain ⟨f3, o3, nd3, cl3⟩ := hM2.row 3 rfl rfl
      have O3 := Lib.hid o3
      have N3 := Lib.hid nd3
      have C3 := Lib.hid cl3
      clear hM1 hM2 o3 nd3 cl3 hb1 y0 y1
      go_wp2_with fail
      refine (markStringS_calls _ _ _ _ _ _ (by omega) (by omega) O3.out N3.out).mono ?_
      rintro e w2 ⟨rfl, o4, u4⟩
      have hM3 := C3.out _ _ o4 u4
      have x4 := hM3.cell HL0.out 4 rfl
      obtain ⟨f4, p4, nd4, cl4⟩ := hM3.row 4 rfl rfl
      have O4 := Lib.hid p4
      have N4 := Lib.hid nd4
      have C4 := Lib.hid cl4
      clear hM3 p4 nd4 cl4 o4 u4 x2 x3 y2
      go_wp2_with fail
      refine (IH2.out _ _ _ _ _ (by omega) (by omega) O4.out N4.out).mono ?_
      rintro e w3 ⟨rfl, o5, u5⟩
      have HC := Lib.hid (HCL.out _ _ _ rfl (C4.out _ _ o5 u5))
      clear o5 u5 x4
      have HR2 := Lib.hid (show r + 1 + 1 + 1 + keys.length + vsCnt list = k + vsCnt (ks ++ [.mk kind n s keys list]) by
        have h1 := HR.out
        have h2 := hcn.out
        simp only [vsCnt_append, vsCnt]
        omega)
      have HL2 := Lib.hid (show (ks ++ [Val.mk kind n s keys list]).length = j + 1 by rw [List.length_append, HL.out]; rfl)
      have HS2 := Lib.hid (show vs = (ks ++ [.mk kind n s keys list]) ++ vs.drop (j + 1) by rw [List.append_assoc, List.singleton_append, ← HD.out]; exact HS.out)
      have HO2 := Lib.hid (show OD w3 (.row 5 vs.length (valsDs (mVals (ks ++ [.mk kind n s keys list]) k) ++ valsDs (vs.drop (j + 1)))) (.slice (some ⟨g, 0, none⟩) vs.length c) fp by
        rw [mVals_append, valsDs_append, List.append_assoc, ← HR.out]
        have h1 := HC.out.1
        simp only [List.set_cons_zero, List.set_cons_succ, valDs, mVals, mVal, valsDs, List.append_nil, mStrs_length, mVals_length] at h1 ⊢
        exact h1)
      have HU2 := HU.trans HC.out.2
      clear HC HR HL HS HU
      go_wp2
      go_roundw
      case rel => exact ⟨j + 1, _, _, by omega, by go_num, rfl, by omega, HR2, HL2, HS2, HO2, HU2⟩
      case measure => simp [intOf]; omega
    · obtain rfl : j = vs.length := by omega
      have HO2 := Lib.hid (show OD wr (.row 5 vs.length (valsDs (mVals vs k))) (.slice A vs.length c) fp by
        have h1 := HO.out
        have h2 := HS.out
        rw [List.drop_length, List.append_nil] at h2
        rw [List.drop_length, ← h2] at h1
        simpa [valsDs] using h1)
      have HR2 := Lib.hid (show r = k + vsCnt vs by
        have h2 := HS.out
        rw [List.drop_length, List.append_nil] at h2
        rw [h2]
        exact HR.out)
      clear HO HS HL HR
      go_wp2
      go_ret
      exact ⟨by rw [← HR2.out]; rfl, HO2.out, HU⟩
theorem markVals_all (v : Val) : ∀ kind n s keys list, v = .mk kind n s keys list → MarkVals list := by
  induction v using Val.ind with
  | h kind n s keys list ih =>
    intro _ _ _ _ _ e
    injection e with e1 e2 e3 e4 e5
    subst e5
    exact markVals_of _ fun kind n s keys l hm => ih _ hm _ _ _ _ _ rfl
theorem markVals_calls (vs : List Val) : MarkVals vs := markVals_of vs fun kind n s keys l _ => markVals_all (.mk kind n s keys l) _ _ _ _ _ rfl
end Go.Proofs.YtppfgepoegicgaaDoor
