/- The law's mark of a row of filters. -/
import Derived.Test.YtppfgepoegicgaaGreatDoorGs
import Derived.Test.YtppfgepoegicgaaGreatDoorGb
namespace Go.Proofs.YtppfgepoegicgaaGreatDoor
open Go Go.RowKit

mutual
def fCnt : Filt → Nat
  | .mk _ _ _ v kids => 3 + vCnt v + fsCnt kids
def fsCnt : List Filt → Nat
  | [] => 0
  | x :: r => fCnt x + fsCnt r
end
mutual
def mFilt : Filt → Int → Filt
  | .mk _ _ _ (.mk kd nn ss keys list) kids, k => .mk k (k + 1) (markT (k + 1 + 1)) (mVal (.mk kd nn ss keys list) (k + 1 + 1 + 1)) (mFilts kids (k + 1 + 1 + 1 + 1 + 1 + 1 + keys.length + vsCnt list))
def mFilts : List Filt → Int → List Filt
  | [], _ => []
  | x :: r, k => mFilt x k :: mFilts r (k + fCnt x)
end
theorem fsCnt_append : ∀ a b : List Filt, fsCnt (a ++ b) = fsCnt a + fsCnt b
  | [], _ => by simp [fsCnt]
  | _ :: a, b => by simp [fsCnt, fsCnt_append a b, Nat.add_assoc]
theorem mFilts_length : ∀ (l : List Filt) (k : Int), (mFilts l k).length = l.length
  | [], _ => by simp [mFilts]
  | _ :: r, k => by simp [mFilts, mFilts_length r]
theorem mFilts_append : ∀ (a b : List Filt) (k : Int), mFilts (a ++ b) k = mFilts a k ++ mFilts b (k + fsCnt a)
  | [], _, _ => by simp [mFilts, fsCnt]
  | v :: a, b, k => by
    simp only [List.cons_append, mFilts, mFilts_append a b, fsCnt]
    congr 3
    omega
def MarkFilts (vs : List Filt) : Prop := ∀ (A : Option Addr) (c : Nat) (k : Int) (fp : List Nat) (w : World), 0 ≤ k → k + fsCnt vs ≤ 4611686018427387904 → OD w (.row 9 vs.length (filtsDs vs)) (.slice A vs.length c) fp → fp.Nodup →
    Calls Tryz.prog 24 #[.slice A vs.length c, .int .i64 k] w (PMark (k + fsCnt vs) (.row 9 vs.length (filtsDs (mFilts vs k))) (.slice A vs.length c) fp w)
set_option maxRecDepth 100000 in
set_option maxHeartbeats 8000000 in
theorem markFilts_of (vs : List Filt) (ih : ∀ kind n s v kids, (.mk kind n s v kids) ∈ vs → MarkFilts kids) : MarkFilts vs := by
  intro A c k fp w hk0 hk h hnd
  have hn := h.rd'.len
  have H := Lib.hid h
  have HN := Lib.hid hnd
  have HK := Lib.hid hk
  have IH := Lib.hid ih
  clear ih
  clear h hnd hk
  go_enter Tryz.func24, Tryz.ntmps24
  go_wp2
  go_loopw [1, 5] (fun q i w' => ∃ (j : Nat) (ks : List Filt) (r : Int), j ≤ vs.length ∧ i = .int .i64 j ∧ q = .int .i64 r ∧ 0 ≤ r ∧ Hid (r = k + fsCnt ks) ∧ Hid (ks.length = j) ∧ Hid (vs = ks ++ vs.drop j) ∧ Hid (OD w' (.row 9 vs.length (filtsDs (mFilts ks k) ++ filtsDs (vs.drop j))) (.slice A vs.length c) fp) ∧ Upd fp w w') (fun _ i _ => vs.length - (intOf i).toNat)
  case atStart => exact ⟨0, [], k, by omega, rfl, rfl, hk0, (by simp [fsCnt] : k = k + fsCnt []), (rfl : ([] : List Filt).length = 0), (rfl : vs = [] ++ vs.drop 0), (by have h := H.out; simpa [mFilts, filtsDs] using h : OD _ (.row 9 vs.length (filtsDs (mFilts [] k) ++ filtsDs (vs.drop 0))) _ fp), Upd.refl _ _⟩
  case round =>
    obtain ⟨j, ks, r, hj, rfl, rfl, hr0, HR, HL, HS, HO, HU⟩ := hrel
    by_cases hlt : j < vs.length
    · have hdr := List.drop_eq_getElem_cons hlt
      obtain ⟨v, ev⟩ : ∃ v, v = vs[j] := ⟨_, rfl⟩
      rw [← ev] at hdr
      have hmem : v ∈ vs := by rw [ev]; exact List.getElem_mem _
      have HD := Lib.hid hdr
      have ho := HO.out
      rw [hdr, show filtsDs (v :: vs.drop (j + 1)) = filtDs v ++ filtsDs (vs.drop (j + 1)) from rfl] at ho
      have hl5 : ∀ l : List Filt, (filtsDs l).length = l.length * 9 := fun l => by
        induction l with
        | nil => rfl
        | cons x l ih => simp [filtsDs, filtDs_length, ih]; omega
      obtain ⟨g, t, us0, ue, us2, fe, rfl, hl0, hle, hM, hcl⟩ := ho.write HN.out (i := j) (by rw [hl5, mFilts_length, HL.out]) (filtDs_length v) (by omega)
      have hsum : r + fCnt v ≤ 4611686018427387904 := by
        have h1 := HK.out
        have h2 := congrArg fsCnt HS.out
        rw [hdr, fsCnt_append, fsCnt] at h2
        have := HR.out
        omega
      obtain ⟨kind, n, s, xv, kids, uv, A3, c3, rfl, rfl, hsn, hv, hk3⟩ := filtDs_open hM.own.rd'
      obtain ⟨vkind, vn, vs', keys, list, A1, c1, A2, c2, rfl, rfl, hs, hk1, hk2⟩ := valDs_open (v := xv) hv
      have IH2 := Lib.hid (IH.out _ _ _ _ _ hmem)
      have hcnt : (fCnt (.mk kind n s (.mk vkind vn vs' keys list) kids) : Int) = 3 + (3 + keys.length + vsCnt list) + fsCnt kids := by simp [fCnt, vCnt]
      have b1 : r + 3 + 3 + keys.length + vsCnt list + fsCnt kids ≤ 4611686018427387904 := by omega
      have HL0 := Lib.hid hl0
      have HCL := Lib.hid hcl
      have x0 := hM.cell hl0 0 rfl
      have y0 := hM.frozen (j * 9)
      have x1 := hM.cell hl0 1 rfl
      have y1 := hM.frozen (j * 9 + 1)
      have x2 := hM.cell hl0 2 rfl
      have y2 := hM.frozen (j * 9 + 2)
      have x3 := hM.cell hl0 3 rfl
      have y3 := hM.frozen (j * 9 + 3)
      have x4 := hM.cell hl0 4 rfl
      have y4 := hM.frozen (j * 9 + 4)
      have x5 := hM.cell hl0 5 rfl
      have y5 := hM.frozen (j * 9 + 5)
      have x6 := hM.cell hl0 6 rfl
      have y6 := hM.frozen (j * 9 + 6)
      have x7 := hM.cell hl0 7 rfl
      have y7 := hM.frozen (j * 9 + 7)
      have x8 := hM.cell hl0 8 rfl
      have y8 := hM.frozen (j * 9 + 8)
      rw [Nat.add_zero] at x0
      have HM := Lib.hid hM
      have hcn := Lib.hid hcnt
      clear hdr ev ho hl0 hcl hM HO hle hcnt hsum hl5 hmem hk1 hk2 hs hsn hv hk3
      go_wp2_with fail
      refine (markText_calls _ _ (by omega)).mono ?_
      rintro e w1 ⟨rfl, hb1⟩
      have hM1 := (((HM.out.int HL0.out 0 rfl trivial _).int HL0.out 1 rfl trivial _).below hb1)
      clear x0 y0 x1 y1 x2 y2 x3 y3 x4 y4 x5 y5 x6 y6 x7 y7 x8 y8
      have x2 := hM1.cell HL0.out 2 rfl
      have y2 := hM1.frozen (j * 9 + 2)
      have x3 := hM1.cell HL0.out 3 rfl
      have y3 := hM1.frozen (j * 9 + 3)
      have x4 := hM1.cell HL0.out 4 rfl
      have y4 := hM1.frozen (j * 9 + 4)
      have x5 := hM1.cell HL0.out 5 rfl
      have y5 := hM1.frozen (j * 9 + 5)
      have x6 := hM1.cell HL0.out 6 rfl
      have y6 := hM1.frozen (j * 9 + 6)
      have x7 := hM1.cell HL0.out 7 rfl
      have y7 := hM1.frozen (j * 9 + 7)
      have x8 := hM1.cell HL0.out 8 rfl
      have y8 := hM1.frozen (j * 9 + 8)
      have M1 := Lib.hid (hM1.str HL0.out 2 rfl trivial _ (markT_size (k := r + 1 + 1) (by omega)))
      clear hM1 hb1
      go_wp2_with fail
      refine (markText_calls _ _ (by omega)).mono ?_
      rintro e w2 ⟨rfl, hb1⟩
      have hM1 := (((M1.out.int HL0.out 3 rfl trivial _).int HL0.out 4 rfl trivial _).below hb1)
      clear x2 y2 x3 y3 x4 y4 x5 y5 x6 y6 x7 y7 x8 y8
      have x5 := hM1.cell HL0.out 5 rfl
      have y5 := hM1.frozen (j * 9 + 5)
      have x6 := hM1.cell HL0.out 6 rfl
      have y6 := hM1.frozen (j * 9 + 6)
      have x7 := hM1.cell HL0.out 7 rfl
      have y7 := hM1.frozen (j * 9 + 7)
      have x8 := hM1.cell HL0.out 8 rfl
      have y8 := hM1.frozen (j * 9 + 8)
      have M2 := Lib.hid (hM1.str HL0.out 5 rfl trivial _ (markT_size (k := r + 1 + 1 + 1 + 1 + 1) (by omega)))
      clear hM1 hb1
      obtain ⟨f6, o3, nd3, cl3⟩ := M2.out.row 6 rfl rfl
      have O6 := Lib.hid o3
      have N6 := Lib.hid nd3
      have C6 := Lib.hid cl3
      clear o3 nd3 cl3
      go_wp2_with fail
      refine (markStringS_calls _ _ _ _ _ _ (by omega) (by omega) O6.out N6.out).mono ?_
      rintro e w3 ⟨rfl, o5, u5⟩
      clear x5 y5 x6 y6 x7 y7 x8 y8
      have hM1 := C6.out _ _ o5 u5
      have x7 := hM1.cell HL0.out 7 rfl
      have y7 := hM1.frozen (j * 9 + 7)
      have x8 := hM1.cell HL0.out 8 rfl
      have y8 := hM1.frozen (j * 9 + 8)
      have M3 := Lib.hid hM1
      clear hM1 o5 u5
      obtain ⟨f7, o3, nd3, cl3⟩ := M3.out.row 7 rfl rfl
      have O7 := Lib.hid o3
      have N7 := Lib.hid nd3
      have C7 := Lib.hid cl3
      clear o3 nd3 cl3
      go_wp2_with fail
      refine (markVals_calls _ _ _ _ _ _ (by omega) (by omega) O7.out N7.out).mono ?_
      rintro e w4 ⟨rfl, o5, u5⟩
      clear x7 y7 x8 y8
      have hM1 := C7.out _ _ o5 u5
      have x8 := hM1.cell HL0.out 8 rfl
      have y8 := hM1.frozen (j * 9 + 8)
      have M4 := Lib.hid hM1
      clear hM1 o5 u5
      obtain ⟨f8, o3, nd3, cl3⟩ := M4.out.row 8 rfl rfl
      have O8 := Lib.hid o3
      have N8 := Lib.hid nd3
      have C8 := Lib.hid cl3
      clear o3 nd3 cl3
      go_wp2_with fail
      refine (IH2.out _ _ _ _ _ (by omega) (by omega) O8.out N8.out).mono ?_
      rintro e w5 ⟨rfl, o5, u5⟩
      clear x8 y8
      have HC := Lib.hid (HCL.out _ _ _ rfl (C8.out _ _ o5 u5))
      clear o5 u5
      have HR2 := Lib.hid (show r + 1 + 1 + 1 + 1 + 1 + 1 + keys.length + vsCnt list + fsCnt kids = k + fsCnt (ks ++ [.mk kind n s (.mk vkind vn vs' keys list) kids]) by
        have h1 := HR.out
        have h2 := hcn.out
        simp only [fsCnt_append, fsCnt]
        omega)
      have HL2 := Lib.hid (show (ks ++ [(.mk kind n s (.mk vkind vn vs' keys list) kids : Filt)]).length = j + 1 by rw [List.length_append, HL.out]; rfl)
      have HS2 := Lib.hid (show vs = (ks ++ [.mk kind n s (.mk vkind vn vs' keys list) kids]) ++ vs.drop (j + 1) by rw [List.append_assoc, List.singleton_append, ← HD.out]; exact HS.out)
      have HO2 := Lib.hid (show OD w5 (.row 9 vs.length (filtsDs (mFilts (ks ++ [.mk kind n s (.mk vkind vn vs' keys list) kids]) k) ++ filtsDs (vs.drop (j + 1)))) (.slice (some ⟨g, 0, none⟩) vs.length c) fp by
        rw [mFilts_append, filtsDs_append, List.append_assoc, ← HR.out]
        have h1 := HC.out.1
        simp only [List.set_cons_zero, List.set_cons_succ, List.cons_append, List.nil_append, filtDs, mFilt, mFilts, filtsDs, valDs, mVal, List.append_nil, mStrs_length, mVals_length, mFilts_length] at h1 ⊢
        exact h1)
      have HU2 := HU.trans HC.out.2
      clear HC HR HL HS HU
      go_wp2
      go_roundw
      case rel => exact ⟨j + 1, _, _, by omega, by go_num, rfl, by omega, HR2, HL2, HS2, HO2, HU2⟩
      case measure => simp [intOf]; omega
    · obtain rfl : j = vs.length := by omega
      have HO2 := Lib.hid (show OD wr (.row 9 vs.length (filtsDs (mFilts vs k))) (.slice A vs.length c) fp by
        have h1 := HO.out
        have h2 := HS.out
        rw [List.drop_length, List.append_nil] at h2
        rw [List.drop_length, ← h2] at h1
        simpa [filtsDs] using h1)
      have HR2 := Lib.hid (show r = k + fsCnt vs by
        have h2 := HS.out
        rw [List.drop_length, List.append_nil] at h2
        rw [h2]
        exact HR.out)
      clear HO HS HL HR
      go_wp2
      go_ret
      exact ⟨by rw [← HR2.out]; rfl, HO2.out, HU⟩
theorem markFilts_all (x : Filt) : ∀ kind n s v kids, x = .mk kind n s v kids → MarkFilts kids := by
  induction x using Filt.ind with
  | h kind n s v kids ih =>
    intro _ _ _ _ _ e
    injection e with e1 e2 e3 e4 e5
    subst e5
    exact markFilts_of _ fun kind n s v l hm => ih _ hm _ _ _ _ _ rfl
theorem markFilts_calls (vs : List Filt) : MarkFilts vs := markFilts_of vs fun kind n s v l _ => markFilts_all (.mk kind n s v l) _ _ _ _ _ rfl
end Go.Proofs.YtppfgepoegicgaaGreatDoor
namespace Go.Proofs.YtppfgepoegicgaaGreatDoor
open Go Go.RowKit

theorem filtsDs_len : ∀ l : List Filt, (filtsDs l).length = l.length * 9
  | [] => rfl
  | .mk k n s v kids :: r => by simp only [filtsDs, filtDs, List.length_append, List.length_cons, List.length_nil, valDs_length, filtsDs_len r]; omega
theorem filts_scal_of : ∀ (l : List Filt), (∀ v ∈ l, scals (filtDs v) = fCnt v ∧ WfDs (filtDs v)) → scals (filtsDs l) = fsCnt l ∧ WfDs (filtsDs l)
  | [], _ => ⟨by simp [filtsDs, scals, fsCnt], trivial⟩
  | v :: r, h => by
    have h1 := h v List.mem_cons_self
    have h2 := filts_scal_of r fun x hx => h x (List.mem_cons_of_mem _ hx)
    refine ⟨by simp only [filtsDs, scals_append, fsCnt, h1.1, h2.1], ?_⟩
    simp only [filtsDs]
    exact wfDs_append.2 ⟨h1.2, h2.2⟩
theorem filt_scal : ∀ v, scals (filtDs v) = fCnt v ∧ WfDs (filtDs v) := Filt.ind fun kind n s v kids ih => by
  have h1 := filts_scal_of kids ih
  have h2 := val_scal v
  refine ⟨?_, ?_⟩
  · simp only [filtDs, scals, scal, scals_append, fCnt, h1.1, h2.1]
    omega
  · simp only [filtDs]
    exact ⟨trivial, trivial, trivial, wfDs_append.2 ⟨h2.2, ⟨by rw [filtsDs_len]; omega, h1.2⟩, trivial⟩⟩
theorem filt_few (v : Filt) {l : Int} (h0 : 0 ≤ l) (h1 : l ≤ 1048576) (h : 0 ≤ szDs (filtDs v) l) : fCnt v ≤ 10000000 := by
  have h2 := filt_scal v
  have h3 := scals_of_sz (filtDs v) l h2.2 h0 h
  have h4 : (filtDs v).length = 9 := by
    obtain ⟨_, _, _, _, _⟩ := v
    simp only [filtDs, List.length_append, List.length_cons, List.length_nil, valDs_length]
  rw [h2.1, h4] at h3
  omega
/-- A filter, its own parts marked (not its head). -/
def mFTop : Filt → Int → Filt
  | .mk kind n s v kids, k => .mk kind n s (mTop v k) (mFilts kids (k + topCnt v))
def topF : Filt → Nat
  | .mk _ _ _ v kids => topCnt v + fsCnt kids
theorem topF_le (v : Filt) : topF v ≤ fCnt v := by
  obtain ⟨_, _, _, v, _⟩ := v
  have := topCnt_le v
  simp only [topF, fCnt]
  omega

set_option maxRecDepth 100000 in
set_option maxHeartbeats 4000000 in
theorem markFilt_calls (x : Filt) (us : List Value) (k : Int) (fp : List Nat) (w : World) (hk0 : 0 ≤ k) (hk : k + topF x ≤ 4611686018427387904) (h : ODv w (filtDs x) us fp) (hnd : fp.Nodup) :
    Calls Tryz.prog 9 #[.agg us.toArray, .int .i64 k] w (PMarks (k + topF x) (filtDs (mFTop x k)) us fp w) := by
  obtain ⟨kind, n, s, v, kids⟩ := x
  obtain ⟨_, _, _, _, rfl, rfl, ⟨rfl, rfl⟩, _, _, _, _, rfl, rfl, ⟨rfl, rfl⟩, _, _, _, _, rfl, rfl, ⟨rfl, hs, rfl⟩, hrest⟩ := h
  obtain ⟨uv, ur, fv, fk, rfl, rfl, hv, hk'⟩ := hrest.split
  obtain ⟨uk, _, fk1, fk2, rfl, rfl, hrow, rfl, rfl⟩ := hk'
  obtain ⟨b0, b1, b2, A5, n5, q5, A6, n6, q6, rfl⟩ := valDs_shape hv.rd'
  obtain ⟨A8, c8, n8, rfl⟩ := row_shape hrow.rd'
  have hlen : n8 = kids.length := by
    obtain ⟨_, _, _, e, _⟩ := hrow.rd'
    injection e
  subst hlen
  simp only [List.append_nil, List.nil_append] at hnd ⊢
  simp only [topF] at hk
  obtain ⟨k1, k2, k3⟩ := List.nodup_append.1 hnd
  obtain ⟨W, eW⟩ : ∃ W, W = w.alloc (.cells #[.int .i64 kind, .int .i64 n, .string s, .int .i64 b0, .int .i64 b1, .string b2, .slice A5 n5 q5, .slice A6 n6 q6, .slice A8 kids.length c8] 35) := ⟨_, rfl⟩
  have HBX := Lib.hid (show Below w.heap.size w W by rw [eW]; exact below_box _ _)
  have HP := Lib.hid (show Blk W w.heap.size 35 [.int .i64 kind, .int .i64 n, .string s, .int .i64 b0, .int .i64 b1, .string b2, .slice A5 n5 q5, .slice A6 n6 q6, .slice A8 kids.length c8] by rw [eW]; exact Blk.new _ _ _)
  have HLV := Lib.hid (ODv.lt _ _ _ hv)
  have HLR := Lib.hid (OD.lt _ _ _ hrow)
  have HV := Lib.hid (ODv.keep (w' := W) _ _ _ (fun b hb => HBX.out.block b (HLV.out b hb)) hv)
  have HK := Lib.hid (OD.keep (w' := W) _ _ _ (fun b hb => HBX.out.block b (HLR.out b hb)) hrow)
  have EW := Lib.hid eW
  have N1 := Lib.hid k1
  have N2 := Lib.hid k2
  have N3 := Lib.hid k3
  have hz := HBX.out.size
  clear hv hrow hnd eW k1 k2 k3
  obtain ⟨cP, fP⟩ := blk_rules HP.out
  go_enter Tryz.func9, Tryz.ntmps9
  go_wp2_with fail
  rw [← EW.out]
  refine (markVal_calls v [_, _, _, _, _] k fv W hk0 (by omega) HV.out N1.out).mono ?_
  rintro e w1 ⟨rfl, h1, h2⟩
  have H1 := Lib.hid h1
  have H2 := Lib.hid h2
  have HP1 := Lib.hid (h2.blk (fun hm => by have := HLV.out w.heap.size hm; omega) HP.out)
  have HK1 := Lib.hid (OD.keep (w' := w1) _ _ _ (fun b hb => h2.block b (by have := HLR.out b hb; omega) (fun hm => N3.out b hm b hb rfl)) HK.out)
  have hz1 := h2.size
  clear h1 h2 cP fP
  obtain ⟨cP, fP⟩ := blk_rules HP1.out
  go_wp2_with fail
  refine (markFilts_calls kids A8 c8 (k + topCnt v) fk1 w1 (by omega) (by omega) HK1.out N2.out).mono ?_
  rintro e w2 ⟨rfl, h3, h4⟩
  have HM := Lib.hid (ODv.keep (w' := w2) _ _ _ (fun b hb => h4.block b (by have := HLV.out b hb; omega) (fun hm => N3.out b hb b hm rfl)) H1.out)
  have H3 := Lib.hid h3
  have HU := Lib.hid (show Upd (fv ++ fk1) w w2 from (Upd.of_below HBX.out).trans ((H2.out.mono fun b hb => List.mem_append_left _ hb).trans (h4.mono fun b hb => List.mem_append_right _ hb)))
  clear h3 h4 cP fP
  go_wp2
  go_ret
  refine ⟨by simp only [topF]; rw [show k + topCnt v + fsCnt kids = k + ((topCnt v + fsCnt kids : Nat) : Int) by omega]; rfl, ?_, HU.out⟩
  refine ⟨_, _, [], fv ++ fk1, rfl, rfl, ⟨rfl, rfl⟩, _, _, [], fv ++ fk1, rfl, rfl, ⟨rfl, rfl⟩, _, _, [], fv ++ fk1, rfl, rfl, ⟨rfl, hs, rfl⟩, ?_⟩
  have h9 : ODv w2 [.row 9 kids.length (filtsDs (mFilts kids (k + topCnt v)))] [.slice A8 kids.length c8] fk1 := ⟨_, _, fk1, [], rfl, by simp, H3.out, rfl, rfl⟩
  have h8 := ODv.append HM.out h9
  rw [mFilts_length]
  exact h8
end Go.Proofs.YtppfgepoegicgaaGreatDoor
