/- Marking a whole filter; how many marks a filter of the law's size takes. -/
import Derived.Test.YtppfgepoegicgaaDoorZMarkVTop
import Derived.Test.YtppfgepoegicgaaDoorZMarkF
namespace Go.Proofs.YtppfgepoegicgaaDoor
open Go Go.RowKit

theorem filtsDs_len : ∀ l : List Filt, (filtsDs l).length = l.length * 9
  | [] => rfl
  | .mk k n s v kids :: r => by simp only [filtsDs, filtDs, List.length_append, List.length_cons, List.length_nil, valDs_length, filtsDs_len r]; omega
theorem filts_scal_of : ∀ (l : List Filt), (∀ v ∈ l, scals (filtDs v) = fCnt v ∧ WfDs (filtDs v)) → scals (filtsDs l) = fsCnt l ∧ WfDs (filtsDs l)
  | [], _ => ⟨by simp [filtsDs, scals, fsCnt], trivial⟩
  | v :: r, h => by
    have h1 := h v List.mem_cons_self
    have h2 := filts_scal_of r fun x hx => h x (List.mem_cons_of_mem _ hx)
    refine ⟨by simp only [filtsDs, scals_append, fsCnt, h1.1, h2.1], ?_⟩
    simp only [filtsDs]
    exact wfDs_append.2 ⟨h1.2, h2.2⟩
theorem filt_scal : ∀ v, scals (filtDs v) = fCnt v ∧ WfDs (filtDs v) := Filt.ind fun kind n s v kids ih => by
  have h1 := filts_scal_of kids ih
  have h2 := val_scal v
  refine ⟨?_, ?_⟩
  · simp only [filtDs, scals, scal, scals_append, fCnt, h1.1, h2.1]
    omega
  · simp only [filtDs]
    exact ⟨trivial, trivial, trivial, wfDs_append.2 ⟨h2.2, ⟨by rw [filtsDs_len]; omega, h1.2⟩, trivial⟩⟩
theorem filt_few (v : Filt) {l : Int} (h0 : 0 ≤ l) (h1 : l ≤ 1048576) (h : 0 ≤ szDs (filtDs v) l) : fCnt v ≤ 10000000 := by
  have h2 := filt_scal v
  have h3 := scals_of_sz (filtDs v) l h2.2 h0 h
  have h4 : (filtDs v).length = 9 := by
    obtain ⟨_, _, _, _, _⟩ := v
    simp only [filtDs, List.length_append, List.length_cons, List.length_nil, valDs_length]
  rw [h2.1, h4] at h3
  omega
/-- A filter, its own parts marked (not its head). -/
def mFTop : Filt → Int → Filt
  | .mk kind n s v kids, k => .mk kind n s (mTop v k) (mFilts kids (k + topCnt v))
def topF : Filt → Nat
  | .mk _ _ _ v kids => topCnt v + fsCnt kids
theorem topF_le (v : Filt) : topF v ≤ fCnt v := by
  obtain ⟨_, _, _, v, _⟩ := v
  have := topCnt_le v
  simp only [topF, fCnt]
  omega

set_option maxRecDepth 100000 in
set_option maxHeartbeats 4000000 in
theorem markFilt_calls (x : Filt) (us : List Value) (k : Int) (fp : List Nat) (w : World) (hk0 : 0 ≤ k) (hk : k + topF x ≤ 4611686018427387904) (h : ODv w (filtDs x) us fp) (hnd : fp.Nodup) :
    Calls Tryd.prog 16 #[.agg us.toArray, .int .i64 k] w (PMarks (k + topF x) (filtDs (mFTop x k)) us fp w) := by
  obtain ⟨kind, n, s, v, kids⟩ := x
  obtain ⟨_, _, _, _, rfl, rfl, ⟨rfl, rfl⟩, _, _, _, _, rfl, rfl, ⟨rfl, rfl⟩, _, _, _, _, rfl, rfl, ⟨rfl, hs, rfl⟩, hrest⟩ := h
  obtain ⟨uv, ur, fv, fk, rfl, rfl, hv, hk'⟩ := hrest.split
  obtain ⟨uk, _, fk1, fk2, rfl, rfl, hrow, rfl, rfl⟩ := hk'
  obtain ⟨b0, b1, b2, A5, n5, q5, A6, n6, q6, rfl⟩ := valDs_shape hv.rd'
  obtain ⟨A8, c8, n8, rfl⟩ := row_shape hrow.rd'
  have hlen : n8 = kids.length := by
    obtain ⟨_, _, _, e, _⟩ := hrow.rd'
    injection e
  subst hlen
  simp only [List.append_nil, List.nil_append] at hnd ⊢
  simp only [topF] at hk
  obtain ⟨k1, k2, k3⟩ := List.nodup_append.1 hnd
  obtain ⟨W, eW⟩ : ∃ W, W = w.alloc (.cells #[.int .i64 kind, .int .i64 n, .string s, .int .i64 b0, .int .i64 b1, .string b2, .slice A5 n5 q5, .slice A6 n6 q6, .slice A8 kids.length c8] 36) := ⟨_, rfl⟩
  have HBX := Lib.hid (show Below w.heap.size w W by rw [eW]; exact below_box _ _)
  have HP := Lib.hid (show Blk W w.heap.size 36 [.int .i64 kind, .int .i64 n, .string s, .int .i64 b0, .int .i64 b1, .string b2, .slice A5 n5 q5, .slice A6 n6 q6, .slice A8 kids.length c8] by rw [eW]; exact Blk.new _ _ _)
  have HLV := Lib.hid (ODv.lt _ _ _ hv)
  have HLR := Lib.hid (OD.lt _ _ _ hrow)
  have HV := Lib.hid (ODv.keep (w' := W) _ _ _ (fun b hb => HBX.out.block b (HLV.out b hb)) hv)
  have HK := Lib.hid (OD.keep (w' := W) _ _ _ (fun b hb => HBX.out.block b (HLR.out b hb)) hrow)
  have EW := Lib.hid eW
  have N1 := Lib.hid k1
  have N2 := Lib.hid k2
  have N3 := Lib.hid k3
  have hz := HBX.out.size
  clear hv hrow hnd eW k1 k2 k3
  obtain ⟨cP, fP⟩ := blk_rules HP.out
  go_enter Tryd.func16, Tryd.ntmps16
  go_wp2_with fail
  rw [← EW.out]
  refine (markVal_calls v [_, _, _, _, _] k fv W hk0 (by omega) HV.out N1.out).mono ?_
  rintro e w1 ⟨rfl, h1, h2⟩
  have H1 := Lib.hid h1
  have H2 := Lib.hid h2
  have HP1 := Lib.hid (h2.blk (fun hm => by have := HLV.out w.heap.size hm; omega) HP.out)
  have HK1 := Lib.hid (OD.keep (w' := w1) _ _ _ (fun b hb => h2.block b (by have := HLR.out b hb; omega) (fun hm => N3.out b hm b hb rfl)) HK.out)
  have hz1 := h2.size
  clear h1 h2 cP fP
  obtain ⟨cP, fP⟩ := blk_rules HP1.out
  go_wp2_with fail
  refine (markFilts_calls kids A8 c8 (k + topCnt v) fk1 w1 (by omega) (by omega) HK1.out N2.out).mono ?_
  rintro e w2 ⟨rfl, h3, h4⟩
  have HM := Lib.hid (ODv.keep (w' := w2) _ _ _ (fun b hb => h4.block b (by have := HLV.out b hb; omega) (fun hm => N3.out b hb b hm rfl)) H1.out)
  have H3 := Lib.hid h3
  have HU := Lib.hid (show Upd (fv ++ fk1) w w2 from (Upd.of_below HBX.out).trans ((H2.out.mono fun b hb => List.mem_append_left _ hb).trans (h4.mono fun b hb => List.mem_append_right _ hb)))
  clear h3 h4 cP fP
  go_wp2
  go_ret
  refine ⟨by simp only [topF]; rw [show k + topCnt v + fsCnt kids = k + ((topCnt v + fsCnt kids : Nat) : Int) by omega]; rfl, ?_, HU.out⟩
  refine ⟨_, _, [], fv ++ fk1, rfl, rfl, ⟨rfl, rfl⟩, _, _, [], fv ++ fk1, rfl, rfl, ⟨rfl, rfl⟩, _, _, [], fv ++ fk1, rfl, rfl, ⟨rfl, hs, rfl⟩, ?_⟩
  have h9 : ODv w2 [.row 9 kids.length (filtsDs (mFilts kids (k + topCnt v)))] [.slice A8 kids.length c8] fk1 := ⟨_, _, fk1, [], rfl, by simp, H3.out, rfl, rfl⟩
  have h8 := ODv.append HM.out h9
  rw [mFilts_length]
  exact h8
end Go.Proofs.YtppfgepoegicgaaDoor
