/- The law's mark of a row of texts. -/
import Derived.Test.YtppfgepoegicgaaDoorZMarkText
namespace Go.Proofs.YtppfgepoegicgaaDoor
open Go Go.RowKit

/-- What a mark does: it returns the next number; the data that it got read as marked; no other block has turned. -/
def PMark (k' : Int) (d : Dat) (c : Value) (fp : List Nat) (w : World) (e : Ending) (w' : World) : Prop := e = .returned (.int .i64 k') ∧ OD w' d c fp ∧ Upd fp w w'

set_option maxRecDepth 100000 in
set_option maxHeartbeats 2000000 in
theorem markStringS_calls (ss : List ByteArray) (A : Option Addr) (c : Nat) (k : Int) (fp : List Nat) (w : World) (hk0 : 0 ≤ k) (hk : k + ss.length ≤ 4611686018427387904) (h : OD w (.row 1 ss.length (strDs ss)) (.slice A ss.length c) fp) (hnd : fp.Nodup) :
    Calls Tryd.prog 17 #[.slice A ss.length c, .int .i64 k] w (PMark (k + ss.length) (.row 1 ss.length (strDs (mStrs ss k))) (.slice A ss.length c) fp w) := by
  have hn := h.rd'.len
  have H := Lib.hid h
  have HN := Lib.hid hnd
  clear h hnd
  go_enter Tryd.func17, Tryd.ntmps17
  go_wp2
  go_loopw [1, 5] (fun q i w' => ∃ (j : Nat) (ks : List ByteArray), j ≤ ss.length ∧ i = .int .i64 j ∧ q = .int .i64 (k + j) ∧ Hid (ks.length = j) ∧ Hid (ss = ks ++ ss.drop j) ∧ Hid (OD w' (.row 1 ss.length (strDs (mStrs ks k) ++ strDs (ss.drop j))) (.slice A ss.length c) fp) ∧ Upd fp w w') (fun _ i _ => ss.length - (intOf i).toNat)
  case atStart => exact ⟨0, [], by omega, rfl, by simp, (rfl : ([] : List ByteArray).length = 0), (rfl : ss = [] ++ ss.drop 0), H.out, Upd.refl _ _⟩
  case round =>
    obtain ⟨j, ks, hj, rfl, rfl, HL, HS, HO, HU⟩ := hrel
    by_cases hlt : j < ss.length
    · have hdr := List.drop_eq_getElem_cons hlt
      obtain ⟨s, es⟩ : ∃ s, s = ss[j] := ⟨_, rfl⟩
      rw [← es] at hdr
      have HD := Lib.hid hdr
      have ho := HO.out
      rw [hdr, show strDs (s :: ss.drop (j + 1)) = [.str s] ++ strDs (ss.drop (j + 1)) from rfl] at ho
      obtain ⟨g, t, us0, ue, us2, fe, rfl, hl0, hle, hM, hcl⟩ := ho.write HN.out (i := j) (by rw [strDs_length, mStrs_length, HL.out]; omega) rfl (by omega)
      rw [Nat.mul_one] at hl0
      obtain ⟨u0, rfl⟩ := len1 hle
      have HL0 := Lib.hid hl0
      have HCL := Lib.hid hcl
      have HM := Lib.hid hM
      clear hdr es ho hl0 hcl hM HO hle
      go_wp2_with fail
      refine (markText_calls _ _ (by omega)).mono ?_
      rintro e w1 ⟨rfl, hb1⟩
      have hM1 := HM.out.below hb1
      have x0 : w1.cell? ⟨g, j, none⟩ = some u0 := hM1.cell HL0.out 0 rfl
      have y0 := hM1.frozen j
      have hM2 := hM1.str HL0.out 0 rfl trivial _ (markT_size (k := k + j) (by omega))
      have HC := Lib.hid (HCL.out _ _ _ rfl hM2)
      clear hM1 hM2
      go_wp2
      go_roundw
      case rel => exact ⟨j + 1, ks ++ [s], by omega, by go_num, by go_num, (by rw [List.length_append, HL.out]; rfl : (ks ++ [s]).length = j + 1), (by rw [List.append_assoc, List.singleton_append, ← HD.out]; exact HS.out : ss = (ks ++ [s]) ++ ss.drop (j + 1)),
        (by rw [mStrs_append, strDs_append, HL.out, List.append_assoc]; exact HC.out.1 : OD _ (.row 1 ss.length (strDs (mStrs (ks ++ [s]) k) ++ strDs (ss.drop (j + 1)))) _ fp), HU.trans HC.out.2⟩
      case measure => simp [intOf]; omega
    · obtain rfl : j = ss.length := by omega
      have HO2 := Lib.hid (show OD wr (.row 1 ss.length (strDs (mStrs ss k))) (.slice A ss.length c) fp by
        have h1 := HO.out
        have h2 := HS.out
        rw [List.drop_length, List.append_nil] at h2
        rw [List.drop_length, ← h2] at h1
        simpa [strDs] using h1)
      clear HO HS HL
      go_wp2
      go_ret
      exact ⟨rfl, HO2.out, HU⟩
end Go.Proofs.YtppfgepoegicgaaDoor
