/- ShelfPut: the program's answer. -/
import Derived.Test.YtppfgepoegicgaaZKeepI
import Derived.Test.YtppfgepoegicgaaZPutEnd
import Derived.StillTailTactics
namespace Go.Proofs.Ytppfgepoegicgaa
open Go Go.RowKit

set_option maxRecDepth 100000 in
set_option maxHeartbeats 4000000 in
theorem iPut_calls (x : Shelf) (us : List Value) (who nm : ByteArray) (v : Val) (uv : List Value) (w : World) (B : Nat) (hB : B ≤ w.heap.size) (h : RDv w B (shelfDs x) us) (hv : RDv w B (valDs v) uv) (hsm : SmallDs (shelfDs x)) (hsv : SmallDs (valDs v)) (hnm : nm.size ≤ 9223372036854775807) :
    Calls Try.prog 33 #[.agg us.toArray, .string who, .string nm, .agg uv.toArray] w (PRes (PutIs x who nm v) w) := by
  obtain ⟨A, c, rfl, hl⟩ := shelfDs_open h
  obtain ⟨b0, b1, b2, A5, n5, q5, A6, n6, q6, rfl⟩ := valDs_shape hv
  have HX := Lib.hid h
  have HL := Lib.hid hl
  have HSM := Lib.hid hsm
  have HV := Lib.hid hv
  have HSV := Lib.hid hsv
  have hn2 := hl.len
  have hln : x.askers.length ≤ 1048576 := hsm.1.1
  clear h hl hsm hv hsv
  have hbx := fun o1 o2 o3 => below_box3 w o1 o2 o3
  go_enter Try.func33, Try.ntmps33
  go_wp2_with fail
  refine (iShelfOk_calls x [_] _ B (Nat.le_trans hB (hbx _ _ _).size) (HX.out.below ((hbx _ _ _).mono hB))).mono ?_
  rintro e w1 ⟨r1, rfl, hr1, hb1⟩
  have HR := Lib.hid hr1
  obtain ⟨hb, hz, bP, bV, bR⟩ := boxes3 (P := [_]) (R := [_, _, _, _, _]) (O := [_]) hb1
  obtain ⟨cP, fP⟩ := blk_rules bP
  obtain ⟨cV, fV⟩ := blk_rules bV
  obtain ⟨cR, fR⟩ := blk_rules bR
  have HP := Lib.hid bP
  have HVb := Lib.hid bV
  have HRb := Lib.hid bR
  clear hr1 hb1 bP bV bR hbx
  cases r1 with
  | false =>
    have HN := Lib.hid (show PutIs x who nm v ⟨[]⟩ 5 from .inl ⟨fun h => absurd (HR.out.2 h) (by simp), rfl, rfl⟩)
    go_wp2
    refine bodyPost_ret (v := .tuple #[.agg #[.slice none 0 0], .int .i64 5]) (by simp [results, Try.results33, go_sem, cR]) rfl ?_
    exact PRes.empty HN.out (hb.setCell (by show w.heap.size ≤ w.heap.size + 1 + 1; omega) _)
  | true =>
    have OKS := Lib.hid (HR.out.1 rfl)
    go_wp2_with fail
    refine (cloneShelf_calls x [_] _ B (by omega) (HX.out.below (hb.mono hB)) HSM.out).mono ?_
    rintro e w2 ⟨v2, g2, rfl, ha2, hb2⟩
    obtain ⟨f2, ho2, hf2⟩ := ha2.done (w := w1) (Nat.le_refl _)
    obtain ⟨A2, c2, rfl⟩ := od_shape ho2
    have hz2 := hb2.size
    have HF2 := Lib.hid hf2
    have HD2 := Lib.hid (OD.keep (w' := w2.alloc (.cells #[.slice A2 x.askers.length c2] 29)) _ _ _ (fun b hm => Below.heap_alloc w2 _ b (hf2.2 b hm).2) ho2)
    have HB3 := Lib.hid ((hb.trans (hb2.mono (by omega))).trans ((below_box w2 (.cells #[.slice A2 x.askers.length c2] 29)).mono (by omega)))
    have HP2 := Lib.hid ((HP.out.below hb2).alloc (.cells #[.slice A2 x.askers.length c2] 29))
    have HV2 := Lib.hid ((HVb.out.below hb2).alloc (.cells #[.slice A2 x.askers.length c2] 29))
    have HR2 := Lib.hid ((HRb.out.below hb2).alloc (.cells #[.slice A2 x.askers.length c2] 29))
    have HO2 := Lib.hid (Blk.new w2 29 [.slice A2 x.askers.length c2])
    have E2 := Lib.hid (show (w2.alloc (.cells #[.slice A2 x.askers.length c2] 29)).heap.size = w2.heap.size + 1 by simp)
    clear ha2 ho2 hf2 hb2 cP fP cV fV cR fR HP HVb HRb HR
    obtain ⟨cP, fP⟩ := blk_rules HP2.out
    obtain ⟨cV, fV⟩ := blk_rules HV2.out
    obtain ⟨cR, fR⟩ := blk_rules HR2.out
    obtain ⟨cO, fO⟩ := blk_rules HO2.out
    go_wp2_with fail
    refine (iAsker_calls x [_] who _ B (by rw [E2.out]; omega) (HX.out.below (HB3.out.mono hB))).mono ?_
    rintro e w3 ⟨r, rfl, hf, hb4⟩
    have HF := Lib.hid hf
    have HD3 := Lib.hid (OD.keep (w' := w3) _ _ _ (fun b hm => hb4.block b (by have := (HF2.out.2 b hm).2; rw [E2.out]; omega)) HD2.out)
    have HP3 := Lib.hid (HP2.out.below hb4)
    have HV3 := Lib.hid (HV2.out.below hb4)
    have HR3 := Lib.hid (HR2.out.below hb4)
    have HO3 := Lib.hid (HO2.out.below hb4)
    have hz3 := hb4.size
    rw [E2.out] at hz3
    have HB4 := Lib.hid (HB3.out.trans (hb4.mono (by rw [E2.out]; omega)))
    clear hf hb4 cP fP cV fV cR fR cO fO HP2 HV2 HR2 HO2 HD2 HB3
    obtain ⟨cP, fP⟩ := blk_rules HP3.out
    obtain ⟨cV, fV⟩ := blk_rules HV3.out
    obtain ⟨cR, fR⟩ := blk_rules HR3.out
    obtain ⟨cO, fO⟩ := blk_rules HO3.out
    by_cases tr : r < 0
    · have HN := Lib.hid (show PutIs x who nm v x 1 from .inr ⟨OKS.out, .inl ⟨HF.out.nonneg.1 tr, rfl, rfl⟩⟩)
      go_wp2
      refine bodyPost_ret (v := .tuple #[.agg #[.slice A2 x.askers.length c2], .int .i64 1]) (by simp [results, Try.results33, go_sem, cR]) rfl ?_
      exact PRes.of_od HN.out HD3.out HF2.out.1 (fun b hm => by have := (HF2.out.2 b hm).1; omega) (by omega) HB4.out
    obtain ⟨k, a, rfl, hlk, hdk, hfk⟩ := first_at (f := fun x : Asker => x.name) HF.out tr
    have HDK := Lib.hid hdk
    have HFK := Lib.hid hfk
    have HBAD := Lib.hid (show ¬ (NameOk nm ∧ ValOk v) → PutIs x who nm v x 3 from fun h => .inr ⟨OKS.out, .inr ⟨k, a, HDK.out, HFK.out, .inl ⟨h, rfl, rfl⟩⟩⟩)
    clear hdk hfk HF tr
    by_cases tn : NameOk nm
    case neg =>
      have HTN := Lib.hid tn
      clear tn
      go_wp2_with fail
      refine ((iNameOk_calls nm _ hnm).mono fun e w' h => h.false_ HTN.out).mono ?_
      rintro e w4 ⟨rfl, rfl⟩
      go_wp2
      refine bodyPost_ret (v := .tuple #[.agg #[.slice A2 x.askers.length c2], .int .i64 3]) (by simp [results, Try.results33, go_sem, cR]) rfl ?_
      exact PRes.of_od (HBAD.out fun h => HTN.out h.1) HD3.out HF2.out.1 (fun b hm => by have := (HF2.out.2 b hm).1; omega) (by omega) HB4.out
    have HTN := Lib.hid tn
    clear tn
    go_wp2_with fail
    refine ((iNameOk_calls nm _ hnm).mono fun e w' h => h.true_ HTN.out).mono ?_
    rintro e w4 ⟨rfl, rfl⟩
    go_wp2_with fail
    refine (iValOk_calls v [_, _, _, _, _] _ B (by omega) (HV.out.below (HB4.out.mono hB))).mono ?_
    rintro e w5 ⟨r5, rfl, hr5, hb5⟩
    have OKV := Lib.hid hr5
    have HD5 := Lib.hid (OD.keep (w' := w5) _ _ _ (fun b hm => hb5.block b (by have := (HF2.out.2 b hm).2; omega)) HD3.out)
    have HP5 := Lib.hid (HP3.out.below hb5)
    have HV5 := Lib.hid (HV3.out.below hb5)
    have HR5 := Lib.hid (HR3.out.below hb5)
    have HO5 := Lib.hid (HO3.out.below hb5)
    have hz5 := hb5.size
    have HB5 := Lib.hid (HB4.out.trans (hb5.mono (by omega)))
    clear hr5 hb5 cP fP cV fV cR fR cO fO HP3 HV3 HR3 HO3 HD3 HB4
    obtain ⟨cP, fP⟩ := blk_rules HP5.out
    obtain ⟨cV, fV⟩ := blk_rules HV5.out
    obtain ⟨cR, fR⟩ := blk_rules HR5.out
    obtain ⟨cO, fO⟩ := blk_rules HO5.out
    cases r5 with
    | false =>
      go_wp2
      refine bodyPost_ret (v := .tuple #[.agg #[.slice A2 x.askers.length c2], .int .i64 3]) (by simp [results, Try.results33, go_sem, cR]) rfl ?_
      exact PRes.of_od (HBAD.out fun h => by have := OKV.out.2 h.2; simp at this) HD5.out HF2.out.1 (fun b hm => by have := (HF2.out.2 b hm).1; omega) (by omega) HB5.out
    | true =>
      have hvok := OKV.out.1 rfl
      obtain ⟨g, t0, us0, us2, T, ct, fe, rfl, hl0, hBg, hT, hin, hnd, hgn, hnc, hns, hclose⟩ := asker_swap (drop_get HDK.out) HD5.out HF2.out.1
      have HCL := Lib.hid hclose
      have HBG := Lib.hid hBg
      have HIN := Lib.hid hin
      have HGN := Lib.hid hgn
      have HNS := Lib.hid hns
      have HT := Lib.hid hT
      have HND := Lib.hid hnd
      have HLT := Lib.hid (OD.lt _ _ _ hT)
      have hgb := (HF2.out.2 g (HIN.out g (by simp)))
      have hk0 : (k : Int) < (x.askers.length : Int) := by omega
      have hal : a.trees.length ≤ 4 := (OKS.out.1 a (List.mem_of_getElem? (drop_get HDK.out))).2.2.2.1
      have HOKS := Lib.hid (show ∀ y ∈ a.trees, ValOk y.v from fun y hy => (OKS.out.1 a (List.mem_of_getElem? (drop_get HDK.out))).2.2.2.2.1 y hy |>.2)
      have c0 : w5.cell? ⟨g, k * 4, none⟩ = some (.string a.name) := hBg.mid hl0 0 rfl
      have c1 : w5.cell? ⟨g, k * 4 + 1, none⟩ = some (.int .i64 a.most) := hBg.mid hl0 1 rfl
      have c2' : w5.cell? ⟨g, k * 4 + 2, none⟩ = some (.int .i64 a.fuel) := hBg.mid hl0 2 rfl
      have c3 : w5.cell? ⟨g, k * 4 + 3, none⟩ = some (.slice T a.trees.length ct) := hBg.mid hl0 3 rfl
      clear hclose hBg hin hgn hns hT hnd
      have HL0 := Lib.hid hl0
      have hgl := HBG.out.lt
      have HCC := Lib.hid (show Closes w5 x k g t0 us0 us2 (some ⟨g, 0, none⟩) c2 f2 fe from HCL.out)
      go_upto_region 9 with fail
      go_still_tail 6, (by kernel_rfl)
      change wpList _ _ _ _ _ w5.drew
      go_wp2_with fail
      refine (iKeep_calls a nm v T ct g k t0 us0 us2 [_, _, _, _, _] fe w5.drew B (show B ≤ w5.heap.size by omega) HBG.out.drew hl0 (OD.keep (w := w5) (w' := w5.drew) _ _ _ (fun b hb => rfl) HT.out) HND.out HGN.out (HV.out.below ((HB5.out.mono hB).drew)) HSV.out HNS.out hnm HOKS.out hvok hal).mono ?_
      rintro e w6 ⟨b, rfl, r, hfr, hk6⟩
      have HK6 := Lib.hid hk6
      clear hk6 cP fP cV fV cR fR cO fO c0 c1 c2' c3
      rcases HK6.out with ⟨hnf, rfl, hb⟩ | ⟨hfi, rfl, sl, f', hB6, hO6, hN6, hI6, hU6⟩
      · have hb6 : Below w5.heap.size w5 w6 := ⟨hb.os, hb.tape, hb.output, hb.size, hb.block⟩
        have HN := Lib.hid (show PutIs x who nm v x 2 from .inr ⟨OKS.out, .inr ⟨k, a, HDK.out, HFK.out, .inr ⟨⟨HTN.out, hvok⟩, r, hfr, .inl ⟨hnf, rfl, rfl⟩⟩⟩⟩)
        have HD6 := Lib.hid (OD.keep (w' := w6) _ _ _ (fun b hm => hb6.block b (OD.lt _ _ _ HD5.out b hm)) HD5.out)
        have HR6 := Lib.hid (HR5.out.below hb6)
        have HO6 := Lib.hid (HO5.out.below hb6)
        have HB6 := Lib.hid (HB5.out.trans (hb6.mono HB5.out.size))
        clear hfr hnf hb hb6 HK6
        obtain ⟨cR, fR⟩ := blk_rules HR6.out
        obtain ⟨cO, fO⟩ := blk_rules HO6.out
        go_wp2
        refine bodyPost_ret (v := .tuple #[.agg #[.slice (some ⟨g, 0, none⟩) x.askers.length c2], .int .i64 2]) (by simp [results, Try.results33, go_sem, cR]) rfl ?_
        exact PRes.of_od HN.out HD6.out HF2.out.1 (fun b hm => by have := (HF2.out.2 b hm).1; omega) (by omega) HB6.out
      · have hu6 : Upd [g] w5 w6 := ⟨hU6.os, hU6.tape, hU6.output, hU6.size, hU6.block⟩
        have HN := Lib.hid (show PutIs x who nm v ⟨x.askers.set k (withTrees a (putAt a.trees nm v r))⟩ 0 from .inr ⟨OKS.out, .inr ⟨k, a, HDK.out, HFK.out, .inr ⟨⟨HTN.out, hvok⟩, r, hfr, .inr ⟨hfi, rfl, rfl⟩⟩⟩⟩)
        obtain ⟨fp', hO', hN', hI'⟩ := put_close HCC.out HNS.out hB6 hO6 hN6 hI6 hu6
        have HOO := Lib.hid hO'
        have HNN := Lib.hid hN'
        have HII := Lib.hid hI'
        have HR6 := Lib.hid (hu6.blk (by simp; omega) HR5.out)
        have HO6 := Lib.hid (hu6.blk (by simp; omega) HO5.out)
        have HB6 := Lib.hid (HB5.out.trans (hu6.to_below (B := w.heap.size) (by intro b hb; rw [List.mem_singleton.1 hb]; omega) (by omega)))
        clear hfr hfi hU6 hB6 hO6 hN6 hI6 hO' hN' hI' hu6 HK6
        obtain ⟨cR, fR⟩ := blk_rules HR6.out
        obtain ⟨cO, fO⟩ := blk_rules HO6.out
        go_wp2
        refine bodyPost_ret (v := .tuple #[.agg #[.slice (some ⟨g, 0, none⟩) x.askers.length c2], .int .i64 0]) (by simp [results, Try.results33, go_sem, cR]) rfl ?_
        refine PRes.of_od HN.out (f := fp') (by rw [List.length_set]; exact HOO.out) HNN.out (fun b hm => ?_) (by omega) HB6.out
        rcases HII.out b hm with h | h
        · have := (HF2.out.2 b h).1; omega
        · omega
end Go.Proofs.Ytppfgepoegicgaa
