/- ShelfPut: the reference's answer. -/
import Derived.Test.YtppfgepoegicgaaZPutEnd
import Derived.Test.YtppfgepoegicgaaGi
namespace Go.Proofs.Ytppfgepoegicgaa
open Go Go.RowKit

theorem copy_at {w5 W : World} {v : Val} {uv : List Value} {B : Nat} (hB : B ≤ w5.heap.size) (h : RDv w5 B (valDs v) uv) (hs : SmallDs (valDs v)) (hW : Below w5.heap.size w5 W) :
    Calls Try.prog 50 #[.agg uv.toArray] W fun e w' => ∃ vs fp, e = .returned (.agg vs.toArray) ∧ ODv w' (valDs v) vs fp ∧ Fresh W w' fp ∧ Below W.heap.size W w' :=
  copy_calls v uv W B (Nat.le_trans hB hW.size) (h.below (hW.mono hB)) hs
theorem keep_at {w5 w6 Wk : World} {a : Asker} {nm : ByteArray} {v : Val} {T : Option Addr} {ct : Nat} {uv : List Value} {f fv : List Nat} (hT : OD w5 (.row 6 a.trees.length (keptsDs a.trees)) (.slice T a.trees.length ct) f) (hf : f.Nodup) (hv : ODv w6 (valDs v) uv fv) (hfv : fv.Nodup ∧ ∀ b ∈ fv, w5.heap.size ≤ b)
    (hns : a.name.size ≤ 9223372036854775807) (hnm : nm.size ≤ 9223372036854775807) (hok : ∀ y ∈ a.trees, ValOk y.v) (hvok : ValOk v) (hl : a.trees.length ≤ 4) (h6 : Below w5.heap.size w5 w6) (hk : Below w6.heap.size w6 Wk) :
    Calls Try.prog 68 #[.agg #[.string a.name, .int .i64 a.most, .int .i64 a.fuel, .slice T a.trees.length ct], .string nm, .agg uv.toArray] Wk
      fun e w' => ∃ As ns qs c, e = .returned (.tuple #[.agg #[.string a.name, .int .i64 a.most, .int .i64 a.fuel, .slice As ns qs], .int .i64 c]) ∧ KeepIs a nm v (.slice T a.trees.length ct) f fv Wk w' (.slice As ns qs) c ∧ Below Wk.heap.size Wk w' := by
  have hlt := OD.lt _ _ _ hT
  refine (sKeep_calls a nm v T ct uv f fv Wk (OD.keep _ _ _ (fun b hb => (hk.block b (by have := hlt b hb; have := h6.size; omega)).trans (h6.block b (hlt b hb))) hT) hf (ODv.keep _ _ _ (fun b hb => hk.block b (ODv.lt _ _ _ hv b hb)) hv) hfv.1 (fun b hb h => by have := hlt b hb; have := hfv.2 b h; omega) hns hnm hok hvok hl).mono ?_
  rintro e w' ⟨sl, c, rfl, h1, h2⟩
  obtain ⟨As, ns, qs, rfl⟩ := keepIs_shape h1
  exact ⟨As, ns, qs, c, rfl, h1, h2⟩
theorem keep_into {a : Asker} {nm : ByteArray} {v : Val} {sl0 sl : Value} {f fv : List Nat} {w5 Wk w7 Wf : World} {c : Int} (h : KeepIs a nm v sl0 f fv Wk w7 sl c) (hk : ∀ b, (b ∈ f ∨ b ∈ fv ∨ Wk.heap.size ≤ b) → b < w7.heap.size → Wf.heap[b]? = w7.heap[b]?) (hv : ∀ b ∈ fv, w5.heap.size ≤ b) (hw : w5.heap.size ≤ Wk.heap.size) : KeepIs a nm v sl0 f [] w5 Wf sl c := by
  obtain ⟨r, h1, h2 | ⟨h2, h3, f', h4, h5, h6⟩⟩ := h
  · exact ⟨r, h1, .inl h2⟩
  · refine ⟨r, h1, .inr ⟨h2, h3, f', OD.keep _ _ _ (fun b hb => hk b (h6 b hb) (OD.lt _ _ _ h4 b hb)) h4, h5, fun b hb => ?_⟩⟩
    rcases h6 b hb with h | h | h
    · exact .inl h
    · exact .inr (.inr (hv b h))
    · exact .inr (.inr (by omega))
set_option maxRecDepth 100000 in
set_option maxHeartbeats 4000000 in
theorem sPut_calls (x : Shelf) (us : List Value) (who nm : ByteArray) (v : Val) (uv : List Value) (w : World) (B : Nat) (hB : B ≤ w.heap.size) (h : RDv w B (shelfDs x) us) (hv : RDv w B (valDs v) uv) (hsm : SmallDs (shelfDs x)) (hsv : SmallDs (valDs v)) (hC : ∀ a ∈ x.askers, ∀ y ∈ a.trees, valCnt y.v ≤ 1099511627776) (hCv : valCnt v ≤ 1099511627776) (hnm : nm.size ≤ 9223372036854775807) :
    Calls Try.prog 31 #[.agg us.toArray, .string who, .string nm, .agg uv.toArray] w (PRes (PutIs x who nm v) w) := by
  obtain ⟨A, c, rfl, hl⟩ := shelfDs_open h
  obtain ⟨b0, b1, b2, A5, n5, q5, A6, n6, q6, rfl⟩ := valDs_shape hv
  have HX := Lib.hid h
  have HL := Lib.hid hl
  have HSM := Lib.hid hsm
  have HV := Lib.hid hv
  have HSV := Lib.hid hsv
  have hn2 := hl.len
  have hln : x.askers.length ≤ 1048576 := hsm.1.1
  clear h hl hsm hv hsv
  have hbx := fun o1 o2 o3 => below_box3 w o1 o2 o3
  go_enter Try.func31, Try.ntmps31
  go_wp2_with fail
  refine (sShelfOk_calls x [_] _ B (Nat.le_trans hB (hbx _ _ _).size) (HX.out.below ((hbx _ _ _).mono hB)) hC).mono ?_
  rintro e w1 ⟨r1, rfl, hr1, hb1⟩
  have HR := Lib.hid hr1
  obtain ⟨hb, hz, bP, bV, bR⟩ := boxes3 (P := [_]) (R := [_, _, _, _, _]) (O := [_]) hb1
  obtain ⟨cP, fP⟩ := blk_rules bP
  obtain ⟨cV, fV⟩ := blk_rules bV
  obtain ⟨cR, fR⟩ := blk_rules bR
  have HP := Lib.hid bP
  have HVb := Lib.hid bV
  have HRb := Lib.hid bR
  clear hr1 hb1 bP bV bR hbx hC
  cases r1 with
  | false =>
    have HN := Lib.hid (show PutIs x who nm v ⟨[]⟩ 5 from .inl ⟨fun h => absurd (HR.out.2 h) (by simp), rfl, rfl⟩)
    go_wp2
    refine bodyPost_ret (v := .tuple #[.agg #[.slice none 0 0], .int .i64 5]) (by simp [results, Try.results31, go_sem, cR]) rfl ?_
    exact PRes.empty HN.out (hb.setCell (by show w.heap.size ≤ w.heap.size + 1 + 1; omega) _)
  | true =>
    have OKS := Lib.hid (HR.out.1 rfl)
    go_wp2_with fail
    refine (copyShelf_calls x [_] _ B (by omega) (HX.out.below (hb.mono hB)) HSM.out).mono ?_
    rintro e w2 ⟨v2, g2, rfl, ha2, hb2⟩
    obtain ⟨f2, ho2, hf2⟩ := ha2.done (w := w1) (Nat.le_refl _)
    obtain ⟨A2, c2, rfl⟩ := od_shape ho2
    have hz2 := hb2.size
    have HF2 := Lib.hid hf2
    have HD2 := Lib.hid (OD.keep (w' := w2.alloc (.cells #[.slice A2 x.askers.length c2] 29)) _ _ _ (fun b hm => Below.heap_alloc w2 _ b (hf2.2 b hm).2) ho2)
    have HB3 := Lib.hid ((hb.trans (hb2.mono (by omega))).trans ((below_box w2 (.cells #[.slice A2 x.askers.length c2] 29)).mono (by omega)))
    have HP2 := Lib.hid ((HP.out.below hb2).alloc (.cells #[.slice A2 x.askers.length c2] 29))
    have HV2 := Lib.hid ((HVb.out.below hb2).alloc (.cells #[.slice A2 x.askers.length c2] 29))
    have HR2 := Lib.hid ((HRb.out.below hb2).alloc (.cells #[.slice A2 x.askers.length c2] 29))
    have HO2 := Lib.hid (Blk.new w2 29 [.slice A2 x.askers.length c2])
    have E2 := Lib.hid (show (w2.alloc (.cells #[.slice A2 x.askers.length c2] 29)).heap.size = w2.heap.size + 1 by simp)
    clear ha2 ho2 hf2 hb2 cP fP cV fV cR fR HP HVb HRb HR
    obtain ⟨cP, fP⟩ := blk_rules HP2.out
    obtain ⟨cV, fV⟩ := blk_rules HV2.out
    obtain ⟨cR, fR⟩ := blk_rules HR2.out
    obtain ⟨cO, fO⟩ := blk_rules HO2.out
    go_wp2_with fail
    refine (sWho_calls x [_] who _ B (by rw [E2.out]; omega) (HX.out.below (HB3.out.mono hB))).mono ?_
    rintro e w3 ⟨r, rfl, hf, hb4⟩
    have HF := Lib.hid hf
    have HD3 := Lib.hid (OD.keep (w' := w3) _ _ _ (fun b hm => hb4.block b (by have := (HF2.out.2 b hm).2; rw [E2.out]; omega)) HD2.out)
    have HP3 := Lib.hid (HP2.out.below hb4)
    have HV3 := Lib.hid (HV2.out.below hb4)
    have HR3 := Lib.hid (HR2.out.below hb4)
    have HO3 := Lib.hid (HO2.out.below hb4)
    have hz3 := hb4.size
    rw [E2.out] at hz3
    have HB4 := Lib.hid (HB3.out.trans (hb4.mono (by rw [E2.out]; omega)))
    clear hf hb4 cP fP cV fV cR fR cO fO HP2 HV2 HR2 HO2 HD2 HB3
    obtain ⟨cP, fP⟩ := blk_rules HP3.out
    obtain ⟨cV, fV⟩ := blk_rules HV3.out
    obtain ⟨cR, fR⟩ := blk_rules HR3.out
    obtain ⟨cO, fO⟩ := blk_rules HO3.out
    by_cases tr : r < 0
    · have HN := Lib.hid (show PutIs x who nm v x 1 from .inr ⟨OKS.out, .inl ⟨HF.out.nonneg.1 tr, rfl, rfl⟩⟩)
      go_wp2
      refine bodyPost_ret (v := .tuple #[.agg #[.slice A2 x.askers.length c2], .int .i64 1]) (by simp [results, Try.results31, go_sem, cR]) rfl ?_
      exact PRes.of_od HN.out HD3.out HF2.out.1 (fun b hm => by have := (HF2.out.2 b hm).1; omega) (by omega) HB4.out
    obtain ⟨k, a, rfl, hlk, hdk, hfk⟩ := first_at (f := fun x : Asker => x.name) HF.out tr
    have HDK := Lib.hid hdk
    have HFK := Lib.hid hfk
    have HBAD := Lib.hid (show ¬ (NameOk nm ∧ ValOk v) → PutIs x who nm v x 3 from fun h => .inr ⟨OKS.out, .inr ⟨k, a, HDK.out, HFK.out, .inl ⟨h, rfl, rfl⟩⟩⟩)
    clear hdk hfk HF tr
    by_cases tn : NameOk nm
    case neg =>
      have HTN := Lib.hid tn
      clear tn
      go_wp2_with fail
      refine ((sName_calls nm _ hnm).mono fun e w' h => h.false_ HTN.out).mono ?_
      rintro e w4 ⟨rfl, rfl⟩
      go_wp2
      refine bodyPost_ret (v := .tuple #[.agg #[.slice A2 x.askers.length c2], .int .i64 3]) (by simp [results, Try.results31, go_sem, cR]) rfl ?_
      exact PRes.of_od (HBAD.out fun h => HTN.out h.1) HD3.out HF2.out.1 (fun b hm => by have := (HF2.out.2 b hm).1; omega) (by omega) HB4.out
    have HTN := Lib.hid tn
    clear tn
    go_wp2_with fail
    refine ((sName_calls nm _ hnm).mono fun e w' h => h.true_ HTN.out).mono ?_
    rintro e w4 ⟨rfl, rfl⟩
    go_wp2_with fail
    refine (sValOk_calls v [_, _, _, _, _] _ B (by omega) (HV.out.below (HB4.out.mono hB)) hCv).mono ?_
    rintro e w5 ⟨r5, rfl, hr5, hb5⟩
    have OKV := Lib.hid hr5
    have HD5 := Lib.hid (OD.keep (w' := w5) _ _ _ (fun b hm => hb5.block b (by have := (HF2.out.2 b hm).2; omega)) HD3.out)
    have HP5 := Lib.hid (HP3.out.below hb5)
    have HV5 := Lib.hid (HV3.out.below hb5)
    have HR5 := Lib.hid (HR3.out.below hb5)
    have HO5 := Lib.hid (HO3.out.below hb5)
    have hz5 := hb5.size
    have HB5 := Lib.hid (HB4.out.trans (hb5.mono (by omega)))
    clear hr5 hb5 cP fP cV fV cR fR cO fO HP3 HV3 HR3 HO3 HD3 HB4
    obtain ⟨cP, fP⟩ := blk_rules HP5.out
    obtain ⟨cV, fV⟩ := blk_rules HV5.out
    obtain ⟨cR, fR⟩ := blk_rules HR5.out
    obtain ⟨cO, fO⟩ := blk_rules HO5.out
    cases r5 with
    | false =>
      go_wp2
      refine bodyPost_ret (v := .tuple #[.agg #[.slice A2 x.askers.length c2], .int .i64 3]) (by simp [results, Try.results31, go_sem, cR]) rfl ?_
      exact PRes.of_od (HBAD.out fun h => by have := OKV.out.2 h.2; simp at this) HD5.out HF2.out.1 (fun b hm => by have := (HF2.out.2 b hm).1; omega) (by omega) HB5.out
    | true =>
      have hvok := OKV.out.1 rfl
      obtain ⟨g, t0, us0, us2, T, ct, fe, rfl, hl0, hBg, hT, hin, hnd, hgn, hnc, hns, hclose⟩ := asker_swap (drop_get HDK.out) HD5.out HF2.out.1
      have HCL := Lib.hid hclose
      have HBG := Lib.hid hBg
      have HIN := Lib.hid hin
      have HGN := Lib.hid hgn
      have HNS := Lib.hid hns
      have HT := Lib.hid hT
      have HND := Lib.hid hnd
      have HLT := Lib.hid (OD.lt _ _ _ hT)
      have hgb := (HF2.out.2 g (HIN.out g (by simp)))
      have hk0 : (k : Int) < (x.askers.length : Int) := by omega
      have hal : a.trees.length ≤ 4 := (OKS.out.1 a (List.mem_of_getElem? (drop_get HDK.out))).2.2.2.1
      have HOKS := Lib.hid (show ∀ y ∈ a.trees, ValOk y.v from fun y hy => (OKS.out.1 a (List.mem_of_getElem? (drop_get HDK.out))).2.2.2.2.1 y hy |>.2)
      have c0 : w5.cell? ⟨g, k * 4, none⟩ = some (.string a.name) := hBg.mid hl0 0 rfl
      have c1 : w5.cell? ⟨g, k * 4 + 1, none⟩ = some (.int .i64 a.most) := hBg.mid hl0 1 rfl
      have c2' : w5.cell? ⟨g, k * 4 + 2, none⟩ = some (.int .i64 a.fuel) := hBg.mid hl0 2 rfl
      have c3 : w5.cell? ⟨g, k * 4 + 3, none⟩ = some (.slice T a.trees.length ct) := hBg.mid hl0 3 rfl
      clear hclose hBg hin hgn hns hT hnd
      have HL0 := Lib.hid hl0
      have HCC := Lib.hid (show Closes w5 x k g t0 us0 us2 (some ⟨g, 0, none⟩) c2 f2 fe from HCL.out)
      have kS := Lib.hid (show ∀ w' : World, Below w5.heap.size w5 w' → (w'.cell? ⟨w2.heap.size, 0, none⟩ = some (.slice (some ⟨g, 0, none⟩) x.askers.length c2) ∧ w'.cell? ⟨g, k * 4, none⟩ = some (.string a.name) ∧ w'.cell? ⟨g, k * 4 + 1, none⟩ = some (.int .i64 a.most) ∧ w'.cell? ⟨g, k * 4 + 2, none⟩ = some (.int .i64 a.fuel) ∧ w'.cell? ⟨g, k * 4 + 3, none⟩ = some (.slice T a.trees.length ct) ∧ w'.cell? ⟨w.heap.size + 1, 0, none⟩ = some (.int .i64 b0) ∧ w'.cell? ⟨w.heap.size + 1, 1, none⟩ = some (.int .i64 b1) ∧ w'.cell? ⟨w.heap.size + 1, 2, none⟩ = some (.string b2) ∧ w'.cell? ⟨w.heap.size + 1, 3, none⟩ = some (.slice A5 n5 q5) ∧ w'.cell? ⟨w.heap.size + 1, 4, none⟩ = some (.slice A6 n6 q6)) from fun w' hb => ⟨(HO5.out.below hb).cell 0, (HBG.out.below hb).mid HL0.out 0 rfl, (HBG.out.below hb).mid HL0.out 1 rfl, (HBG.out.below hb).mid HL0.out 2 rfl, (HBG.out.below hb).mid HL0.out 3 rfl, (HV5.out.below hb).cell 0, (HV5.out.below hb).cell 1, (HV5.out.below hb).cell 2, (HV5.out.below hb).cell 3, (HV5.out.below hb).cell 4⟩)
      have gA := Lib.hid (show Below w5.heap.size w5 w5.drew from (Below.refl _ _).drew)
      have gG := Lib.hid (show Below w5.heap.size w5 (w5.alloc (.cells #[.string ⟨#[]⟩, .int .i64 0, .int .i64 0, .slice none 0 0] 61)).drew from (below_box w5 _).drew)
      have kA := Lib.hid (kS.out _ gA.out)
      have kG := Lib.hid (kS.out _ gG.out)
      have HV5' := Lib.hid (HV.out.below (HB5.out.mono hB))
      have hB5 : B ≤ w5.heap.size := by omega
      go_upto_region 9 with fail
      go_region_held3 (fun w' => w'.cell? ⟨w2.heap.size, 0, none⟩ = some (.slice (some ⟨g, 0, none⟩) x.askers.length c2) ∧ w'.cell? ⟨g, k * 4, none⟩ = some (.string a.name) ∧ w'.cell? ⟨g, k * 4 + 1, none⟩ = some (.int .i64 a.most) ∧ w'.cell? ⟨g, k * 4 + 2, none⟩ = some (.int .i64 a.fuel) ∧ w'.cell? ⟨g, k * 4 + 3, none⟩ = some (.slice T a.trees.length ct) ∧ w'.cell? ⟨w.heap.size + 1, 0, none⟩ = some (.int .i64 b0) ∧ w'.cell? ⟨w.heap.size + 1, 1, none⟩ = some (.int .i64 b1) ∧ w'.cell? ⟨w.heap.size + 1, 2, none⟩ = some (.string b2) ∧ w'.cell? ⟨w.heap.size + 1, 3, none⟩ = some (.slice A5 n5 q5) ∧ w'.cell? ⟨w.heap.size + 1, 4, none⟩ = some (.slice A6 n6 q6))
        (first | (with_reducible exact kA.out) | (with_reducible exact kB.out) | (with_reducible exact kC.out) | (with_reducible exact kD.out) | (with_reducible exact kE.out) | (with_reducible exact kF.out) | (with_reducible exact kG.out) | (with_reducible exact kH.out) | (with_reducible exact kI.out) | fail "keep")
        (first
          | (go_at_call 50; (refine (copy_at hB5 HV5'.out HSV.out (by first | (with_reducible exact gA.out) | (with_reducible exact gG.out))).mono ?_); rintro e w6 ⟨vs, fp, rfl, hO6, hF6, hb6⟩; obtain ⟨d0, d1, d2, A8, n8, q8, A9, n9, q9, rfl⟩ := valDs_shape hO6.rd'; (first | (have hbB := Lib.hid (gA.out.trans (hb6.mono gA.out.size)); have HB6 := hbB; clear hbB) | (have hbB := Lib.hid (gG.out.trans (hb6.mono gG.out.size)); have HB6 := hbB; clear hbB; have HXA := Lib.hid (show Blk w6 w5.heap.size 61 [.string ⟨#[]⟩, .int .i64 0, .int .i64 0, .slice none 0 0] from (Blk.new w5 _ [.string ⟨#[]⟩, .int .i64 0, .int .i64 0, .slice none 0 0]).drew.below hb6)) | fail "x6"); have HV6 := Lib.hid hO6; have HF6 := Lib.hid hF6; have hff := Lib.hid (show fp.Nodup ∧ ∀ b ∈ fp, w5.heap.size ≤ b from ⟨hF6.1, fun b hb => Nat.le_trans (by first | exact Nat.le_refl _ | (simp <;> omega)) (hF6.2 b hb).1⟩); have kB := Lib.hid (kS.out w6 HB6.out); have gF := Lib.hid (below_box w6 (.cells #[.string ⟨#[]⟩, .int .i64 0, .int .i64 0, .slice none 0 0] 61)); have kF := Lib.hid (kS.out (w6.alloc (.cells #[.string ⟨#[]⟩, .int .i64 0, .int .i64 0, .slice none 0 0] 61)) (HB6.out.trans (gF.out.mono HB6.out.size))); have gR := Lib.hid (Below.refl w6.heap.size w6); clear hO6 hF6 hb6)
          | (go_at_call 68; (refine (keep_at HT.out HND.out HV6.out hff.out HNS.out hnm HOKS.out hvok hal HB6.out (by first | (with_reducible exact gR.out) | (with_reducible exact gF.out))).mono ?_); rintro e w7 ⟨As, ns, qs, c7, rfl, hk7, hb7⟩; have HK7 := Lib.hid hk7; (first | (have hbB := Lib.hid (gR.out.trans hb7); have HB67 := hbB; clear hbB; (first | (have HXA7 := Lib.hid (HXA.out.below hb7); obtain ⟨cX, fX⟩ := blk_rules HXA7.out) | skip)) | (have hbB := Lib.hid (gF.out.trans (hb7.mono gF.out.size)); have HB67 := hbB; clear hbB; have HXB7 := Lib.hid (show Blk w7 w6.heap.size 61 [.string ⟨#[]⟩, .int .i64 0, .int .i64 0, .slice none 0 0] from (Blk.new w6 _ [.string ⟨#[]⟩, .int .i64 0, .int .i64 0, .slice none 0 0]).below hb7); obtain ⟨cX, fX⟩ := blk_rules HXB7.out) | fail "x7"); have HB7 := Lib.hid (HB6.out.trans (HB67.out.mono HB6.out.size)); have kC := Lib.hid (kS.out w7 HB7.out); have kD := Lib.hid (kS.out (w7.alloc (.cells #[.string a.name, .int .i64 a.most, .int .i64 a.fuel, .slice As ns qs] 61)) (HB7.out.trans ((below_box w7 _).mono HB7.out.size))); have kE := Lib.hid (kS.out (w7.alloc (.cells #[.string ⟨#[]⟩, .int .i64 0, .int .i64 0, .slice none 0 0] 61)) (HB7.out.trans ((below_box w7 _).mono HB7.out.size))); have kH := Lib.hid (kS.out ((((w7.setCell ⟨w5.heap.size, 0, none⟩ (.string a.name)).setCell ⟨w5.heap.size, 1, none⟩ (.int .i64 a.most)).setCell ⟨w5.heap.size, 2, none⟩ (.int .i64 a.fuel)).setCell ⟨w5.heap.size, 3, none⟩ (.slice As ns qs)) (setAll_below (o := 0) [_, _, _, _] (Nat.le_refl _) HB7.out)); have kI := Lib.hid (kS.out ((((w7.setCell ⟨w6.heap.size, 0, none⟩ (.string a.name)).setCell ⟨w6.heap.size, 1, none⟩ (.int .i64 a.most)).setCell ⟨w6.heap.size, 2, none⟩ (.int .i64 a.fuel)).setCell ⟨w6.heap.size, 3, none⟩ (.slice As ns qs)) (setAll_below (o := 0) [_, _, _, _] HB6.out.size HB7.out)); clear hk7 hb7)
          | fail "no arm")
      · obtain ⟨bx, ebx⟩ : ∃ b : Nat, b = w7.heap.size := ⟨_, rfl⟩
        obtain ⟨Wf, ef⟩ : ∃ W : World, W = w7.alloc (.cells #[.string a.name, .int .i64 a.most, .int .i64 a.fuel, .slice As ns qs] 61) := ⟨_, rfl⟩
        have HBf := Lib.hid (show Below w5.heap.size w5 Wf from by rw [ef]; exact HB7.out.trans ((below_box w7 _).mono HB7.out.size))
        have HXf := Lib.hid (show Blk Wf bx 61 [.string a.name, .int .i64 a.most, .int .i64 a.fuel, .slice As ns qs] from by rw [ef, ebx]; exact Blk.new w7 _ _)
        have HKf := Lib.hid (show KeepIs a nm v (.slice T a.trees.length ct) fe [] w5 Wf (.slice As ns qs) c7 from by rw [ef]; exact keep_into HK7.out (fun b _ hlt => Below.heap_alloc _ _ _ hlt) hff.out.2 HB6.out.size)
        have hbx5 : w5.heap.size ≤ bx := by have := HB7.out.size; omega
        rw [← ef, ← ebx]
        clear ef ebx cP fP cV fV cR fR cO fO c0 c1 c2' c3 kA kB kC kD kE kF kG kH kI gA gF gG gR HK7 hff HF6 HB67 HB7 HV6 HV5'
        have HOf := Lib.hid (HO5.out.below HBf.out)
        have HRf := Lib.hid (HR5.out.below HBf.out)
        have HGf := Lib.hid (HBG.out.below HBf.out)
        have HBw := Lib.hid (HB5.out.trans (HBf.out.mono HB5.out.size))
        have hzf := HBf.out.size
        have g0 : Wf.cell? ⟨g, k * 4, none⟩ = some (.string a.name) := HGf.out.mid hl0 0 rfl
        have g1 : Wf.cell? ⟨g, k * 4 + 1, none⟩ = some (.int .i64 a.most) := HGf.out.mid hl0 1 rfl
        have g2 : Wf.cell? ⟨g, k * 4 + 2, none⟩ = some (.int .i64 a.fuel) := HGf.out.mid hl0 2 rfl
        have g3 : Wf.cell? ⟨g, k * 4 + 3, none⟩ = some (.slice T a.trees.length ct) := HGf.out.mid hl0 3 rfl
        have gf : ∀ i, Wf.frozen? ⟨g, i, none⟩ = false := HGf.out.frozen
        obtain ⟨cO, fO⟩ := blk_rules HOf.out
        obtain ⟨cR, fR⟩ := blk_rules HRf.out
        obtain ⟨cX, fX⟩ := blk_rules HXf.out
        have hgO : w2.heap.size ≠ g := by omega
        have hgR : w.heap.size + 1 + 1 ≠ g := by omega
        have hgX : bx ≠ g := by have := HBG.out.lt; omega
        have HRg := Lib.hid (show Blk ((((Wf.setCell ⟨g, k * 4, none⟩ (.string a.name)).setCell ⟨g, k * 4 + 1, none⟩ (.int .i64 a.most)).setCell ⟨g, k * 4 + 2, none⟩ (.int .i64 a.fuel)).setCell ⟨g, k * 4 + 3, none⟩ (.slice As ns qs)) (w.heap.size + 1 + 1) _ _ from HRf.out.same (setAll_other [_, _, _, _] Wf g (k * 4) _ hgR))
        have hkR := HRg.out.cell 0
        obtain ⟨y, fp', hN, hO', hN', hI'⟩ := put_end4 HCC.out HNS.out hl0 HBG.out.lt HGN.out HBG.out rfl HBf.out HT.out HND.out OKS.out HDK.out HFK.out ⟨HTN.out, hvok⟩ HKf.out
        have HOO := Lib.hid (show OD ((((Wf.setCell ⟨g, k * 4, none⟩ (.string a.name)).setCell ⟨g, k * 4 + 1, none⟩ (.int .i64 a.most)).setCell ⟨g, k * 4 + 2, none⟩ (.int .i64 a.fuel)).setCell ⟨g, k * 4 + 3, none⟩ (.slice As ns qs)) _ _ fp' from hO')
        have HN := Lib.hid hN
        have HNN := Lib.hid hN'
        have HII := Lib.hid hI'
        have HB8 := Lib.hid (show Below w.heap.size w ((((Wf.setCell ⟨g, k * 4, none⟩ (.string a.name)).setCell ⟨g, k * 4 + 1, none⟩ (.int .i64 a.most)).setCell ⟨g, k * 4 + 2, none⟩ (.int .i64 a.fuel)).setCell ⟨g, k * 4 + 3, none⟩ (.slice As ns qs)) from setAll_below (o := k * 4) [_, _, _, _] (by omega) HBw.out)
        clear hN hO' hN' hI' HKf
        go_wp2
        refine bodyPost_ret (v := .tuple #[.agg #[.slice (some ⟨g, 0, none⟩) x.askers.length c2], .int .i64 c7]) (by simp [results, Try.results31, go_sem, hkR]) rfl ?_
        refine PRes.of_od HN.out (f := fp') HOO.out HNN.out (fun b hm => ?_) (by omega) HB8.out
        rcases HII.out b hm with h | h
        · have := (HF2.out.2 b h).1; omega
        · omega
      · obtain ⟨bx, ebx⟩ : ∃ b : Nat, b = w6.heap.size := ⟨_, rfl⟩
        obtain ⟨Wf, ef⟩ : ∃ W : World, W = ((((w7.setCell ⟨w6.heap.size, 0, none⟩ (.string a.name)).setCell ⟨w6.heap.size, 1, none⟩ (.int .i64 a.most)).setCell ⟨w6.heap.size, 2, none⟩ (.int .i64 a.fuel)).setCell ⟨w6.heap.size, 3, none⟩ (.slice As ns qs)) := ⟨_, rfl⟩
        have hbx5 : w5.heap.size ≤ bx := by have := HB6.out.size; omega
        have HBf := Lib.hid (show Below w5.heap.size w5 Wf from by rw [ef]; exact setAll_below (o := 0) [_, _, _, _] (by omega) HB7.out)
        have HXf := Lib.hid (show Blk Wf bx 61 [.string a.name, .int .i64 a.most, .int .i64 a.fuel, .slice As ns qs] from by rw [ef, ebx]; exact (((HXB7.out.set_ 0 _).set_ 1 _).set_ 2 _).set_ 3 _)
        have HKf := Lib.hid (show KeepIs a nm v (.slice T a.trees.length ct) fe [] w5 Wf (.slice As ns qs) c7 from by
          rw [ef]
          refine keep_into HK7.out (fun b h _ => setAll_other [_, _, _, _] w7 w6.heap.size 0 b ?_) hff.out.2 (by have := HB6.out.size; have := gF.out.size; omega)
          rcases h with h | h | h
          · have := HLT.out b h; have := HB6.out.size; omega
          · have := (HF6.out.2 b h).2; omega
          · (have h2 : (w6.alloc (.cells #[.string ⟨#[]⟩, .int .i64 0, .int .i64 0, .slice none 0 0] 61)).heap.size ≤ b := h; simp at h2; omega))
        rw [← ef, ← ebx]
        clear ef ebx cP fP cV fV cR fR cO fO c0 c1 c2' c3 kA kB kC kD kE kF kG kH kI gA gF gG gR HK7 hff HF6 HB67 HB7 HV6 HV5'
        have HOf := Lib.hid (HO5.out.below HBf.out)
        have HRf := Lib.hid (HR5.out.below HBf.out)
        have HGf := Lib.hid (HBG.out.below HBf.out)
        have HBw := Lib.hid (HB5.out.trans (HBf.out.mono HB5.out.size))
        have hzf := HBf.out.size
        have g0 : Wf.cell? ⟨g, k * 4, none⟩ = some (.string a.name) := HGf.out.mid hl0 0 rfl
        have g1 : Wf.cell? ⟨g, k * 4 + 1, none⟩ = some (.int .i64 a.most) := HGf.out.mid hl0 1 rfl
        have g2 : Wf.cell? ⟨g, k * 4 + 2, none⟩ = some (.int .i64 a.fuel) := HGf.out.mid hl0 2 rfl
        have g3 : Wf.cell? ⟨g, k * 4 + 3, none⟩ = some (.slice T a.trees.length ct) := HGf.out.mid hl0 3 rfl
        have gf : ∀ i, Wf.frozen? ⟨g, i, none⟩ = false := HGf.out.frozen
        obtain ⟨cO, fO⟩ := blk_rules HOf.out
        obtain ⟨cR, fR⟩ := blk_rules HRf.out
        obtain ⟨cX, fX⟩ := blk_rules HXf.out
        have hgO : w2.heap.size ≠ g := by omega
        have hgR : w.heap.size + 1 + 1 ≠ g := by omega
        have hgX : bx ≠ g := by have := HBG.out.lt; omega
        have HRg := Lib.hid (show Blk ((((Wf.setCell ⟨g, k * 4, none⟩ (.string a.name)).setCell ⟨g, k * 4 + 1, none⟩ (.int .i64 a.most)).setCell ⟨g, k * 4 + 2, none⟩ (.int .i64 a.fuel)).setCell ⟨g, k * 4 + 3, none⟩ (.slice As ns qs)) (w.heap.size + 1 + 1) _ _ from HRf.out.same (setAll_other [_, _, _, _] Wf g (k * 4) _ hgR))
        have hkR := HRg.out.cell 0
        obtain ⟨y, fp', hN, hO', hN', hI'⟩ := put_end4 HCC.out HNS.out hl0 HBG.out.lt HGN.out HBG.out rfl HBf.out HT.out HND.out OKS.out HDK.out HFK.out ⟨HTN.out, hvok⟩ HKf.out
        have HOO := Lib.hid (show OD ((((Wf.setCell ⟨g, k * 4, none⟩ (.string a.name)).setCell ⟨g, k * 4 + 1, none⟩ (.int .i64 a.most)).setCell ⟨g, k * 4 + 2, none⟩ (.int .i64 a.fuel)).setCell ⟨g, k * 4 + 3, none⟩ (.slice As ns qs)) _ _ fp' from hO')
        have HN := Lib.hid hN
        have HNN := Lib.hid hN'
        have HII := Lib.hid hI'
        have HB8 := Lib.hid (show Below w.heap.size w ((((Wf.setCell ⟨g, k * 4, none⟩ (.string a.name)).setCell ⟨g, k * 4 + 1, none⟩ (.int .i64 a.most)).setCell ⟨g, k * 4 + 2, none⟩ (.int .i64 a.fuel)).setCell ⟨g, k * 4 + 3, none⟩ (.slice As ns qs)) from setAll_below (o := k * 4) [_, _, _, _] (by omega) HBw.out)
        clear hN hO' hN' hI' HKf
        go_wp2
        refine bodyPost_ret (v := .tuple #[.agg #[.slice (some ⟨g, 0, none⟩) x.askers.length c2], .int .i64 c7]) (by simp [results, Try.results31, go_sem, hkR]) rfl ?_
        refine PRes.of_od HN.out (f := fp') HOO.out HNN.out (fun b hm => ?_) (by omega) HB8.out
        rcases HII.out b hm with h | h
        · have := (HF2.out.2 b h).1; omega
        · omega
      · obtain ⟨bx, ebx⟩ : ∃ b : Nat, b = w5.heap.size := ⟨_, rfl⟩
        obtain ⟨Wf, ef⟩ : ∃ W : World, W = ((((w7.setCell ⟨w5.heap.size, 0, none⟩ (.string a.name)).setCell ⟨w5.heap.size, 1, none⟩ (.int .i64 a.most)).setCell ⟨w5.heap.size, 2, none⟩ (.int .i64 a.fuel)).setCell ⟨w5.heap.size, 3, none⟩ (.slice As ns qs)) := ⟨_, rfl⟩
        have hbx5 : w5.heap.size ≤ bx := by have := HB6.out.size; omega
        have HBf := Lib.hid (show Below w5.heap.size w5 Wf from by rw [ef]; exact setAll_below (o := 0) [_, _, _, _] (by omega) HB7.out)
        have HXf := Lib.hid (show Blk Wf bx 61 [.string a.name, .int .i64 a.most, .int .i64 a.fuel, .slice As ns qs] from by rw [ef, ebx]; exact (((HXA7.out.set_ 0 _).set_ 1 _).set_ 2 _).set_ 3 _)
        have HKf := Lib.hid (show KeepIs a nm v (.slice T a.trees.length ct) fe [] w5 Wf (.slice As ns qs) c7 from by
          rw [ef]
          refine keep_into HK7.out (fun b h _ => setAll_other [_, _, _, _] w7 w5.heap.size 0 b ?_) hff.out.2 HB6.out.size
          rcases h with h | h | h
          · have := HLT.out b h; have := HB6.out.size; omega
          · have h2 : (w5.alloc (.cells #[.string ⟨#[]⟩, .int .i64 0, .int .i64 0, .slice none 0 0] 61)).heap.size ≤ b := (HF6.out.2 b h).1; simp at h2; omega
          · (have := HXA.out.lt; omega))
        rw [← ef, ← ebx]
        clear ef ebx cP fP cV fV cR fR cO fO c0 c1 c2' c3 kA kB kC kD kE kF kG kH kI gA gF gG gR HK7 hff HF6 HB67 HB7 HV6 HV5'
        have HOf := Lib.hid (HO5.out.below HBf.out)
        have HRf := Lib.hid (HR5.out.below HBf.out)
        have HGf := Lib.hid (HBG.out.below HBf.out)
        have HBw := Lib.hid (HB5.out.trans (HBf.out.mono HB5.out.size))
        have hzf := HBf.out.size
        have g0 : Wf.cell? ⟨g, k * 4, none⟩ = some (.string a.name) := HGf.out.mid hl0 0 rfl
        have g1 : Wf.cell? ⟨g, k * 4 + 1, none⟩ = some (.int .i64 a.most) := HGf.out.mid hl0 1 rfl
        have g2 : Wf.cell? ⟨g, k * 4 + 2, none⟩ = some (.int .i64 a.fuel) := HGf.out.mid hl0 2 rfl
        have g3 : Wf.cell? ⟨g, k * 4 + 3, none⟩ = some (.slice T a.trees.length ct) := HGf.out.mid hl0 3 rfl
        have gf : ∀ i, Wf.frozen? ⟨g, i, none⟩ = false := HGf.out.frozen
        obtain ⟨cO, fO⟩ := blk_rules HOf.out
        obtain ⟨cR, fR⟩ := blk_rules HRf.out
        obtain ⟨cX, fX⟩ := blk_rules HXf.out
        have hgO : w2.heap.size ≠ g := by omega
        have hgR : w.heap.size + 1 + 1 ≠ g := by omega
        have hgX : bx ≠ g := by have := HBG.out.lt; omega
        have HRg := Lib.hid (show Blk ((((Wf.setCell ⟨g, k * 4, none⟩ (.string a.name)).setCell ⟨g, k * 4 + 1, none⟩ (.int .i64 a.most)).setCell ⟨g, k * 4 + 2, none⟩ (.int .i64 a.fuel)).setCell ⟨g, k * 4 + 3, none⟩ (.slice As ns qs)) (w.heap.size + 1 + 1) _ _ from HRf.out.same (setAll_other [_, _, _, _] Wf g (k * 4) _ hgR))
        have hkR := HRg.out.cell 0
        obtain ⟨y, fp', hN, hO', hN', hI'⟩ := put_end4 HCC.out HNS.out hl0 HBG.out.lt HGN.out HBG.out rfl HBf.out HT.out HND.out OKS.out HDK.out HFK.out ⟨HTN.out, hvok⟩ HKf.out
        have HOO := Lib.hid (show OD ((((Wf.setCell ⟨g, k * 4, none⟩ (.string a.name)).setCell ⟨g, k * 4 + 1, none⟩ (.int .i64 a.most)).setCell ⟨g, k * 4 + 2, none⟩ (.int .i64 a.fuel)).setCell ⟨g, k * 4 + 3, none⟩ (.slice As ns qs)) _ _ fp' from hO')
        have HN := Lib.hid hN
        have HNN := Lib.hid hN'
        have HII := Lib.hid hI'
        have HB8 := Lib.hid (show Below w.heap.size w ((((Wf.setCell ⟨g, k * 4, none⟩ (.string a.name)).setCell ⟨g, k * 4 + 1, none⟩ (.int .i64 a.most)).setCell ⟨g, k * 4 + 2, none⟩ (.int .i64 a.fuel)).setCell ⟨g, k * 4 + 3, none⟩ (.slice As ns qs)) from setAll_below (o := k * 4) [_, _, _, _] (by omega) HBw.out)
        clear hN hO' hN' hI' HKf
        go_wp2
        refine bodyPost_ret (v := .tuple #[.agg #[.slice (some ⟨g, 0, none⟩) x.askers.length c2], .int .i64 c7]) (by simp [results, Try.results31, go_sem, hkR]) rfl ?_
        refine PRes.of_od HN.out (f := fp') HOO.out HNN.out (fun b hm => ?_) (by omega) HB8.out
        rcases HII.out b hm with h | h
        · have := (HF2.out.2 b h).1; omega
        · omega
end Go.Proofs.Ytppfgepoegicgaa
