/- ShelfDrop: the program's answer. -/
import Derived.Test.YtppfgepoegicgaaZDropDef
import Derived.Test.YtppfgepoegicgaaZDelK
namespace Go.Proofs.Ytppfgepoegicgaa
open Go Go.RowKit

set_option maxRecDepth 100000 in
set_option maxHeartbeats 4000000 in
theorem iDrop_calls (x : Shelf) (us : List Value) (who nm : ByteArray) (w : World) (B : Nat) (hB : B ≤ w.heap.size) (h : RDv w B (shelfDs x) us) (hsm : SmallDs (shelfDs x)) :
    Calls Try.prog 29 #[.agg us.toArray, .string who, .string nm] w (PRes (DropIs x who nm) w) := by
  obtain ⟨A, c, rfl, hl⟩ := shelfDs_open h
  have HX := Lib.hid h
  have HSM := Lib.hid hsm
  have hn2 := hl.len
  have hln : x.askers.length ≤ 1048576 := hsm.1.1
  clear h hl hsm
  obtain ⟨iK, hiK, zK0, zK1, zK2⟩ := info_parts' Try.info_Kept
  have hbx := fun o1 o2 => below_box2 w o1 o2
  go_enter Try.func29, Try.ntmps29
  go_wp2_with fail
  refine (iShelfOk_calls x [_] _ B (Nat.le_trans hB (hbx _ _).size) (HX.out.below ((hbx _ _).mono hB))).mono ?_
  rintro e w1 ⟨r1, rfl, hr1, hb1⟩
  have HR := Lib.hid hr1
  obtain ⟨hb, hz, bP, bR⟩ := boxes2 (P := [_]) (R := [_]) (boxes2_of hb1)
  obtain ⟨cP, fP⟩ := blk_rules bP
  obtain ⟨cR, fR⟩ := blk_rules bR
  have HP := Lib.hid bP
  have HRb := Lib.hid bR
  clear hr1 hb1 bP bR hbx
  cases r1 with
  | false =>
    have HN := Lib.hid (show DropIs x who nm ⟨[]⟩ 5 from .inl ⟨fun h => absurd (HR.out.2 h) (by simp), rfl, rfl⟩)
    go_wp2
    refine bodyPost_ret (v := .tuple #[.agg #[.slice none 0 0], .int .i64 5]) (by simp [results, Try.results29, go_sem, cR]) rfl ?_
    exact PRes.empty HN.out (hb.setCell (by show w.heap.size ≤ w.heap.size + 1; omega) _)
  | true =>
    have OKS := Lib.hid (HR.out.1 rfl)
    go_wp2_with fail
    refine (cloneShelf_calls x [_] _ B (by omega) (HX.out.below (hb.mono hB)) HSM.out).mono ?_
    rintro e w2 ⟨v2, g2, rfl, ha2, hb2⟩
    obtain ⟨f2, ho2, hf2⟩ := ha2.done (w := w1) (Nat.le_refl _)
    obtain ⟨A2, c2, rfl⟩ := od_shape ho2
    have hz2 := hb2.size
    have HF2 := Lib.hid hf2
    have HD2 := Lib.hid (OD.keep (w' := w2.alloc (.cells #[.slice A2 x.askers.length c2] 29)) _ _ _ (fun b hm => Below.heap_alloc w2 _ b (hf2.2 b hm).2) ho2)
    have HB3 := Lib.hid ((hb.trans (hb2.mono (by omega))).trans ((below_box w2 (.cells #[.slice A2 x.askers.length c2] 29)).mono (by omega)))
    have HP2 := Lib.hid ((HP.out.below hb2).alloc (.cells #[.slice A2 x.askers.length c2] 29))
    have HR2 := Lib.hid ((HRb.out.below hb2).alloc (.cells #[.slice A2 x.askers.length c2] 29))
    have HO2 := Lib.hid (Blk.new w2 29 [.slice A2 x.askers.length c2])
    have E2 := Lib.hid (show (w2.alloc (.cells #[.slice A2 x.askers.length c2] 29)).heap.size = w2.heap.size + 1 by simp)
    clear ha2 ho2 hf2 hb2 cP fP cR fR HP HRb HR
    obtain ⟨cP, fP⟩ := blk_rules HP2.out
    obtain ⟨cR, fR⟩ := blk_rules HR2.out
    obtain ⟨cO, fO⟩ := blk_rules HO2.out
    go_wp2_with fail
    refine (iFind_calls x [_] who nm _ B (by rw [E2.out]; omega) (HX.out.below (HB3.out.mono hB))).mono ?_
    rintro e w4 ⟨i, j, b, rfl, hf, hb4⟩
    have HD4 := Lib.hid (OD.keep (w' := w4) _ _ _ (fun b hm => hb4.block b (by have := (HF2.out.2 b hm).2; rw [E2.out]; omega)) HD2.out)
    have HP4 := Lib.hid (HP2.out.below hb4)
    have HR4 := Lib.hid (HR2.out.below hb4)
    have HO4 := Lib.hid (HO2.out.below hb4)
    have hz4 := hb4.size
    rw [E2.out] at hz4
    have HB4 := Lib.hid (HB3.out.trans (hb4.mono (by rw [E2.out]; omega)))
    have HF := Lib.hid hf
    clear hf hb4 cP fP cR fR cO fO HP2 HR2 HO2 HD2
    obtain ⟨cP, fP⟩ := blk_rules HP4.out
    obtain ⟨cR, fR⟩ := blk_rules HR4.out
    obtain ⟨cO, fO⟩ := blk_rules HO4.out
    cases b with
    | false =>
      have HN := Lib.hid (show DropIs x who nm x 1 by
        rcases HF.out with ⟨_, h⟩ | ⟨k, a, h1, _, h2, _, ⟨_, h3⟩ | ⟨_, _, _, _, _, _, h⟩⟩
        · exact .inr ⟨OKS.out, .inl ⟨h, rfl, rfl⟩⟩
        · exact .inr ⟨OKS.out, .inr ⟨k, a, h1, h2, .inl ⟨h3, rfl, rfl⟩⟩⟩
        · cases h)
      go_wp2
      refine bodyPost_ret (v := .tuple #[.agg #[.slice A2 x.askers.length c2], .int .i64 1]) (by simp [results, Try.results29, go_sem, cR]) rfl ?_
      exact PRes.of_od HN.out HD4.out HF2.out.1 (fun b hm => by have := (HF2.out.2 b hm).1; omega) (by omega) HB4.out
    | true =>
      obtain ⟨k, a, m, hd, hk, hfk, hm, hfm, rfl, rfl⟩ : ∃ (k : Nat) (a : Asker) (m : Nat), x.askers.drop k = a :: x.askers.drop (k + 1) ∧ k < x.askers.length ∧ Hid (First (x.askers.map (·.name)) who k) ∧ m < a.trees.length ∧ Hid (First (a.trees.map (·.name)) nm m) ∧ i = k ∧ j = m := by
        rcases HF.out with ⟨h, _⟩ | ⟨k, a, h1, h2, h3, rfl, ⟨h, _⟩ | ⟨m, t, h4, h5, h6, rfl, _⟩⟩
        · cases h
        · cases h
        · exact ⟨k, a, m, h1, h2, h3, h5, h6, rfl, rfl⟩
      have HN := Lib.hid (show DropIs x who nm ⟨x.askers.set k (without a m)⟩ 0 from .inr ⟨OKS.out, .inr ⟨k, a, hd, hfk.out, .inr ⟨m, hfm.out, rfl, rfl⟩⟩⟩)
      obtain ⟨g, t0, us0, us2, T, ct, fe, rfl, hl0, hBg, hT, hin, hnd, hgn, hnc, hns, hclose⟩ := asker_swap (drop_get hd) HD4.out HF2.out.1
      obtain ⟨g', ty, vs0, ve, vs2, sp, fk, rfl, hnt, hBk, hv0, hve, hv2, hvs, hfn, hff, hgf⟩ := kept_out rfl hm hT hnd
      have HCL := Lib.hid hclose
      have HBG := Lib.hid hBg
      have HBK := Lib.hid hBk
      have HVS := Lib.hid hvs
      have HFN := Lib.hid hfn
      have HFF := Lib.hid hff
      have HIN := Lib.hid hin
      have HGN := Lib.hid hgn
      have HGF := Lib.hid hgf
      have HNS := Lib.hid hns
      have hlT := Lib.hid (OD.lt _ _ _ hT)
      have c3 : w4.cell? ⟨g, k * 4 + 3, none⟩ = some (.slice (some ⟨g', 0, none⟩) a.trees.length ct) := hBg.mid hl0 3 rfl
      have hgb := (HF2.out.2 g (HIN.out g (by simp)))
      have hgb' := (HF2.out.2 g' (HIN.out g' (by simp [hgf])))
      have hk0 : (k : Int) < (x.askers.length : Int) := by omega
      have HONE := Lib.hid (RDv.one _ _ hvs.rd')
      have hml : a.trees.length ≤ 1048576 := by
        have h1 := smallDs_mem_asker HSM.out.1.2 (List.mem_of_getElem? (drop_get hd))
        simp only [askerDs, SmallDs, SmallD] at h1
        omega
      clear hd hclose hBg hBk hvs hfn hff hin hgn hgf hns hT hnd HF
      go_wp2_with fail
      refine (delete_calls g' ty a.trees.length ct m vs0 ve vs2 sp w4 HBK.out hv0 hve hv2 hm hnt (fun u hu => HONE.out u (List.mem_append_right _ hu))).mono ?_
      rintro e w5 ⟨rfl, hdel, hu5⟩
      have HDEL := Lib.hid hdel
      have HU5 := Lib.hid hu5
      have hz5 := hu5.size
      have hgg : g ≠ g' := fun e => HGN.out (e ▸ HGF.out)
      clear hdel hu5 cP fP cR fR cO fO c3
      have HP5 := Lib.hid (HU5.out.blk (by simp; omega) HP4.out)
      have HR5 := Lib.hid (HU5.out.blk (by simp; omega) HR4.out)
      have HO5 := Lib.hid (HU5.out.blk (by simp; omega) HO4.out)
      have HG5 := Lib.hid (HU5.out.blk (by simpa using hgg) HBG.out)
      have c3 : w5.cell? ⟨g, k * 4 + 3, none⟩ = some (.slice (some ⟨g', 0, none⟩) a.trees.length ct) := HG5.out.mid hl0 3 rfl
      have f3 : w5.frozen? ⟨g, k * 4 + 3, none⟩ = false := HG5.out.frozen _
      obtain ⟨cO, fO⟩ := blk_rules HO5.out
      have HOWN := Lib.hid (show ((w5.alloc (.cells #[] 70)).drew).ownsRow w5.heap.size 70 6 (.slice (some ⟨w5.heap.size, 0, none⟩) 0 0) 0 [] from World.ownsRow_made w5 #[] 0 (Nat.le_refl _) (by unfold maxLen; omega) (by simp))
      have HRDS := Lib.hid (show Reads ((w5.alloc (.cells #[] 70)).drew) w5.heap.size 6 (some ⟨g', 0, none⟩) (a.trees.length - 1) (vs0 ++ vs2) from by
        obtain ⟨⟨cs', hb⟩, _⟩ : (∃ cs', Blk w5 g' ty (vs0 ++ (vs2 ++ cs'))) ∧ True := ⟨HDEL.out, trivial⟩
        refine ⟨by simp only [List.length_append]; omega, fun _ => ⟨_, rfl, by show g' < _; omega, fun j u hj => ?_⟩⟩
        have hadd : (⟨g', 0, none⟩ : Addr).add j = ⟨g', j, none⟩ := by unfold Addr.add; split <;> simp_all
        rw [hadd, ((hb.alloc _).drew).cell, ← List.append_assoc, List.getElem?_append_left (List.getElem?_eq_some_iff.1 hj).1]
        exact hj)
      clear cO fO
      have kO5 := Lib.hid (show w5.drew.cell? ⟨w2.heap.size, 0, none⟩ = some (.slice (some ⟨g, 0, none⟩) x.askers.length c2) from HO5.out.drew.cell 0)
      have kOa := Lib.hid (show (w5.alloc (.cells #[] 70)).drew.cell? ⟨w2.heap.size, 0, none⟩ = some (.slice (some ⟨g, 0, none⟩) x.askers.length c2) from (HO5.out.alloc _).drew.cell 0)
      go_upto_region 8 with fail
      go_region_held3 (fun w' => w'.cell? ⟨w2.heap.size, 0, none⟩ = some (.slice (some ⟨g, 0, none⟩) x.askers.length c2))
        (first | (with_reducible exact kO5.out) | (with_reducible exact kOa.out) | (with_reducible exact kO6.out) | (with_reducible exact kO7.out) | fail "keep")
        (first
          | ((with_reducible change (if _ = true then Oper.wp Try.prog _ _ ((w5.alloc (.cells #[] 70)).drew) _ _ else _)); (refine step_append_reads _ (by rfl) _ _ 59 (by rfl) w5.heap.size 70 iK _ 6 96 Try.underlying59 hiK zK0 zK1 zK2 rfl (by decide) _ 0 [] (by rfl) HOWN.out _ (a.trees.length - 1) ct w5.heap.size (vs0 ++ vs2) (by rfl) HRDS.out HONE.out (by unfold maxLen; omega) (by omega) (by simp <;> omega) ?_); intro v6 w6 hown6 hg6 hat6; obtain ⟨A6, n6, q6, rfl⟩ := owns_shape hown6; have HW6 := Lib.hid hown6; have HB6 := Lib.hid (grown_newD hg6); have hz6 := HB6.out.2; have HO6 := Lib.hid (HO5.out.below HB6.out.1); have kO6 := Lib.hid (show w6.cell? ⟨w2.heap.size, 0, none⟩ = some (.slice (some ⟨g, 0, none⟩) x.askers.length c2) from HO6.out.cell 0); have HG6 := Lib.hid (HG5.out.below HB6.out.1); have c6 : w6.cell? ⟨g, k * 4 + 3, none⟩ = some (.slice (some ⟨g', 0, none⟩) a.trees.length ct) := HG6.out.mid hl0 3 rfl; have f6 : w6.frozen? ⟨g, k * 4 + 3, none⟩ = false := HG6.out.frozen _; have HO7 := Lib.hid (HO6.out.far (p := ⟨g, k * 4 + 3, none⟩) (by show w2.heap.size ≠ g; omega) (.slice A6 n6 q6)); have kO7 := Lib.hid (show (w6.setCell ⟨g, k * 4 + 3, none⟩ (.slice A6 n6 q6)).cell? ⟨w2.heap.size, 0, none⟩ = some (.slice (some ⟨g, 0, none⟩) x.askers.length c2) from HO7.out.cell 0); clear hown6 hg6 hat6)
          | fail "no arm")
      have HR7 := Lib.hid (((HR5.out.below HB6.out.1)).far (p := ⟨g, k * 4 + 3, none⟩) (by show w.heap.size + 1 ≠ g; omega) (.slice A6 n6 q6))
      have e6 : 0 + (a.trees.length - 1) = (a.trees.eraseIdx m).length := by rw [List.length_eraseIdx_of_lt hm]; omega
      obtain ⟨fp', hO', hN', hI'⟩ := drop_own HCL.out HBG.out hl0 HGN.out HGF.out HNS.out HU5.out HVS.out HFN.out HFF.out (fun b hb => by have := (HF2.out.2 b (HIN.out b (by simp [hb]))).2; omega) HB6.out.1 (e6 ▸ HW6.out)
      have HOO := Lib.hid hO'
      have HNN := Lib.hid hN'
      have HII := Lib.hid hI'
      have HB8 := Lib.hid (((HB4.out.trans (HU5.out.to_below (B := w.heap.size) (by intro b hb; rw [List.mem_singleton.1 hb]; omega) (by omega))).trans (HB6.out.1.mono (by omega))).setCell (p := ⟨g, k * 4 + 3, none⟩) (by show w.heap.size ≤ g; omega) (.slice A6 n6 q6))
      clear hO' hN' hI' e6 c3 f3 c6 f6
      obtain ⟨cO, fO⟩ := blk_rules HO7.out
      obtain ⟨cR, fR⟩ := blk_rules HR7.out
      go_wp2
      refine bodyPost_ret (v := .tuple #[.agg #[.slice (some ⟨g, 0, none⟩) x.askers.length c2], .int .i64 0]) (by simp [results, Try.results29, go_sem, cR]) rfl ?_
      refine PRes.of_od HN.out (f := fp') (by rw [List.length_set]; exact HOO.out) HNN.out (fun b hm => ?_) (by omega) HB8.out
      rcases HII.out b hm with h | h
      · have := (HF2.out.2 b h).1; omega
      · omega
end Go.Proofs.Ytppfgepoegicgaa
