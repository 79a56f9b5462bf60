/- ShelfDrop: the reference's answer. -/
import Derived.Test.YtppfgepoegicgaaZDropDef
namespace Go.Proofs.Ytppfgepoegicgaa
open Go Go.RowKit

def outAt (m k : Nat) : Nat := if k ≤ m then k else k - 1
theorem outAt_same (m : Nat) : outAt m (m + 1) = outAt m m := by unfold outAt; split <;> split <;> omega
theorem outAt_next {m k : Nat} (h : k ≠ m) : outAt m (k + 1) = outAt m k + 1 := by unfold outAt; split <;> split <;> omega
theorem out_cell {vs0 ve vs2 sp : List Value} {m k n : Nat} (h0 : vs0.length = m * 6) (he : ve.length = 6) (h2 : vs2.length = (n - m - 1) * 6) (hk : k < n) (hm : m < n) (hne : k ≠ m) (j : Nat) (hj : j < 6) :
    (vs0 ++ (ve ++ (vs2 ++ sp)))[k * 6 + j]? = (vs0 ++ vs2)[outAt m k * 6 + j]? := by
  unfold outAt
  split
  · rw [List.getElem?_append_left (by omega), List.getElem?_append_left (by omega)]
  · rw [List.getElem?_append_right (by omega), List.getElem?_append_right (by omega), List.getElem?_append_left (by omega), List.getElem?_append_right (by omega)]
    congr 1
    omega
theorem take_six {l : List Value} {p : Nat} {c0 c1 c2 c3 c4 c5 : Value} (h0 : l[p]? = some c0) (h1 : l[p + 1]? = some c1) (h2 : l[p + 2]? = some c2) (h3 : l[p + 3]? = some c3) (h4 : l[p + 4]? = some c4) (h5 : l[p + 5]? = some c5) :
    l.take (p + 6) = l.take p ++ [c0, c1, c2, c3, c4, c5] := by
  rw [show p + 6 = p + 1 + 1 + 1 + 1 + 1 + 1 by omega, List.take_add_one, List.take_add_one, List.take_add_one, List.take_add_one, List.take_add_one, List.take_add_one, h0, show p + 1 + 1 = p + 2 by omega, h1, h2, show p + 2 + 1 = p + 3 by omega, h3, show p + 3 + 1 = p + 4 by omega, h4, show p + 4 + 1 = p + 5 by omega, h5]
  simp
theorem grown_old {w4 wr w' : World} {o : Obj} {v : Value} (hb : Below w4.heap.size w4 wr) (ho : ∀ k, v.ownBlock = some k → w4.heap.size ≤ k) (hg : (wr.alloc o).grownBy w' v.ownBlock) : Below w4.heap.size w4 w' := by
  have hz := hg.size
  have hz2 := hb.size
  simp at hz
  exact ⟨hg.os.trans hb.os, hg.tape.trans hb.tape, hg.output.trans hb.output, by omega, fun k hk => (hg.block k (by simp; omega) (fun e => by have := ho k e.symm; omega)).trans ((Below.heap_alloc _ _ _ (by omega)).trans (hb.block k hk))⟩
theorem name_other {l : List Kept} {nm : ByteArray} {m k : Nat} {t : Kept} (hn : (l.map (·.name)).Nodup) (hf : First (l.map (·.name)) nm m) (ht : l[k]? = some t) : t.name = nm ↔ k = m := by
  rcases hf with ⟨h, _⟩ | ⟨i, hi, h, _⟩
  · omega
  · obtain rfl : m = i := by omega
    have hk : (l.map (·.name))[k]? = some t.name := by rw [List.getElem?_map, ht]; rfl
    constructor
    · rintro rfl
      have key : ∀ {p q : Nat}, (l.map (·.name))[p]? = some t.name → (l.map (·.name))[q]? = some t.name → ¬ p < q := fun hp hq hlt =>
        nodup_at hn hq (List.mem_of_getElem? (i := _) (by rw [List.getElem?_take_of_lt hlt]; exact hp))
      have h1 := key hk h
      have h2 := key h hk
      omega
    · rintro rfl
      rw [hk] at h
      injection h
theorem names_ne {x y : ByteArray} (h : ¬ x = y) : (x.toList == y.toList) = false := by
  rw [ByteArray.toList_eq, ByteArray.toList_eq]
  exact beq_eq_false_iff_ne.2 fun e => h (ByteArray.ext (Array.toList_inj.mp e))
theorem add_zero_ (g j : Nat) : (⟨g, 0, none⟩ : Addr).add j = ⟨g, j, none⟩ := by unfold Addr.add; split <;> simp_all

set_option maxRecDepth 100000 in
set_option maxHeartbeats 4000000 in
theorem sDrop_calls (x : Shelf) (us : List Value) (who nm : ByteArray) (w : World) (B : Nat) (hB : B ≤ w.heap.size) (h : RDv w B (shelfDs x) us) (hsm : SmallDs (shelfDs x)) (hC : ∀ a ∈ x.askers, ∀ y ∈ a.trees, valCnt y.v ≤ 1099511627776) :
    Calls Try.prog 28 #[.agg us.toArray, .string who, .string nm] w (PRes (DropIs x who nm) w) := by
  obtain ⟨A, c, rfl, hl⟩ := shelfDs_open h
  have HX := Lib.hid h
  have HL := Lib.hid hl
  have HSM := Lib.hid hsm
  have hn2 := hl.len
  have hln : x.askers.length ≤ 1048576 := hsm.1.1
  clear h hl hsm
  obtain ⟨iK, hiK, zK0, zK1, zK2⟩ := info_parts' Try.info_Kept
  have hbx := fun o1 o2 => below_box2 w o1 o2
  go_enter Try.func28, Try.ntmps28
  go_wp2_with fail
  refine (sShelfOk_calls x [_] _ B (Nat.le_trans hB (hbx _ _).size) (HX.out.below ((hbx _ _).mono hB)) hC).mono ?_
  rintro e w1 ⟨r1, rfl, hr1, hb1⟩
  have HR := Lib.hid hr1
  obtain ⟨hb, hz, bP, bR⟩ := boxes2 (P := [_]) (R := [_]) (boxes2_of hb1)
  obtain ⟨cP, fP⟩ := blk_rules bP
  obtain ⟨cR, fR⟩ := blk_rules bR
  have HP := Lib.hid bP
  have HRb := Lib.hid bR
  clear hr1 hb1 bP bR hbx hC
  cases r1 with
  | false =>
    have HN := Lib.hid (show DropIs x who nm ⟨[]⟩ 5 from .inl ⟨fun h => absurd (HR.out.2 h) (by simp), rfl, rfl⟩)
    go_wp2
    refine bodyPost_ret (v := .tuple #[.agg #[.slice none 0 0], .int .i64 5]) (by simp [results, Try.results28, go_sem, cR]) rfl ?_
    exact PRes.empty HN.out (hb.setCell (by show w.heap.size ≤ w.heap.size + 1; omega) _)
  | true =>
    have OKS := Lib.hid (HR.out.1 rfl)
    go_wp2_with fail
    refine (copyShelf_calls x [_] _ B (by omega) (HX.out.below (hb.mono hB)) HSM.out).mono ?_
    rintro e w2 ⟨v2, g2, rfl, ha2, hb2⟩
    obtain ⟨f2, ho2, hf2⟩ := ha2.done (w := w1) (Nat.le_refl _)
    obtain ⟨A2, c2, rfl⟩ := od_shape ho2
    have hz2 := hb2.size
    have HF2 := Lib.hid hf2
    have HD2 := Lib.hid (OD.keep (w' := w2.alloc (.cells #[.slice A2 x.askers.length c2] 29)) _ _ _ (fun b hm => Below.heap_alloc w2 _ b (hf2.2 b hm).2) ho2)
    have HB3 := Lib.hid ((hb.trans (hb2.mono (by omega))).trans ((below_box w2 (.cells #[.slice A2 x.askers.length c2] 29)).mono (by omega)))
    have HP2 := Lib.hid ((HP.out.below hb2).alloc (.cells #[.slice A2 x.askers.length c2] 29))
    have HR2 := Lib.hid ((HRb.out.below hb2).alloc (.cells #[.slice A2 x.askers.length c2] 29))
    have HO2 := Lib.hid (Blk.new w2 29 [.slice A2 x.askers.length c2])
    have E2 := Lib.hid (show (w2.alloc (.cells #[.slice A2 x.askers.length c2] 29)).heap.size = w2.heap.size + 1 by simp)
    clear ha2 ho2 hf2 hb2 cP fP cR fR HP HRb HR
    obtain ⟨cP, fP⟩ := blk_rules HP2.out
    obtain ⟨cR, fR⟩ := blk_rules HR2.out
    obtain ⟨cO, fO⟩ := blk_rules HO2.out
    go_wp2_with fail
    refine (sWho_calls x [_] who _ B (by rw [E2.out]; omega) (HX.out.below (HB3.out.mono hB))).mono ?_
    rintro e w3 ⟨r, rfl, hf, hb4⟩
    have HF := Lib.hid hf
    have HD3 := Lib.hid (OD.keep (w' := w3) _ _ _ (fun b hm => hb4.block b (by have := (HF2.out.2 b hm).2; rw [E2.out]; omega)) HD2.out)
    have HP3 := Lib.hid (HP2.out.below hb4)
    have HR3 := Lib.hid (HR2.out.below hb4)
    have HO3 := Lib.hid (HO2.out.below hb4)
    have hz3 := hb4.size
    rw [E2.out] at hz3
    have HB4 := Lib.hid (HB3.out.trans (hb4.mono (by rw [E2.out]; omega)))
    clear hf hb4 cP fP cR fR cO fO HP2 HR2 HO2 HD2 HB3
    obtain ⟨cP, fP⟩ := blk_rules HP3.out
    obtain ⟨cR, fR⟩ := blk_rules HR3.out
    obtain ⟨cO, fO⟩ := blk_rules HO3.out
    by_cases tr : r < 0
    · have HN := Lib.hid (show DropIs x who nm x 1 from .inr ⟨OKS.out, .inl ⟨HF.out.nonneg.1 tr, rfl, rfl⟩⟩)
      go_wp2
      refine bodyPost_ret (v := .tuple #[.agg #[.slice A2 x.askers.length c2], .int .i64 1]) (by simp [results, Try.results28, go_sem, cR]) rfl ?_
      exact PRes.of_od HN.out HD3.out HF2.out.1 (fun b hm => by have := (HF2.out.2 b hm).1; omega) (by omega) HB4.out
    obtain ⟨k, a, rfl, hlk, hdk, hfk⟩ := first_at (f := fun x : Asker => x.name) HF.out tr
    obtain ⟨ad, v, x0, x1, x2, x3, rfl, hbl, hv, hm, hd1, y0, y1, y2, y3⟩ := row4_at (HL.out.upto (HB4.out.mono hB) (Nat.le_refl _)) rfl hlk
    obtain rfl : v = a := by
      have h1 := hd1.out
      rw [hdk] at h1
      injection h1 with h1
      exact h1.symm
    obtain ⟨A4, c4, es, hvs, hrow⟩ := askerDs_open hv
    simp only [List.cons.injEq, and_true] at es
    obtain ⟨rfl, rfl, rfl, rfl⟩ := es
    have HV := Lib.hid hv
    have j0 : (0 : Int) ≤ (k : Int) := by omega
    have j1 : (k : Int) < (x.askers.length : Int) := by omega
    have HDK := Lib.hid hdk
    have HFK := Lib.hid hfk
    have HM := Lib.hid hm
    clear hv hrow HF hdk hfk hm
    go_wp2_with fail
    refine (sTree_calls v [_, _, _, _] nm _ B (by omega) HV.out).mono ?_
    rintro e w4 ⟨rr, rfl, hf2, hb6⟩
    have HFT := Lib.hid hf2
    have HD4 := Lib.hid (OD.keep (w' := w4) _ _ _ (fun b hm => hb6.block b (by have := (HF2.out.2 b hm).2; omega)) HD3.out)
    have HP4 := Lib.hid (HP3.out.below hb6)
    have HR4 := Lib.hid (HR3.out.below hb6)
    have HO4 := Lib.hid (HO3.out.below hb6)
    have hz4 := hb6.size
    have HB5 := Lib.hid (HB4.out.trans (hb6.mono (by omega)))
    clear hf2 hb6 cP fP cR fR cO fO HP3 HR3 HO3 HD3 HB4 y0 y1 y2 y3
    obtain ⟨cP, fP⟩ := blk_rules HP4.out
    obtain ⟨cR, fR⟩ := blk_rules HR4.out
    obtain ⟨cO, fO⟩ := blk_rules HO4.out
    by_cases tr2 : rr < 0
    · have HN := Lib.hid (show DropIs x who nm x 1 from .inr ⟨OKS.out, .inr ⟨k, v, HDK.out, HFK.out, .inl ⟨HFT.out.nonneg.1 tr2, rfl, rfl⟩⟩⟩)
      go_wp2
      refine bodyPost_ret (v := .tuple #[.agg #[.slice A2 x.askers.length c2], .int .i64 1]) (by simp [results, Try.results28, go_sem, cR]) rfl ?_
      exact PRes.of_od HN.out HD4.out HF2.out.1 (fun b hm => by have := (HF2.out.2 b hm).1; omega) (by omega) HB5.out
    obtain ⟨m, t, rfl, hlm, hdm, hfm⟩ := first_at (f := fun x : Kept => x.name) HFT.out tr2
    have HN := Lib.hid (show DropIs x who nm ⟨x.askers.set k (without v m)⟩ 0 from .inr ⟨OKS.out, .inr ⟨k, v, HDK.out, HFK.out, .inr ⟨m, hfm, rfl, rfl⟩⟩⟩)
    have HNO := Lib.hid (show ∀ (i : Nat) (t : Kept), v.trees[i]? = some t → (t.name = nm ↔ i = m) from fun i t ht => name_other (OKS.out.1 v HM.out).2.2.2.2.2.1 hfm ht)
    have hml : v.trees.length ≤ 1048576 := by
      have h1 := smallDs_mem_asker HSM.out.1.2 HM.out
      simp only [askerDs, SmallDs, SmallD] at h1
      omega
    obtain ⟨g, t0, us0, us2, T, ct, fe, rfl, hl0, hBg, hT, hin, hnd, hgn, hnc, hns, hclose⟩ := asker_swap (drop_get HDK.out) HD4.out HF2.out.1
    obtain ⟨g', ty, vs0, ve, vs2, sp, fk, rfl, hnt, hBk, hv0, hve, hv2, hvs2, hfn, hff, hgf⟩ := kept_out rfl hlm hT hnd
    have HCL := Lib.hid hclose
    have HBG := Lib.hid hBg
    have HBK := Lib.hid hBk
    have HVS := Lib.hid hvs2
    have HFN := Lib.hid hfn
    have HFF := Lib.hid hff
    have HIN := Lib.hid hin
    have HGN := Lib.hid hgn
    have HGF := Lib.hid hgf
    have HNS := Lib.hid hns
    have HTR := Lib.hid hT.rd'
    have hgb := (HF2.out.2 g (HIN.out g (by simp)))
    have hgb' := (HF2.out.2 g' (HIN.out g' (by simp [hgf])))
    have hgg : g ≠ g' := fun e => HGN.out (e ▸ HGF.out)
    have HL0 := Lib.hid hl0
    have HLV := Lib.hid (show vs0.length = m * 6 ∧ ve.length = 6 ∧ vs2.length = (v.trees.length - m - 1) * 6 from ⟨hv0, hve, hv2⟩)
    have c3 : w4.cell? ⟨g, k * 4 + 3, none⟩ = some (.slice (some ⟨g', 0, none⟩) v.trees.length ct) := hBg.mid hl0 3 rfl
    clear hclose hBg hBk hvs2 hfn hff hin hgn hgf hns hT hnd hdm hfm HFT hl0 hv0 hve hv2 tr tr2
    go_wp2_with fail
    clear cP fP cR fR cO fO c3
    go_loopw [10, 11] (fun tv i w' => ∃ (j : Nat), j ≤ v.trees.length ∧ i = .int .i64 j ∧ Hid (w'.ownsRow w4.heap.size 70 6 tv (outAt m j) ((vs0 ++ vs2).take (outAt m j * 6))) ∧ Hid (Below w4.heap.size w4 w')) (fun _ i _ => v.trees.length - (intOf i).toNat)
    case atStart =>
      exact ⟨0, by omega, rfl, (show (w4.alloc (.cells #[] 70)).ownsRow w4.heap.size 70 6 (.slice (some ⟨w4.heap.size, 0, none⟩) 0 0) (outAt m 0) ((vs0 ++ vs2).take (outAt m 0 * 6)) from by
        rw [show outAt m 0 = 0 by unfold outAt; split <;> omega]
        simpa using World.ownsRow_made w4 #[] 0 (Nat.le_refl _) (by unfold maxLen; omega) (by simp)), below_box _ _⟩
    case round =>
      obtain ⟨j, hj, rfl, HOW, HBW⟩ := hrel
      have hzr := HBW.out.size
      have HOr := Lib.hid (HO4.out.below HBW.out)
      have HGr := Lib.hid (HBG.out.below HBW.out)
      have HKr := Lib.hid (HBK.out.below HBW.out)
      obtain ⟨cO, fO⟩ := blk_rules HOr.out
      have c3 : wr.cell? ⟨g, k * 4 + 3, none⟩ = some (.slice (some ⟨g', 0, none⟩) v.trees.length ct) := HGr.out.mid HL0.out 3 rfl
      have f3 : wr.frozen? ⟨g, k * 4 + 3, none⟩ = false := HGr.out.frozen _
      by_cases hlt : j < v.trees.length
      · obtain ⟨ad2, t', p0, p1, p2, p3, p4, p5, ead, hbl2, ht, htm, hd2, y0, y1, y2, y3, y4, y5⟩ := row6_at HTR.out rfl hlt
        injection ead with ead
        subst ead
        rw [add_zero_] at y0 y1 y2 y3 y4 y5
        obtain ⟨a0, b0, b1, b2, A5, n5, q5, A6, n6, q6, es⟩ := keptDs_shape ht
        simp only [List.cons.injEq, and_true] at es
        obtain ⟨rfl, rfl, rfl, rfl, rfl, rfl⟩ := es
        obtain ⟨rfl, hts⟩ := kept_name ht
        have hne := HNO.out j t' (drop_get hd2.out)
        have j2 : (0 : Int) ≤ (j : Int) := by omega
        have j3 : (j : Int) < (v.trees.length : Int) := by omega
        have z0 := (HBW.out.cell (p := ⟨g', j * 6, none⟩) (by show g' < _; omega)).trans y0
        have z1 := (HBW.out.cell (p := ⟨g', j * 6 + 1, none⟩) (by show g' < _; omega)).trans y1
        have z2 := (HBW.out.cell (p := ⟨g', j * 6 + 2, none⟩) (by show g' < _; omega)).trans y2
        have z3 := (HBW.out.cell (p := ⟨g', j * 6 + 3, none⟩) (by show g' < _; omega)).trans y3
        have z4 := (HBW.out.cell (p := ⟨g', j * 6 + 4, none⟩) (by show g' < _; omega)).trans y4
        have z5 := (HBW.out.cell (p := ⟨g', j * 6 + 5, none⟩) (by show g' < _; omega)).trans y5
        have HY := Lib.hid (show ∀ i u, [Value.string t'.name, .int .i64 b0, .int .i64 b1, .string b2, .slice A5 n5 q5, .slice A6 n6 q6][i]? = some u → w4.cell? ⟨g', j * 6 + i, none⟩ = some u from by
          intro i u hi
          match i, hi with
          | 0, hi => simpa using (y0.trans hi)
          | 1, hi => simpa using (y1.trans hi)
          | 2, hi => simpa using (y2.trans hi)
          | 3, hi => simpa using (y3.trans hi)
          | 4, hi => simpa using (y4.trans hi)
          | 5, hi => simpa using (y5.trans hi)
          | n + 6, hi => simp at hi)
        have HONE := Lib.hid (RDv.one _ _ ht)
        by_cases hnm : t'.name = nm
        · obtain rfl := hne.1 hnm
          have HOW2 := Lib.hid (outAt_same j ▸ HOW.out : wr.ownsRow w4.heap.size 70 6 _ (outAt j (j + 1)) ((vs0 ++ vs2).take (outAt j (j + 1) * 6)))
          clear ht y0 y1 y2 y3 y4 y5 hne HOW
          go_wp2
          go_roundw
          case rel => exact ⟨j + 1, by omega, by go_num, HOW2, HBW⟩
          case measure => simp [intOf]; omega
        · have hjm := fun e => hnm (hne.2 e)
          have hnx := names_ne hnm
          have en := outAt_next hjm
          have hm6 : outAt m j ≤ j := by unfold outAt; split <;> omega
          have HEN := Lib.hid en
          have HTK := Lib.hid (show (vs0 ++ vs2).take (outAt m j * 6 + 6) = (vs0 ++ vs2).take (outAt m j * 6) ++ [Value.string t'.name, .int .i64 b0, .int .i64 b1, .string b2, .slice A5 n5 q5, .slice A6 n6 q6] from by
            have key : ∀ i u, i < 6 → [Value.string t'.name, .int .i64 b0, .int .i64 b1, .string b2, .slice A5 n5 q5, .slice A6 n6 q6][i]? = some u → (vs0 ++ vs2)[outAt m j * 6 + i]? = some u := fun i u h6 hi => by
              rw [← out_cell (ve := ve) (sp := sp) HLV.out.1 HLV.out.2.1 HLV.out.2.2 hlt hlm hjm i h6, ← HBK.out.cell]
              exact HY.out i u hi
            exact take_six (key 0 _ (by omega) rfl) (key 1 _ (by omega) rfl) (key 2 _ (by omega) rfl) (key 3 _ (by omega) rfl) (key 4 _ (by omega) rfl) (key 5 _ (by omega) rfl))
          have HOWa := Lib.hid (HOW.out.alloc (.cells #[.string t'.name, .int .i64 b0, .int .i64 b1, .string b2, .slice A5 n5 q5, .slice A6 n6 q6] 70))
          have HRDS := Lib.hid (show Reads (wr.alloc (.cells #[.string t'.name, .int .i64 b0, .int .i64 b1, .string b2, .slice A5 n5 q5, .slice A6 n6 q6] 70)) (wr.heap.size + 1) 6 (some ⟨wr.heap.size, 0, none⟩) 1 [Value.string t'.name, .int .i64 b0, .int .i64 b1, .string b2, .slice A5 n5 q5, .slice A6 n6 q6] from
            ⟨rfl, fun _ => ⟨_, rfl, by show wr.heap.size < _; omega, fun i u hi => by rw [add_zero_, (Blk.new wr 70 [Value.string t'.name, .int .i64 b0, .int .i64 b1, .string b2, .slice A5 n5 q5, .slice A6 n6 q6]).cell]; exact hi⟩⟩)
          clear ht y0 y1 y2 y3 y4 y5 hne hjm en HY
          go_wp2_with (at_builtin; go_loud (refine wpList_append_reads _ rfl _ _ 59 rfl w4.heap.size 70 iK _ 6 96 Try.underlying59 hiK zK0 zK1 zK2 rfl (by decide) _ (outAt m j) _ (by rfl) HOWa.out _ 1 1 (wr.heap.size + 1) [_, _, _, _, _, _] (by rfl) HRDS.out HONE.out (by unfold maxLen; omega) (by omega) (by simp <;> omega) ?_; intro v7 w7 hown7 hg7 hat7; have HOW7 := Lib.hid hown7; have HB7 := Lib.hid (grown_old HBW.out (fun q hq => (HOW.out.lt q hq).1) hg7); clear hown7 hg7 hat7))
          have HOW8 := Lib.hid (show w7.ownsRow w4.heap.size 70 6 v7 (outAt m (j + 1)) ((vs0 ++ vs2).take (outAt m (j + 1) * 6)) from by
            rw [HEN.out, show (outAt m j + 1) * 6 = outAt m j * 6 + 6 by omega, HTK.out]
            exact HOW7.out)
          clear z0 z1 z2 z3 z4 z5 HOW7 HOWa HRDS HOW HBW cO fO c3 f3
          go_wp2
          go_roundw
          case rel => exact ⟨j + 1, by omega, by go_num, HOW8, HB7⟩
          case measure => simp [intOf]; omega
      · obtain rfl : j = v.trees.length := by omega
        rename_i tv _
        obtain ⟨A6, n6, q6, rfl⟩ := owns_shape HOW.out
        have HRr := Lib.hid (HR4.out.below HBW.out)
        have HW6 := Lib.hid (show wr.ownsRow w4.heap.size 70 6 (.slice A6 n6 q6) (v.trees.eraseIdx m).length (vs0 ++ vs2) from by
          have h1 := HOW.out
          have e1 : outAt m v.trees.length = v.trees.length - 1 := by unfold outAt; split <;> omega
          rw [e1, List.take_of_length_le (by simp only [List.length_append]; have := HLV.out; omega)] at h1
          rw [List.length_eraseIdx_of_lt hlm]
          exact h1)
        obtain ⟨fp', hO', hN', hI'⟩ := drop_own HCL.out HBG.out HL0.out HGN.out HGF.out HNS.out (Upd.refl [g'] w4) HVS.out HFN.out HFF.out (fun b hb => by have := (HF2.out.2 b (HIN.out b (by simp [hb]))).2; omega) HBW.out HW6.out
        have HOO := Lib.hid hO'
        have HNN := Lib.hid hN'
        have HII := Lib.hid hI'
        have HB8 := Lib.hid ((HB5.out.trans (HBW.out.mono (by omega))).setCell (p := ⟨g, k * 4 + 3, none⟩) (by show w.heap.size ≤ g; omega) (.slice A6 n6 q6))
        have HOs := Lib.hid (HOr.out.far (p := ⟨g, k * 4 + 3, none⟩) (by show w2.heap.size ≠ g; omega) (.slice A6 n6 q6))
        have HRs := Lib.hid (HRr.out.far (p := ⟨g, k * 4 + 3, none⟩) (by show w.heap.size + 1 ≠ g; omega) (.slice A6 n6 q6))
        have hkO := HOs.out.cell 0
        have hkR := HRs.out.cell 0
        have hfR := HRs.out.frozen 0
        have kRr := HRr.out.cell 0
        have fRr := HRr.out.frozen 0
        have hne2 : w.heap.size + 1 ≠ g := by omega
        have hne3 : w2.heap.size ≠ g := by omega
        have hneR : w2.heap.size ≠ w.heap.size + 1 := by omega
        clear hO' hN' hI' HOW
        go_wp2
        refine bodyPost_ret (v := .tuple #[.agg #[.slice (some ⟨g, 0, none⟩) x.askers.length c2], .int .i64 0]) (by simp [results, Try.results28, go_sem, hkR]) rfl ?_
        refine PRes.of_od HN.out (f := fp') (by rw [List.length_set]; exact HOO.out) HNN.out (fun b hm => ?_) (by omega) HB8.out
        rcases HII.out b hm with h | h
        · have := (HF2.out.2 b h).1; omega
        · omega
end Go.Proofs.Ytppfgepoegicgaa
