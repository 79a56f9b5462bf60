/- ShelfGet: the program's and the reference's answer. -/
import Derived.Test.YtppfgepoegicgaaGf
import Derived.Test.YtppfgepoegicgaaGi
namespace Go.Proofs.Ytppfgepoegicgaa
open Go Go.RowKit

/-- What ShelfGet tells. -/
def GetIs (x : Shelf) (who nm : ByteArray) (v : Val) (c : Int) : Prop :=
  (¬ SOk x ∧ v = vZero ∧ c = 5) ∨ (SOk x ∧ ((who ∉ x.askers.map (·.name) ∧ v = vZero ∧ c = 1) ∨ ∃ (k : Nat) (a : Asker), x.askers.drop k = a :: x.askers.drop (k + 1) ∧ First (x.askers.map (·.name)) who k ∧
    ((nm ∉ a.trees.map (·.name) ∧ v = vZero ∧ c = 1) ∨ ∃ (m : Nat) (t : Kept), a.trees.drop m = t :: a.trees.drop (m + 1) ∧ First (a.trees.map (·.name)) nm m ∧ v = t.v ∧ c = 0)))
theorem first_notin {ns : List ByteArray} {s : ByteArray} {k : Nat} (h : First ns s k) : s ∈ ns := by
  rcases h with ⟨h, _⟩ | ⟨i, _, h, _⟩
  · omega
  · exact List.mem_of_getElem? h
theorem drop_det {α : Type} {l : List α} {k k' : Nat} {a a' : α} (e : (k : Int) = k') (h : l.drop k = a :: l.drop (k + 1)) (h' : l.drop k' = a' :: l.drop (k' + 1)) : a = a' := by
  obtain rfl : k = k' := by omega
  rw [h] at h'
  injection h'
theorem GetIs.det {x : Shelf} {who nm : ByteArray} {v v' : Val} {c c' : Int} (h : GetIs x who nm v c) (h' : GetIs x who nm v' c') : v = v' ∧ c = c' := by
  rcases h with ⟨h1, rfl, rfl⟩ | ⟨h1, h⟩
  · rcases h' with ⟨g1, rfl, rfl⟩ | ⟨g1, _⟩
    · exact ⟨rfl, rfl⟩
    · exact absurd g1 h1
  · rcases h' with ⟨g1, _⟩ | ⟨_, h'⟩
    · exact absurd h1 g1
    · rcases h with ⟨a1, rfl, rfl⟩ | ⟨k, a, a1, a2, h⟩
      · rcases h' with ⟨b1, rfl, rfl⟩ | ⟨k', a', b1, b2, _⟩
        · exact ⟨rfl, rfl⟩
        · exact absurd (first_notin b2) a1
      · rcases h' with ⟨b1, _⟩ | ⟨k', a', b1, b2, h'⟩
        · exact absurd (first_notin a2) b1
        · obtain rfl := drop_det (a2.det b2) a1 b1
          rcases h with ⟨c1, rfl, rfl⟩ | ⟨m, t, c1, c2, rfl, rfl⟩
          · rcases h' with ⟨d1, rfl, rfl⟩ | ⟨m', t', d1, d2, _⟩
            · exact ⟨rfl, rfl⟩
            · exact absurd (first_notin d2) c1
          · rcases h' with ⟨d1, _⟩ | ⟨m', t', d1, d2, rfl, rfl⟩
            · exact absurd (first_notin c2) d1
            · obtain rfl := drop_det (c2.det d2) c1 d1
              exact ⟨rfl, rfl⟩
def PGet (x : Shelf) (who nm : ByteArray) (w : World) (e : Ending) (w' : World) : Prop :=
  ∃ (v : Val) (c : Int) (vs : List Value) (fp : List Nat), e = .returned (.tuple #[.agg vs.toArray, .int .i64 c]) ∧ GetIs x who nm v c ∧ ODv w' (valDs v) vs fp ∧ Fresh w w' fp ∧ Below w.heap.size w w'
theorem zero_own (w : World) : ODv w (valDs vZero) [.int .i64 0, .int .i64 0, .string ⟨#[]⟩, .slice none 0 0, .slice none 0 0] [] := by
  have h0 : OD w (.row 1 0 (strDs [])) (.slice none 0 0) [] := ⟨[], [], [], rfl, .inl ⟨_, _, rfl, rfl, rfl, rfl⟩, rfl, rfl⟩
  have h1 : OD w (.row 5 0 (valsDs [])) (.slice none 0 0) [] := ⟨[], [], [], rfl, .inl ⟨_, _, rfl, rfl, rfl, rfl⟩, rfl, rfl⟩
  exact ⟨_, _, [], [], rfl, rfl, ⟨rfl, rfl⟩, _, _, [], [], rfl, rfl, ⟨rfl, rfl⟩, _, _, [], [], rfl, rfl, ⟨rfl, by show (0 : Nat) ≤ _; omega, rfl⟩, _, _, [], [], rfl, rfl, h0, _, _, [], [], rfl, rfl, h1, rfl, rfl⟩
theorem PGet.zero {x : Shelf} {who nm : ByteArray} {c : Int} {w w' : World} (h : GetIs x who nm vZero c) (hb : Below w.heap.size w w') :
    PGet x who nm w (.returned (.tuple #[.agg #[.int .i64 0, .int .i64 0, .string ⟨#[]⟩, .slice none 0 0, .slice none 0 0], .int .i64 c])) w' :=
  ⟨vZero, c, [.int .i64 0, .int .i64 0, .string ⟨#[]⟩, .slice none 0 0, .slice none 0 0], [], rfl, h, zero_own w', Fresh.nil _ _, hb⟩

set_option maxRecDepth 100000 in
set_option maxHeartbeats 4000000 in
theorem iGet_calls (x : Shelf) (us : List Value) (who nm : ByteArray) (w : World) (B : Nat) (hB : B ≤ w.heap.size) (h : RDv w B (shelfDs x) us) (hsm : SmallDs (shelfDs x)) :
    Calls Try.prog 20 #[.agg us.toArray, .string who, .string nm] w (PGet x who nm w) := by
  obtain ⟨A, c, rfl, hl⟩ := shelfDs_open h
  have HX := Lib.hid h
  have HL := Lib.hid hl
  have HSM := Lib.hid hsm
  have hn2 := hl.len
  clear h hl hsm
  have hbx := fun o1 o2 => below_box2 w o1 o2
  go_enter Try.func20, Try.ntmps20
  go_wp2_with fail
  refine (iShelfOk_calls x [_] _ B (Nat.le_trans hB (hbx _ _).size) (HX.out.below ((hbx _ _).mono hB))).mono ?_
  rintro e w1 ⟨r1, rfl, hr1, hb1⟩
  have HR := Lib.hid hr1
  obtain ⟨hb, hz, bP, bR⟩ := boxes2 (P := [_]) (R := [_, _, _, _, _]) (boxes2_of hb1)
  obtain ⟨cP, fP⟩ := blk_rules bP
  obtain ⟨cR, fR⟩ := blk_rules bR
  have HP := Lib.hid bP
  have HRb := Lib.hid bR
  clear hr1 hb1 bP bR hbx
  cases r1 with
  | false =>
    have HN := Lib.hid (show GetIs x who nm vZero 5 from .inl ⟨fun h => absurd (HR.out.2 h) (by simp), rfl, rfl⟩)
    go_wp2
    refine bodyPost_ret (v := .tuple #[.agg #[.int .i64 0, .int .i64 0, .string ⟨#[]⟩, .slice none 0 0, .slice none 0 0], .int .i64 5]) (by simp [results, Try.results20, go_sem, cR]) rfl ?_
    exact PGet.zero HN.out (setAll_below (o := 0) [_, _, _, _, _] (by omega) hb)
  | true =>
    have OKS := Lib.hid (HR.out.1 rfl)
    go_wp2_with fail
    refine (iFind_calls x [_] who nm _ B (by omega) (HX.out.below (hb.mono hB))).mono ?_
    rintro e w2 ⟨i, j, b, rfl, hf, hb2⟩
    have HF := Lib.hid hf
    have HP2 := Lib.hid (HP.out.below hb2)
    have HR2 := Lib.hid (HRb.out.below hb2)
    have hb3 := hb.trans (hb2.mono (by omega))
    have hz2 := hb2.size
    clear hf hb2 cP fP cR fR HP HRb
    obtain ⟨cP, fP⟩ := blk_rules HP2.out
    obtain ⟨cR, fR⟩ := blk_rules HR2.out
    cases b with
    | false =>
      have HN := Lib.hid (show GetIs x who nm vZero 1 from .inr ⟨OKS.out, by
        rcases HF.out with ⟨_, h⟩ | ⟨k, a, h1, _, h2, _, h3⟩
        · exact .inl ⟨h, rfl, rfl⟩
        · rcases h3 with ⟨_, h3⟩ | ⟨m, t, _, _, _, _, h3⟩
          · exact .inr ⟨k, a, h1, h2, .inl ⟨h3, rfl, rfl⟩⟩
          · cases h3⟩)
      go_wp2
      refine bodyPost_ret (v := .tuple #[.agg #[.int .i64 0, .int .i64 0, .string ⟨#[]⟩, .slice none 0 0, .slice none 0 0], .int .i64 1]) (by simp [results, Try.results20, go_sem, cR]) rfl ?_
      exact PGet.zero HN.out (setAll_below (o := 0) [_, _, _, _, _] (by omega) hb3)
    | true =>
      obtain ⟨k, a, hdk, hlk, hfk, rfl, m, t, hdm, hlm, hfm, rfl⟩ : ∃ (k : Nat) (a : Asker), x.askers.drop k = a :: x.askers.drop (k + 1) ∧ k < x.askers.length ∧ First (x.askers.map (·.name)) who k ∧ i = k ∧ ∃ (m : Nat) (t : Kept), a.trees.drop m = t :: a.trees.drop (m + 1) ∧ m < a.trees.length ∧ First (a.trees.map (·.name)) nm m ∧ j = m := by
        rcases HF.out with ⟨h, _⟩ | ⟨k, a, h1, h0, h2, h4, h3⟩
        · cases h
        · rcases h3 with ⟨h3, _⟩ | ⟨m, t, h5, h6, h7, h8, _⟩
          · cases h3
          · exact ⟨k, a, h1, h0, h2, h4, m, t, h5, h6, h7, h8⟩
      have HN := Lib.hid (show GetIs x who nm t.v 0 from .inr ⟨OKS.out, .inr ⟨k, a, hdk, hfk, .inr ⟨m, t, hdm, hfm, rfl, rfl⟩⟩⟩)
      obtain ⟨ad, v, x0, x1, x2, x3, rfl, hbl, hv, hm, hd1, y0, y1, y2, y3⟩ := row4_at (HL.out.upto (hb3.mono hB) (Nat.le_refl _)) rfl hlk
      obtain rfl : v = a := by
        have h1 := hd1.out
        rw [hdk] at h1
        injection h1 with h1
        exact h1.symm
      obtain ⟨A4, c4, es, hvs, hrow⟩ := askerDs_open hv
      simp only [List.cons.injEq, and_true] at es
      obtain ⟨rfl, rfl, rfl, rfl⟩ := es
      obtain ⟨ad2, t', p0, p1, p2, p3, p4, p5, rfl, hbl2, ht, htm, hd2, g0, g1, g2, g3, g4, g5⟩ := row6_at hrow rfl hlm
      obtain rfl : t' = t := by
        have h1 := hd2.out
        rw [hdm] at h1
        injection h1 with h1
        exact h1.symm
      obtain ⟨a0, b0, b1, b2, A5, n5, q5, A6, n6, q6, es⟩ := keptDs_shape ht
      simp only [List.cons.injEq, and_true] at es
      obtain ⟨rfl, rfl, rfl, rfl, rfl, rfl⟩ := es
      have HT := Lib.hid (keptDs_tail ht)
      have hsy := smallDs_mem_asker HSM.out.1.2 hm
      simp only [askerDs, SmallDs] at hsy
      have hst := smallDs_mem_kept hsy.2.2.2.1.2 htm
      simp only [keptDs, SmallDs] at hst
      have HSV := Lib.hid hst.2
      have j0 : (0 : Int) ≤ (k : Int) := by omega
      have j1 : (k : Int) < (x.askers.length : Int) := by omega
      have j2 : (0 : Int) ≤ (m : Int) := by omega
      have j3 : (m : Int) < (v.trees.length : Int) := by omega
      clear hv hrow ht hsy hst hdk hdm hfk hfm HF
      go_wp2_with fail
      refine (clone_calls t'.v [_, _, _, _, _] _ B (by omega) HT.out HSV.out).mono ?_
      rintro e w3 ⟨us4, f4, rfl, hO, hF, hb4⟩
      obtain ⟨d0, d1, d2, A7, n7, c7, A8, n8, c8, rfl⟩ := valDs_shape hO.rd'
      have HO := Lib.hid hO
      have HF4 := Lib.hid hF
      have HR3 := Lib.hid (HR2.out.below hb4)
      have hb5 := hb3.trans (hb4.mono (by omega))
      have hz3 := hb4.size
      clear hO hF hb4 cP fP cR fR g0 g1 g2 g3 g4 g5 y0 y1 y2 y3
      obtain ⟨cR, fR⟩ := blk_rules HR3.out
      go_wp2
      refine bodyPost_ret (v := .tuple #[.agg #[.int .i64 d0, .int .i64 d1, .string d2, .slice A7 n7 c7, .slice A8 n8 c8], .int .i64 0]) (by simp [results, Try.results20, go_sem, cR]) rfl ?_
      refine ⟨t'.v, 0, [_, _, _, _, _], f4, rfl, HN.out, ?_, ?_, setAll_below (o := 0) [.int .i64 d0, .int .i64 d1, .string d2, .slice A7 n7 c7, .slice A8 n8 c8] (g := w.heap.size + 1) (by omega) hb5⟩
      · exact ODv.keep _ _ _ (fun b hb => setAll_other [.int .i64 d0, .int .i64 d1, .string d2, .slice A7 n7 c7, .slice A8 n8 c8] w3 (w.heap.size + 1) 0 b (by have := (HF4.out.2 b hb).1; omega)) HO.out
      · refine ⟨HF4.out.1, fun b hb => ?_⟩
        have := HF4.out.2 b hb
        have e := setAll_size [.int .i64 d0, .int .i64 d1, .string d2, .slice A7 n7 c7, .slice A8 n8 c8] w3 (w.heap.size + 1) 0
        refine ⟨by omega, ?_⟩
        show b < (setAll w3 (w.heap.size + 1) 0 [.int .i64 d0, .int .i64 d1, .string d2, .slice A7 n7 c7, .slice A8 n8 c8]).heap.size
        omega
set_option maxRecDepth 100000 in
set_option maxHeartbeats 4000000 in
theorem sGet_calls (x : Shelf) (us : List Value) (who nm : ByteArray) (w : World) (B : Nat) (hB : B ≤ w.heap.size) (h : RDv w B (shelfDs x) us) (hsm : SmallDs (shelfDs x)) (hC : ∀ a ∈ x.askers, ∀ y ∈ a.trees, valCnt y.v ≤ 1099511627776) :
    Calls Try.prog 19 #[.agg us.toArray, .string who, .string nm] w (PGet x who nm w) := by
  obtain ⟨A, c, rfl, hl⟩ := shelfDs_open h
  have HX := Lib.hid h
  have HL := Lib.hid hl
  have HSM := Lib.hid hsm
  have hn2 := hl.len
  clear h hl hsm
  have hbx := fun o1 o2 => below_box2 w o1 o2
  go_enter Try.func19, Try.ntmps19
  go_wp2_with fail
  refine (sShelfOk_calls x [_] _ B (Nat.le_trans hB (hbx _ _).size) (HX.out.below ((hbx _ _).mono hB)) hC).mono ?_
  rintro e w1 ⟨r1, rfl, hr1, hb1⟩
  have HR := Lib.hid hr1
  obtain ⟨hb, hz, bP, bR⟩ := boxes2 (P := [_]) (R := [_, _, _, _, _]) (boxes2_of hb1)
  obtain ⟨cP, fP⟩ := blk_rules bP
  obtain ⟨cR, fR⟩ := blk_rules bR
  have HP := Lib.hid bP
  have HRb := Lib.hid bR
  clear hr1 hb1 bP bR hbx hC
  cases r1 with
  | false =>
    have HN := Lib.hid (show GetIs x who nm vZero 5 from .inl ⟨fun h => absurd (HR.out.2 h) (by simp), rfl, rfl⟩)
    go_wp2
    refine bodyPost_ret (v := .tuple #[.agg #[.int .i64 0, .int .i64 0, .string ⟨#[]⟩, .slice none 0 0, .slice none 0 0], .int .i64 5]) (by simp [results, Try.results19, go_sem, cR]) rfl ?_
    exact PGet.zero HN.out (setAll_below (o := 0) [_, _, _, _, _] (by omega) hb)
  | true =>
    have OKS := Lib.hid (HR.out.1 rfl)
    go_wp2_with fail
    refine (sWho_calls x [_] who _ B (by omega) (HX.out.below (hb.mono hB))).mono ?_
    rintro e w2 ⟨r, rfl, hf, hb2⟩
    have HF := Lib.hid hf
    have HP2 := Lib.hid (HP.out.below hb2)
    have HR2 := Lib.hid (HRb.out.below hb2)
    have hb3 := hb.trans (hb2.mono (by omega))
    have hz2 := hb2.size
    clear hf hb2 cP fP cR fR HP HRb
    obtain ⟨cP, fP⟩ := blk_rules HP2.out
    obtain ⟨cR, fR⟩ := blk_rules HR2.out
    by_cases tr : r < 0
    · have HN := Lib.hid (show GetIs x who nm vZero 1 from .inr ⟨OKS.out, .inl ⟨HF.out.nonneg.1 tr, rfl, rfl⟩⟩)
      go_wp2
      refine bodyPost_ret (v := .tuple #[.agg #[.int .i64 0, .int .i64 0, .string ⟨#[]⟩, .slice none 0 0, .slice none 0 0], .int .i64 1]) (by simp [results, Try.results19, go_sem, cR]) rfl ?_
      exact PGet.zero HN.out (setAll_below (o := 0) [_, _, _, _, _] (by omega) hb3)
    · obtain ⟨k, a, rfl, hlk, hdk, hfk⟩ := first_at (f := fun x : Asker => x.name) HF.out tr
      obtain ⟨ad, v, x0, x1, x2, x3, rfl, hbl, hv, hm, hd1, y0, y1, y2, y3⟩ := row4_at (HL.out.upto (hb3.mono hB) (Nat.le_refl _)) rfl hlk
      obtain rfl : v = a := by
        have h1 := hd1.out
        rw [hdk] at h1
        injection h1 with h1
        exact h1.symm
      obtain ⟨A4, c4, es, hvs, hrow⟩ := askerDs_open hv
      simp only [List.cons.injEq, and_true] at es
      obtain ⟨rfl, rfl, rfl, rfl⟩ := es
      have HV := Lib.hid hv
      have j0 : (0 : Int) ≤ (k : Int) := by omega
      have j1 : (k : Int) < (x.askers.length : Int) := by omega
      have HRW := Lib.hid hrow
      have HDK := Lib.hid hdk
      have HFK := Lib.hid hfk
      clear hv hrow HF hdk hfk
      go_wp2_with fail
      refine (sTree_calls v [_, _, _, _] nm _ B (by omega) HV.out).mono ?_
      rintro e w5 ⟨rr, rfl, hf2, hb6⟩
      have HF2 := Lib.hid hf2
      have HP5 := Lib.hid (HP2.out.below hb6)
      have HR5 := Lib.hid (HR2.out.below hb6)
      have hb7 := hb3.trans (hb6.mono (by omega))
      have hz5 := hb6.size
      have hadw : ad.block < w2.heap.size := by omega
      have Y3 : w5.cell? ⟨(ad.add (k * 4)).block, (ad.add (k * 4)).off + 3, none⟩ = some (.slice A4 v.trees.length c4) := (hb6.cell (p := ⟨(ad.add (k * 4)).block, (ad.add (k * 4)).off + 3, none⟩) (by show (ad.add (k * 4)).block < _; rw [block_of_add]; exact hadw)).trans y3
      have HRW5 := Lib.hid (HRW.out.below (hb6.mono (show B ≤ w2.heap.size by omega)))
      clear hf2 hb6 cP fP cR fR y0 y1 y2 y3 HP2 HR2 HRW
      obtain ⟨cP, fP⟩ := blk_rules HP5.out
      obtain ⟨cR, fR⟩ := blk_rules HR5.out
      by_cases tr2 : rr < 0
      · have HN := Lib.hid (show GetIs x who nm vZero 1 from .inr ⟨OKS.out, .inr ⟨k, v, HDK.out, HFK.out, .inl ⟨HF2.out.nonneg.1 tr2, rfl, rfl⟩⟩⟩)
        clear Y3
        go_wp2
        refine bodyPost_ret (v := .tuple #[.agg #[.int .i64 0, .int .i64 0, .string ⟨#[]⟩, .slice none 0 0, .slice none 0 0], .int .i64 1]) (by simp [results, Try.results19, go_sem, cR]) rfl ?_
        exact PGet.zero HN.out (setAll_below (o := 0) [_, _, _, _, _] (by omega) hb7)
      obtain ⟨m, t, rfl, hlm, hdm, hfm⟩ := first_at (f := fun x : Kept => x.name) HF2.out tr2
      have HN := Lib.hid (show GetIs x who nm t.v 0 from .inr ⟨OKS.out, .inr ⟨k, v, HDK.out, HFK.out, .inr ⟨m, t, hdm, hfm, rfl, rfl⟩⟩⟩)
      obtain ⟨ad2, t', p0, p1, p2, p3, p4, p5, rfl, hbl2, ht, htm, hd2, g0, g1, g2, g3, g4, g5⟩ := row6_at HRW5.out rfl hlm
      obtain rfl : t' = t := by
        have h1 := hd2.out
        rw [hdm] at h1
        injection h1 with h1
        exact h1.symm
      obtain ⟨a0, b0, b1, b2, A5, n5, q5, A6, n6, q6, es⟩ := keptDs_shape ht
      simp only [List.cons.injEq, and_true] at es
      obtain ⟨rfl, rfl, rfl, rfl, rfl, rfl⟩ := es
      have HT := Lib.hid (keptDs_tail ht)
      have hsy := smallDs_mem_asker HSM.out.1.2 hm
      simp only [askerDs, SmallDs] at hsy
      have hst := smallDs_mem_kept hsy.2.2.2.1.2 htm
      simp only [keptDs, SmallDs] at hst
      have HSV := Lib.hid hst.2
      have j2 : (0 : Int) ≤ (m : Int) := by omega
      have j3 : (m : Int) < (v.trees.length : Int) := by omega
      clear ht hsy hst hdm hfm HF2
      go_wp2_with fail
      refine (copy_calls t'.v [_, _, _, _, _] _ B (by omega) HT.out HSV.out).mono ?_
      rintro e w3 ⟨us4, f4, rfl, hO, hF, hb4⟩
      obtain ⟨d0, d1, d2, A7, n7, c7, A8, n8, c8, rfl⟩ := valDs_shape hO.rd'
      have HO := Lib.hid hO
      have HF4 := Lib.hid hF
      have HR3 := Lib.hid (HR5.out.below hb4)
      have hb5 := hb7.trans (hb4.mono (by omega))
      have hz3 := hb4.size
      clear hO hF hb4 cP fP cR fR g0 g1 g2 g3 g4 g5 Y3
      obtain ⟨cR, fR⟩ := blk_rules HR3.out
      go_wp2
      refine bodyPost_ret (v := .tuple #[.agg #[.int .i64 d0, .int .i64 d1, .string d2, .slice A7 n7 c7, .slice A8 n8 c8], .int .i64 0]) (by simp [results, Try.results19, go_sem, cR]) rfl ?_
      refine ⟨t'.v, 0, [_, _, _, _, _], f4, rfl, HN.out, ?_, ?_, setAll_below (o := 0) [.int .i64 d0, .int .i64 d1, .string d2, .slice A7 n7 c7, .slice A8 n8 c8] (g := w.heap.size + 1) (by omega) hb5⟩
      · exact ODv.keep _ _ _ (fun b hb => setAll_other [.int .i64 d0, .int .i64 d1, .string d2, .slice A7 n7 c7, .slice A8 n8 c8] w3 (w.heap.size + 1) 0 b (by have := (HF4.out.2 b hb).1; omega)) HO.out
      · refine ⟨HF4.out.1, fun b hb => ?_⟩
        have := HF4.out.2 b hb
        have e := setAll_size [.int .i64 d0, .int .i64 d1, .string d2, .slice A7 n7 c7, .slice A8 n8 c8] w3 (w.heap.size + 1) 0
        refine ⟨by omega, ?_⟩
        show b < (setAll w3 (w.heap.size + 1) 0 [.int .i64 d0, .int .i64 d1, .string d2, .slice A7 n7 c7, .slice A8 n8 c8]).heap.size
        omega
end Go.Proofs.Ytppfgepoegicgaa
