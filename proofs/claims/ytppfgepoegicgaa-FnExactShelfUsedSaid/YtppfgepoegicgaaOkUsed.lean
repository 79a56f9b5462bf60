import Derived.Test.YtppfgepoegicgaaOkShI
import Derived.Deep.DrawnRows
namespace Go.Proofs.Ytppfgepoegicgaa
open Go Go.RowKit

set_option maxRecDepth 100000 in
set_option maxHeartbeats 4000000 in
theorem sWho_calls (x : Shelf) (us : List Value) (s : ByteArray) (w : World) (B : Nat) (hB : B ≤ w.heap.size) (h : RDv w B (shelfDs x) us) :
    Calls Try.prog 47 #[.agg us.toArray, .string s] w (PFirst (x.askers.map (·.name)) s w) := by
  obtain ⟨A, c, rfl, hl⟩ := shelfDs_open h
  have HL := Lib.hid hl
  have hn2 := hl.len
  clear h hl
  go_enter Try.func47, Try.ntmps47
  go_wp2
  go_loopw [5] (fun i w' => ∃ (k : Nat), k ≤ x.askers.length ∧ i = .int .i64 k ∧ Hid (s ∉ (x.askers.map (·.name)).take k) ∧ Below (w.heap.size + 1) (w.alloc (.cells #[.slice A x.askers.length c] 29)) w') (fun i _ => x.askers.length - (intOf i).toNat)
  case atStart => exact ⟨0, by omega, rfl, (by simp : s ∉ (x.askers.map (·.name)).take 0), Below.refl _ _⟩
  case round =>
    obtain ⟨k, hk, rfl, HT, hb0⟩ := hrel
    obtain ⟨hb, hz, bP⟩ := boxes1 (P := [_]) hb0
    obtain ⟨cP, fP⟩ := blk_rules bP
    clear bP
    by_cases hlt : k < x.askers.length
    · obtain ⟨ad, v, x0, x1, x2, x3, rfl, hbl, hv, hm, hd1, y0, y1, y2, y3⟩ := row4_at (HL.out.upto (hb.mono hB) (Nat.le_refl _)) rfl hlt
      have HM := Lib.hid (names_at (f := fun x : Asker => x.name) hd1.out)
      obtain ⟨a0, b0, b1, A4, n4, q4, es⟩ := askerDs_shape hv
      simp only [List.cons.injEq, and_true] at es
      obtain ⟨rfl, rfl, rfl, rfl⟩ := es
      obtain ⟨rfl, hvs⟩ := asker_name hv
      have j0 : (0 : Int) ≤ (k : Int) := by omega
      have j1 : (k : Int) < (x.askers.length : Int) := by omega
      clear hv y1 y2 y3
      by_cases t : v.name = s
      · have HF := Lib.hid (First.hit HM.out t HT.out)
        rw [t] at y0
        go_wp2
        go_ret
        exact ⟨_, rfl, HF.out, hb⟩
      · have d6 := str_ne t
        have HT3 := Lib.hid (First.step HM.out t HT.out)
        go_wp2
        go_roundw
        case rel => exact ⟨k + 1, by omega, by go_num, HT3, hb0⟩
        case measure => simp [intOf]; omega
    · have HF := Lib.hid (First.none (by have := HT.out; rwa [show k = (x.askers.map (·.name)).length by simp; omega, List.take_length] at this))
      go_wp2
      go_ret
      exact ⟨_, rfl, HF.out, hb⟩

/-- What ShelfUsed tells. -/
def UsedIs (x : Shelf) (s : ByteArray) (n : Int) : Prop :=
  (¬ (SOk x ∧ s ∈ x.askers.map (·.name)) ∧ n = -1) ∨ (SOk x ∧ ∃ (i : Nat) (a : Asker), x.askers.drop i = a :: x.askers.drop (i + 1) ∧ First (x.askers.map (·.name)) s i ∧ n = keptsCnt a.trees)
theorem UsedIs.det {x : Shelf} {s : ByteArray} {n n' : Int} (h : UsedIs x s n) (h' : UsedIs x s n') : n = n' := by
  have no : ∀ {i : Nat}, ¬ (SOk x ∧ s ∈ x.askers.map (·.name)) → SOk x → First (x.askers.map (·.name)) s i → False := fun {i} h1 h2 h3 => by
    have h4 := h3.nonneg
    exact h1 ⟨h2, Classical.byContradiction fun h5 => by have := h4.2 h5; omega⟩
  rcases h with ⟨h1, rfl⟩ | ⟨h1, i, a, h2, h3, rfl⟩
  · rcases h' with ⟨_, rfl⟩ | ⟨g1, i, a, g2, g3, rfl⟩
    · rfl
    · exact absurd g3 (fun g => no h1 g1 g)
  · rcases h' with ⟨g1, rfl⟩ | ⟨g1, i', a', g2, g3, rfl⟩
    · exact absurd h3 (fun g => no g1 h1 g)
    · have e := h3.det g3
      obtain rfl : i = i' := by omega
      rw [h2] at g2
      injection g2 with g2
      rw [g2]
def PUsed (x : Shelf) (s : ByteArray) (w : World) (e : Ending) (w' : World) : Prop := ∃ n : Int, e = .returned (.int .i64 n) ∧ UsedIs x s n ∧ Below w.heap.size w w'

set_option maxRecDepth 100000 in
set_option maxHeartbeats 4000000 in
theorem iUsedOf_calls (x : Shelf) (us : List Value) (s : ByteArray) (w : World) (B : Nat) (hB : B ≤ w.heap.size) (h : RDv w B (shelfDs x) us) :
    Calls Try.prog 18 #[.agg us.toArray, .string s] w (PUsed x s w) := by
  obtain ⟨A, c, rfl, hl⟩ := shelfDs_open h
  have HX := Lib.hid h
  have HL := Lib.hid hl
  have hn2 := hl.len
  clear h hl
  have hbx := fun o1 => below_box w o1
  go_enter Try.func18, Try.ntmps18
  go_wp2_with fail
  refine (iAsker_calls x [_] s _ B (Nat.le_trans hB (hbx _).size) (HX.out.below ((hbx _).mono hB))).mono ?_
  rintro e w1 ⟨r, rfl, hr, hb1⟩
  have HF := Lib.hid hr
  have hb0 := boxes1_of hb1
  obtain ⟨hb, hz, bP⟩ := boxes1 (P := [_]) hb0
  obtain ⟨cP, fP⟩ := blk_rules bP
  clear hr hb1 bP hbx
  go_wp2_with fail
  refine (iShelfOk_calls x [_] _ B (by omega) (HX.out.below (hb.mono hB))).mono ?_
  rintro e w2 ⟨r1, rfl, hr1, hb2⟩
  have HR := Lib.hid hr1
  have hb3 := hb0.trans (hb2.mono hz)
  clear hr1 hb2 hb0 hb hz cP fP
  obtain ⟨hb, hz, bP⟩ := boxes1 (P := [_]) hb3
  obtain ⟨cP, fP⟩ := blk_rules bP
  clear bP
  cases r1 with
  | false =>
    have HN := Lib.hid (show UsedIs x s (-1) from .inl ⟨fun h => absurd (HR.out.2 h.1) (by simp), rfl⟩)
    go_wp2
    go_ret
    exact ⟨_, rfl, HN.out, hb⟩
  | true =>
    by_cases t : r < 0
    · have HN := Lib.hid (show UsedIs x s (-1) from .inl ⟨fun h => (HF.out.nonneg.1 t) h.2, rfl⟩)
      go_wp2
      go_ret
      exact ⟨_, rfl, HN.out, hb⟩
    · obtain ⟨i, rfl⟩ : ∃ i : Nat, r = i := ⟨r.toNat, by omega⟩
      have hlt : i < x.askers.length := by
        rcases HF.out with ⟨h1, _⟩ | ⟨k, h1, h2, _⟩
        · omega
        · obtain rfl : i = k := by omega
          have := (List.getElem?_eq_some_iff.1 h2).1
          simpa using this
      obtain ⟨ad, v, x0, x1, x2, x3, rfl, hbl, hv, hm, hd1, y0, y1, y2, y3⟩ := row4_at (HL.out.upto (hb.mono hB) (Nat.le_refl _)) rfl hlt
      obtain ⟨a0, b0, b1, A4, n4, q4, es⟩ := askerDs_shape hv
      simp only [List.cons.injEq, and_true] at es
      obtain ⟨rfl, rfl, rfl, rfl⟩ := es
      have HV := Lib.hid hv
      have j0 : (0 : Int) ≤ (i : Int) := by omega
      have j1 : (i : Int) < (x.askers.length : Int) := by omega
      have hOK := (HR.out.1 rfl).1 v hm
      have hsum : keptsCnt v.trees ≤ 1099511627776 := by
        have := keptsCnt_le v.trees fun y hy => (hOK.2.2.2.2.1 y hy).2
        have := hOK.2.2.2.1
        omega
      have HU := Lib.hid (show UsedIs x s (keptsCnt v.trees) from .inr ⟨HR.out.1 rfl, i, v, hd1.out, HF.out, rfl⟩)
      clear hv hOK HF HR
      go_wp2_with fail
      refine (iUsed_calls v [_, _, _, _] _ B (by omega) HV.out hsum).mono ?_
      rintro e w3 ⟨rfl, hb4⟩
      go_wp2
      go_ret
      exact ⟨_, rfl, HU.out, hb.trans (hb4.mono (by omega))⟩

theorem row4_again {w : World} {B : Nat} {vs : List Asker} {ad : Addr} {c k : Nat} {v : Asker} (h : RD w B (.row 4 vs.length (askersDs vs)) (.slice (some ad) vs.length c)) (hd : vs.drop k = v :: vs.drop (k + 1)) (hk : k < vs.length) :
    ∃ (s : ByteArray) (a b : Int) (A4 : Option Addr) (n4 q4 : Nat), RDv w B (askerDs v) [.string s, .int .i64 a, .int .i64 b, .slice A4 n4 q4] ∧ w.cell? (ad.add (k * 4)) = some (.string s) ∧ w.cell? ⟨(ad.add (k * 4)).block, (ad.add (k * 4)).off + 1, none⟩ = some (.int .i64 a) ∧
      w.cell? ⟨(ad.add (k * 4)).block, (ad.add (k * 4)).off + 2, none⟩ = some (.int .i64 b) ∧ w.cell? ⟨(ad.add (k * 4)).block, (ad.add (k * 4)).off + 3, none⟩ = some (.slice A4 n4 q4) := by
  obtain ⟨ad', v', x0, x1, x2, x3, ea, hbl, hv, hm, hd1, y0, y1, y2, y3⟩ := row4_at h rfl hk
  injection ea with ea
  subst ea
  obtain rfl : v = v' := by
    have h1 := hd1.out
    rw [hd] at h1
    injection h1
  obtain ⟨a0, b0, b1, A4, n4, q4, es⟩ := askerDs_shape hv
  simp only [List.cons.injEq, and_true] at es
  obtain ⟨rfl, rfl, rfl, rfl⟩ := es
  exact ⟨a0, b0, b1, A4, n4, q4, hv, y0, y1, y2, y3⟩

set_option maxRecDepth 100000 in
set_option maxHeartbeats 4000000 in
theorem sUsedOf_calls (x : Shelf) (us : List Value) (s : ByteArray) (w : World) (B : Nat) (hB : B ≤ w.heap.size) (h : RDv w B (shelfDs x) us) (hC : ∀ a ∈ x.askers, ∀ y ∈ a.trees, valCnt y.v ≤ 1099511627776) :
    Calls Try.prog 17 #[.agg us.toArray, .string s] w (PUsed x s w) := by
  obtain ⟨A, c, rfl, hl⟩ := shelfDs_open h
  have HX := Lib.hid h
  have HL := Lib.hid hl
  have hn2 := hl.len
  clear h hl
  have hbx := fun o1 => below_box w o1
  go_enter Try.func17, Try.ntmps17
  go_wp2_with fail
  refine (sShelfOk_calls x [_] _ B (Nat.le_trans hB (hbx _).size) (HX.out.below ((hbx _).mono hB)) hC).mono ?_
  rintro e w1 ⟨r1, rfl, hr1, hb1⟩
  have HR := Lib.hid hr1
  have hb0 := boxes1_of hb1
  obtain ⟨hb, hz, bP⟩ := boxes1 (P := [_]) hb0
  obtain ⟨cP, fP⟩ := blk_rules bP
  clear hr1 hb1 bP hbx hC
  cases r1 with
  | false =>
    have HN := Lib.hid (show UsedIs x s (-1) from .inl ⟨fun h => absurd (HR.out.2 h.1) (by simp), rfl⟩)
    go_wp2
    go_ret
    exact ⟨_, rfl, HN.out, hb⟩
  | true =>
    have OKS := Lib.hid (HR.out.1 rfl)
    go_wp2_with fail
    refine (sWho_calls x [_] s _ B (by omega) (HX.out.below (hb.mono hB))).mono ?_
    rintro e w2 ⟨r, rfl, hr, hb2⟩
    have HF := Lib.hid hr
    have hb3 := hb0.trans (hb2.mono hz)
    clear hr hb2 hb0 hb hz cP fP
    obtain ⟨hb, hz, bP⟩ := boxes1 (P := [_]) hb3
    have BP := Lib.hid bP
    have HB := Lib.hid hb
    by_cases t : r < 0
    · have HN := Lib.hid (show UsedIs x s (-1) from .inl ⟨fun h => (HF.out.nonneg.1 t) h.2, rfl⟩)
      go_wp2
      go_ret
      exact ⟨_, rfl, HN.out, hb⟩
    · have K2 := Lib.hid (show Has [(w.heap.size, [.slice A x.askers.length c])] w2.drew from
        Has.cons (Nat.lt_of_lt_of_le (by omega) (Nat.le_refl w2.heap.size)) (fun i u hu => (bP.cell i).trans hu) (Has.nil _))
      obtain ⟨i, rfl⟩ : ∃ i : Nat, r = i := ⟨r.toNat, by omega⟩
      have hlt : i < x.askers.length := by
        rcases HF.out with ⟨h1, _⟩ | ⟨k, h1, h2, _⟩
        · omega
        · obtain rfl : i = k := by omega
          have := (List.getElem?_eq_some_iff.1 h2).1
          simpa using this
      have D2 := Lib.hid (show Below w2.heap.size w2 w2.drew from (Below.refl _ _).drew)
      have HX2 := Lib.hid (HX.out.below ((hb.trans (D2.out.mono (by omega))).mono hB))
      have hBw : B ≤ w2.drew.heap.size := show B ≤ w2.heap.size by omega
      have j0 : (0 : Int) ≤ (i : Int) := by omega
      have j1 : (i : Int) < (x.askers.length : Int) := by omega
      have hbd := hb.trans (D2.out.mono (by omega))
      clear hb3 bP HR
      have hz' : w.heap.size ≤ w2.drew.heap.size := show w.heap.size ≤ w2.heap.size by omega
      obtain ⟨ad, v, _, _, _, _, rfl, _, _, hm, hd1, _⟩ := row4_at (HL.out.upto (hbd.mono hB) (Nat.le_refl _)) rfl hlt
      obtain ⟨a0, a1, a2, A4, n4, q4, hv3, y0, y1, y2, y3⟩ := row4_again (HL.out.upto (hbd.mono hB) (Nat.le_refl _)) hd1.out hlt
      have hadB : ad.block < B := by
        obtain ⟨_, _, _, _, _, _, ea, hbl, _⟩ := row4_at HL.out rfl hlt
        cases ea
        exact hbl
      have hblk : (ad.add (i * 4)).block < w2.drew.heap.size := by rw [block_of_add]; omega
      have HY := Lib.hid (fun w3 (hb4 : Below w2.drew.heap.size w2.drew w3) => (show w3.cell? (ad.add (i * 4)) = some (.string a0) ∧ w3.cell? ⟨(ad.add (i * 4)).block, (ad.add (i * 4)).off + 1, none⟩ = some (.int .i64 a1) ∧ w3.cell? ⟨(ad.add (i * 4)).block, (ad.add (i * 4)).off + 2, none⟩ = some (.int .i64 a2) ∧ w3.cell? ⟨(ad.add (i * 4)).block, (ad.add (i * 4)).off + 3, none⟩ = some (.slice A4 n4 q4) from
        ⟨(hb4.cell (p := ad.add (i * 4)) hblk).trans y0, (hb4.cell (p := ⟨(ad.add (i * 4)).block, (ad.add (i * 4)).off + 1, none⟩) hblk).trans y1, (hb4.cell (p := ⟨(ad.add (i * 4)).block, (ad.add (i * 4)).off + 2, none⟩) hblk).trans y2, (hb4.cell (p := ⟨(ad.add (i * 4)).block, (ad.add (i * 4)).off + 3, none⟩) hblk).trans y3⟩))
      have HV3 := Lib.hid hv3
      have HU := Lib.hid (show UsedIs x s (keptsCnt v.trees) from .inr ⟨OKS.out, i, v, hd1.out, HF.out, rfl⟩)
      have hokv : ∀ y ∈ v.trees, ValOk y.v := fun y hy => ((OKS.out.1 v hm).2.2.2.2.1 y hy).2
      have hsum : keptsCnt v.trees ≤ 1099511627776 := by
        have h1 := keptsCnt_le v.trees hokv
        have h2 := (OKS.out.1 v hm).2.2.2.1
        omega
      have HOV := Lib.hid hokv
      have HDT := Lib.hid (fun r2 (h : First (x.askers.map (·.name)) s r2) => First.det h HF.out)
      clear hokv hd1 hm OKS hv3
      go_wp2_with fail
      have k0 := K2.out.head 0 rfl
      obtain ⟨hy0, hy1, hy2, hy3⟩ := HY.out w2.drew (Below.refl _ _)
      go_region_held3 (fun w' => w'.cell? ⟨w.heap.size, 0, none⟩ = some (.slice (some ad) x.askers.length c) ∧ w'.cell? (ad.add (i * 4)) = some (.string a0) ∧ w'.cell? ⟨(ad.add (i * 4)).block, (ad.add (i * 4)).off + 1, none⟩ = some (.int .i64 a1) ∧ w'.cell? ⟨(ad.add (i * 4)).block, (ad.add (i * 4)).off + 2, none⟩ = some (.int .i64 a2) ∧ w'.cell? ⟨(ad.add (i * 4)).block, (ad.add (i * 4)).off + 3, none⟩ = some (.slice A4 n4 q4))
        (first | exact ⟨k0, hy0, hy1, hy2, hy3⟩ | exact ⟨K3.out.head 0 rfl, HY.out _ hb4⟩ | exact ⟨K4.out.head 0 rfl, HY.out _ (hb4.trans (hb5.mono hb4.size))⟩ | go_keep)
        (first
          | (go_at_call 47; ((with_reducible refine (sWho_calls x [.slice (some ad) x.askers.length c] s w2.drew B hBw HX2.out).mono ?_); rintro e w3 ⟨r2, rfl, hr2, hb4⟩; obtain rfl := HDT.out r2 hr2; have K3 := Lib.hid (K2.out.below hb4)))
          | (go_at_call 48; ((with_reducible refine (sSum_calls v [.string a0, .int .i64 a1, .int .i64 a2, .slice A4 n4 q4] w3 B (Nat.le_trans hBw hb4.size) (HV3.out.below (hb4.mono hBw)) HOV.out hsum).mono ?_); rintro e w4 ⟨rfl, hb5⟩; have K4 := Lib.hid (K3.out.below hb5))))
      have hbe := hbd.trans ((hb4.trans (hb5.mono hb4.size)).mono hz')
      go_wp2
      go_ret
      exact ⟨_, rfl, HU.out, hbe⟩
end Go.Proofs.Ytppfgepoegicgaa
