/- ShelfJoin: the program's and the reference's answer. -/
import Derived.Test.YtppfgepoegicgaaGf
import Derived.Test.YtppfgepoegicgaaGj
namespace Go.Proofs.Ytppfgepoegicgaa
open Go Go.RowKit

/-- Two results: a shelf in new memory, and a code. -/
def PRes (R : Shelf → Int → Prop) (w : World) (e : Ending) (w' : World) : Prop :=
  ∃ (y : Shelf) (c : Int) (vs : List Value) (fp : List Nat), e = .returned (.tuple #[.agg vs.toArray, .int .i64 c]) ∧ R y c ∧ ODv w' (shelfDs y) vs fp ∧ Fresh w w' fp ∧ Below w.heap.size w w'
theorem PRes.empty {R : Shelf → Int → Prop} {c : Int} {w w' : World} (h : R ⟨[]⟩ c) (hb : Below w.heap.size w w') : PRes R w (.returned (.tuple #[.agg #[.slice none 0 0], .int .i64 c])) w' :=
  ⟨⟨[]⟩, c, [.slice none 0 0], [], rfl, h, ⟨_, _, [], [], rfl, rfl, OD.nil_row, rfl, rfl⟩, Fresh.nil _ _, hb⟩
/-- What is owned is laid into the result's cell r. -/
theorem PRes.of_od {R : Shelf → Int → Prop} {c : Int} {y : Shelf} {v : Value} {f : List Nat} {r : Nat} {w W : World} (h : R y c) (ho : OD W (.row 4 y.askers.length (askersDs y.askers)) v f) (hn : f.Nodup) (hl : ∀ b ∈ f, r < b) (hr : w.heap.size ≤ r) (hb : Below w.heap.size w W) :
    PRes R w (.returned (.tuple #[.agg #[v], .int .i64 c])) (W.setCell ⟨r, 0, none⟩ v) := by
  have hlt := OD.lt _ _ _ ho
  refine ⟨y, c, [v], f, rfl, h, ⟨_, _, f, [], rfl, by simp, OD.keep _ _ _ (fun b hm => Below.heap_setCell _ _ _ _ (by have := hl b hm; show b ≠ r; omega)) ho, rfl, rfl⟩, ⟨hn, fun b hm => ?_⟩, hb.setCell (by show w.heap.size ≤ r; omega) _⟩
  have := hl b hm
  have := hlt b hm
  simp [World.setCell]
  omega
theorem PRes.of_acc {R : Shelf → Int → Prop} {c : Int} {y : Shelf} {v : Value} {r g base : Nat} {w W : World} (h : R y c) (ho : Acc g base 61 4 W v y.askers.length (askersDs y.askers)) (hl : r < base) (hr : w.heap.size ≤ r) (hb : Below w.heap.size w W) :
    PRes R w (.returned (.tuple #[.agg #[v], .int .i64 c])) (W.setCell ⟨r, 0, none⟩ v) := by
  obtain ⟨W0, e0⟩ : ∃ W0 : World, W0.heap.size = r + 1 := ⟨{ w with heap := Array.replicate (r + 1) (.cells #[] 0 (0, 0)) }, by simp⟩
  obtain ⟨f, h1, h2⟩ := ho.done (w := W0) (by omega)
  exact PRes.of_od h h1 h2.1 (fun b hm => by have := (h2.2 b hm).1; omega) hr hb

def JoinIs (x : Shelf) (nm : ByteArray) (m f : Int) (y : Shelf) (c : Int) : Prop :=
  (¬ SOk x ∧ y = ⟨[]⟩ ∧ c = 5) ∨ (SOk x ∧ ((¬ (NameOk nm ∧ (0 ≤ m ∧ m ≤ 150) ∧ (0 ≤ f ∧ f ≤ 5000)) ∧ y = x ∧ c = 3) ∨ ((NameOk nm ∧ (0 ≤ m ∧ m ≤ 150) ∧ (0 ≤ f ∧ f ≤ 5000)) ∧
    (((nm ∈ x.askers.map (·.name) ∨ 4 ≤ x.askers.length) ∧ y = x ∧ c = 2) ∨ (¬ (nm ∈ x.askers.map (·.name) ∨ 4 ≤ x.askers.length) ∧ y = ⟨x.askers ++ [⟨nm, m, f, []⟩]⟩ ∧ c = 0)))))
theorem JoinIs.det {x : Shelf} {nm : ByteArray} {m f : Int} {y y' : Shelf} {c c' : Int} (h : JoinIs x nm m f y c) (h' : JoinIs x nm m f y' c') : y = y' ∧ c = c' := by
  rcases h with ⟨h1, rfl, rfl⟩ | ⟨h1, ⟨h2, rfl, rfl⟩ | ⟨h2, ⟨h3, rfl, rfl⟩ | ⟨h3, rfl, rfl⟩⟩⟩ <;>
  rcases h' with ⟨g1, rfl, rfl⟩ | ⟨g1, ⟨g2, rfl, rfl⟩ | ⟨g2, ⟨g3, rfl, rfl⟩ | ⟨g3, rfl, rfl⟩⟩⟩ <;>
  first | exact ⟨rfl, rfl⟩ | exact absurd g1 h1 | exact absurd h1 g1 | exact absurd g2 h2 | exact absurd h2 g2 | exact absurd g3 h3 | exact absurd h3 g3
theorem shelf_eta (x : Shelf) : (⟨x.askers⟩ : Shelf) = x := rfl

set_option maxRecDepth 100000 in
set_option maxHeartbeats 4000000 in
theorem iJoin_calls (x : Shelf) (us : List Value) (nm : ByteArray) (m f : Int) (w : World) (B : Nat) (hB : B ≤ w.heap.size) (h : RDv w B (shelfDs x) us) (hsm : SmallDs (shelfDs x)) (hs : nm.size ≤ 9223372036854775807) :
    Calls Try.prog 26 #[.agg us.toArray, .string nm, .int .i64 m, .int .i64 f] w (PRes (JoinIs x nm m f) w) := by
  obtain ⟨A, c, rfl, hl⟩ := shelfDs_open h
  have HX := Lib.hid h
  have HSM := Lib.hid hsm
  have hn2 := hl.len
  have hln : x.askers.length ≤ 1048576 := hsm.1.1
  clear h hl hsm
  obtain ⟨iA, hiA, zA0, zA1, zA2⟩ := info_parts' Try.info_Asker
  have hbx := fun o1 o2 => below_box2 w o1 o2
  go_enter Try.func26, Try.ntmps26
  go_wp2_with fail
  refine (iShelfOk_calls x [_] _ B (Nat.le_trans hB (hbx _ _).size) (HX.out.below ((hbx _ _).mono hB))).mono ?_
  rintro e w1 ⟨r1, rfl, hr1, hb1⟩
  have HR := Lib.hid hr1
  obtain ⟨hb, hz, bP, bR⟩ := boxes2 (P := [_]) (R := [_]) (boxes2_of hb1)
  obtain ⟨cP, fP⟩ := blk_rules bP
  obtain ⟨cR, fR⟩ := blk_rules bR
  have HP := Lib.hid bP
  have HRb := Lib.hid bR
  clear hr1 hb1 bP bR hbx
  cases r1 with
  | false =>
    have HN := Lib.hid (show JoinIs x nm m f ⟨[]⟩ 5 from .inl ⟨fun h => absurd (HR.out.2 h) (by simp), rfl, rfl⟩)
    go_wp2
    refine bodyPost_ret (v := .tuple #[.agg #[.slice none 0 0], .int .i64 5]) (by simp [results, Try.results26, go_sem, cR]) rfl ?_
    exact PRes.empty HN.out (hb.setCell (by show w.heap.size ≤ w.heap.size + 1; omega) _)
  | true =>
    have OKS := Lib.hid (HR.out.1 rfl)
    have HL4 := (HR.out.1 rfl).2.2
    go_wp2_with fail
    refine (cloneShelf_calls x [_] _ B (by omega) (HX.out.below (hb.mono hB)) HSM.out).mono ?_
    rintro e w2 ⟨v2, g2, rfl, ha2, hb2⟩
    obtain ⟨A2, n2, c2, rfl⟩ := ha2.shape
    have HA2 := Lib.hid ((ha2.avoid (Nat.le_refl _)).below (below_box w2 (.cells #[.slice A2 n2 c2] 29)))
    have hz2 := hb2.size
    have HB3 := Lib.hid ((hb.trans (hb2.mono (by omega))).trans ((below_box w2 (.cells #[.slice A2 n2 c2] 29)).mono (by omega)))
    have HP2 := Lib.hid ((HP.out.below hb2).alloc (.cells #[.slice A2 n2 c2] 29))
    have HR2 := Lib.hid ((HRb.out.below hb2).alloc (.cells #[.slice A2 n2 c2] 29))
    have HO2 := Lib.hid (Blk.new w2 29 [.slice A2 n2 c2])
    have E2 := Lib.hid (show (w2.alloc (.cells #[.slice A2 n2 c2] 29)).heap.size = w2.heap.size + 1 by simp)
    clear ha2 hb2 cP fP cR fR HP HRb HR
    obtain ⟨cP, fP⟩ := blk_rules HP2.out
    obtain ⟨cR, fR⟩ := blk_rules HR2.out
    obtain ⟨cO, fO⟩ := blk_rules HO2.out
    by_cases tn : NameOk nm
    case neg =>
      have HN := Lib.hid (show JoinIs x nm m f x 3 from .inr ⟨OKS.out, .inl ⟨fun h => tn h.1, rfl, rfl⟩⟩)
      go_wp2_with fail
      refine ((iNameOk_calls nm _ hs).mono fun e w' h => h.false_ tn).mono ?_
      rintro e w3 ⟨rfl, rfl⟩
      go_wp2
      refine bodyPost_ret (v := .tuple #[.agg #[.slice A2 n2 c2], .int .i64 3]) (by simp [results, Try.results26, go_sem, cR]) rfl ?_
      exact PRes.of_acc HN.out HA2.out (by omega) (by omega) HB3.out
    by_cases tb : (0 ≤ m ∧ m ≤ 150) ∧ (0 ≤ f ∧ f ≤ 5000)
    case neg =>
      have HN := Lib.hid (show JoinIs x nm m f x 3 from .inr ⟨OKS.out, .inl ⟨fun h => tb h.2, rfl, rfl⟩⟩)
      go_wp2_with fail
      refine ((iNameOk_calls nm _ hs).mono fun e w' h => h.true_ tn).mono ?_
      rintro e w3 ⟨rfl, rfl⟩
      go_wp2_with fail
      refine ((iBounds_calls m f _).mono fun e w' h => h.false_ tb).mono ?_
      rintro e w3 ⟨rfl, rfl⟩
      go_wp2
      refine bodyPost_ret (v := .tuple #[.agg #[.slice A2 n2 c2], .int .i64 3]) (by simp [results, Try.results26, go_sem, cR]) rfl ?_
      exact PRes.of_acc HN.out HA2.out (by omega) (by omega) HB3.out
    have HTB := Lib.hid (show NameOk nm ∧ (0 ≤ m ∧ m ≤ 150) ∧ (0 ≤ f ∧ f ≤ 5000) from ⟨tn, tb⟩)
    go_wp2_with fail
    refine ((iNameOk_calls nm _ hs).mono fun e w' h => h.true_ tn).mono ?_
    rintro e w3 ⟨rfl, rfl⟩
    go_wp2_with fail
    refine ((iBounds_calls m f _).mono fun e w' h => h.true_ tb).mono ?_
    rintro e w3 ⟨rfl, rfl⟩
    clear tn tb
    go_wp2_with fail
    refine (iAsker_calls x [_] nm _ B (by rw [E2.out]; omega) (HX.out.below (HB3.out.mono hB))).mono ?_
    rintro e w4 ⟨r, rfl, hf, hb4⟩
    have HF := Lib.hid hf
    have HA4 := Lib.hid (HA2.out.below hb4)
    have HP4 := Lib.hid (HP2.out.below hb4)
    have HR4 := Lib.hid (HR2.out.below hb4)
    have HO4 := Lib.hid (HO2.out.below hb4)
    have hz4 := hb4.size
    rw [E2.out] at hz4
    have HB4 := Lib.hid (HB3.out.trans (hb4.mono (by rw [E2.out]; omega)))
    clear hf hb4 cP fP cR fR cO fO HP2 HR2 HO2 HA2
    obtain ⟨cP, fP⟩ := blk_rules HP4.out
    obtain ⟨cR, fR⟩ := blk_rules HR4.out
    obtain ⟨cO, fO⟩ := blk_rules HO4.out
    by_cases tr : 0 ≤ r
    · have HN := Lib.hid (show JoinIs x nm m f x 2 from .inr ⟨OKS.out, .inr ⟨HTB.out, .inl ⟨.inl (Classical.byContradiction fun h => by have := HF.out.nonneg.2 h; omega), rfl, rfl⟩⟩⟩)
      have tr' : decide (0 ≤ r) = true := by simpa using tr
      go_wp2
      refine bodyPost_ret (v := .tuple #[.agg #[.slice A2 n2 c2], .int .i64 2]) (by simp [results, Try.results26, go_sem, cR]) rfl ?_
      exact PRes.of_acc HN.out HA4.out (by omega) (by omega) HB4.out
    have tr' : decide (0 ≤ r) = false := by simpa using tr
    have HNI := Lib.hid (HF.out.nonneg.1 (by omega))
    by_cases tl : x.askers.length = 4
    · have HN := Lib.hid (show JoinIs x nm m f x 2 from .inr ⟨OKS.out, .inr ⟨HTB.out, .inl ⟨.inr (by omega), rfl, rfl⟩⟩⟩)
      have tl' : ((x.askers.length : Int) == 4) = true := by simp; omega
      clear tl tr
      go_wp2
      refine bodyPost_ret (v := .tuple #[.agg #[.slice A2 n2 c2], .int .i64 2]) (by simp [results, Try.results26, go_sem, cR]) rfl ?_
      exact PRes.of_acc HN.out HA4.out (by omega) (by omega) HB4.out
    have tl' : ((x.askers.length : Int) == 4) = false := by simp; omega
    have HN := Lib.hid (show JoinIs x nm m f ⟨x.askers ++ [⟨nm, m, f, []⟩]⟩ 0 from .inr ⟨OKS.out, .inr ⟨HTB.out, .inr ⟨fun h => h.elim (fun h => HNI.out h) (fun h => by omega), rfl, rfl⟩⟩⟩)
    have H5 := Lib.hid (show Below w4.heap.size w4 (w4.alloc (.cells #[] 70)) from below_box _ _)
    have HO5 := Lib.hid (show ODv (w4.alloc (.cells #[] 70)) (askerDs ⟨nm, m, f, []⟩) [.string nm, .int .i64 m, .int .i64 f, .slice (some ⟨w4.heap.size, 0, none⟩) 0 0] [] from
      ⟨_, _, [], [], rfl, rfl, ⟨rfl, hs, rfl⟩, _, _, [], [], rfl, rfl, ⟨rfl, rfl⟩, _, _, [], [], rfl, rfl, ⟨rfl, rfl⟩, _, _, [], [], rfl, rfl, OD.nil_row, rfl, rfl⟩)
    have E5 := Lib.hid (show (w4.alloc (.cells #[] 70)).heap.size = w4.heap.size + 1 by simp)
    have hxl : w2.heap.size < w4.heap.size := by omega
    clear tl tr
    go_wp2_with (at_builtin; go_loud (refine wpList_append_accH rfl _ _ 27 rfl 61 iA _ 4 56 Try.underlying27 hiA zA0 zA1 zA2 rfl (by decide) rfl E5.out rfl HA4.out H5.out HO5.out (Fresh.nil _ _) rfl (by unfold maxLen; omega) (by omega) (by omega) hxl ?_; intro v7 w7 hA7 hB7 hz7; obtain ⟨A9, n9, c9, rfl⟩ := hA7.shape; have HA7 := Lib.hid hA7; have HB7 := Lib.hid (HB4.out.trans ((H5.out.mono (by omega)).trans (hB7.mono (by omega)))); have HQ7 := Lib.hid (hB7.mono (Nat.le_refl _)); have HR7 := Lib.hid (((HR4.out.alloc (.cells #[] 70))).same (hB7.block _ (by omega))); have HO7 := Lib.hid ((HO4.out.alloc (.cells #[] 70)).same (hz7.2 _ (.inr rfl) (by rw [E5.out]; omega))); clear hA7 hB7 hz7 cP fP cR fR cO fO; obtain ⟨cR, fR⟩ := blk_rules HR7.out; obtain ⟨cO, fO⟩ := blk_rules HO7.out))
    refine bodyPost_ret (v := .tuple #[.agg #[.slice A9 n9 c9], .int .i64 0]) (by simp [results, Try.results26, go_sem, cR]) rfl ?_
    refine PRes.of_acc HN.out (show Acc w2.heap.size w1.heap.size 61 4 (w7.setCell ⟨w2.heap.size, 0, none⟩ (.slice A9 n9 c9)) (.slice A9 n9 c9) (x.askers ++ [(⟨nm, m, f, []⟩ : Asker)]).length (askersDs (x.askers ++ [(⟨nm, m, f, []⟩ : Asker)])) from ?_) (by omega) (by omega) (HB7.out.setCell (by show w.heap.size ≤ w2.heap.size; omega) _)
    rw [List.length_append, askersDs_append, show askersDs [(⟨nm, m, f, []⟩ : Asker)] = askerDs ⟨nm, m, f, []⟩ by simp [askersDs]]
    exact HA7.out.keep (by simp [World.setCell]) fun b _ _ hb => Below.heap_setCell w7 ⟨w2.heap.size, 0, none⟩ _ b hb

set_option maxRecDepth 100000 in
set_option maxHeartbeats 4000000 in
theorem sJoin_calls (x : Shelf) (us : List Value) (nm : ByteArray) (m f : Int) (w : World) (B : Nat) (hB : B ≤ w.heap.size) (h : RDv w B (shelfDs x) us) (hsm : SmallDs (shelfDs x)) (hC : ∀ a ∈ x.askers, ∀ y ∈ a.trees, valCnt y.v ≤ 1099511627776) (hs : nm.size ≤ 9223372036854775807) :
    Calls Try.prog 25 #[.agg us.toArray, .string nm, .int .i64 m, .int .i64 f] w (PRes (JoinIs x nm m f) w) := by
  obtain ⟨A, c, rfl, hl⟩ := shelfDs_open h
  have HX := Lib.hid h
  have HSM := Lib.hid hsm
  have hn2 := hl.len
  have hln : x.askers.length ≤ 1048576 := hsm.1.1
  clear h hl hsm
  obtain ⟨iA, hiA, zA0, zA1, zA2⟩ := info_parts' Try.info_Asker
  have hbx := fun o1 o2 => below_box2 w o1 o2
  go_enter Try.func25, Try.ntmps25
  go_wp2_with fail
  refine (sShelfOk_calls x [_] _ B (Nat.le_trans hB (hbx _ _).size) (HX.out.below ((hbx _ _).mono hB)) hC).mono ?_
  rintro e w1 ⟨r1, rfl, hr1, hb1⟩
  have HR := Lib.hid hr1
  obtain ⟨hb, hz, bP, bR⟩ := boxes2 (P := [_]) (R := [_]) (boxes2_of hb1)
  obtain ⟨cP, fP⟩ := blk_rules bP
  obtain ⟨cR, fR⟩ := blk_rules bR
  have HP := Lib.hid bP
  have HRb := Lib.hid bR
  clear hr1 hb1 bP bR hbx hC
  cases r1 with
  | false =>
    have HN := Lib.hid (show JoinIs x nm m f ⟨[]⟩ 5 from .inl ⟨fun h => absurd (HR.out.2 h) (by simp), rfl, rfl⟩)
    go_wp2
    refine bodyPost_ret (v := .tuple #[.agg #[.slice none 0 0], .int .i64 5]) (by simp [results, Try.results25, go_sem, cR]) rfl ?_
    exact PRes.empty HN.out (hb.setCell (by show w.heap.size ≤ w.heap.size + 1; omega) _)
  | true =>
    have OKS := Lib.hid (HR.out.1 rfl)
    have HL4 := (HR.out.1 rfl).2.2
    go_wp2_with fail
    refine (copyShelf_calls x [_] _ B (by omega) (HX.out.below (hb.mono hB)) HSM.out).mono ?_
    rintro e w2 ⟨v2, g2, rfl, ha2, hb2⟩
    obtain ⟨A2, n2, c2, rfl⟩ := ha2.shape
    have HA2 := Lib.hid ((ha2.avoid (Nat.le_refl _)).below (below_box w2 (.cells #[.slice A2 n2 c2] 29)))
    have hz2 := hb2.size
    have HB3 := Lib.hid ((hb.trans (hb2.mono (by omega))).trans ((below_box w2 (.cells #[.slice A2 n2 c2] 29)).mono (by omega)))
    have HP2 := Lib.hid ((HP.out.below hb2).alloc (.cells #[.slice A2 n2 c2] 29))
    have HR2 := Lib.hid ((HRb.out.below hb2).alloc (.cells #[.slice A2 n2 c2] 29))
    have HO2 := Lib.hid (Blk.new w2 29 [.slice A2 n2 c2])
    have E2 := Lib.hid (show (w2.alloc (.cells #[.slice A2 n2 c2] 29)).heap.size = w2.heap.size + 1 by simp)
    clear ha2 hb2 cP fP cR fR HP HRb HR
    obtain ⟨cP, fP⟩ := blk_rules HP2.out
    obtain ⟨cR, fR⟩ := blk_rules HR2.out
    obtain ⟨cO, fO⟩ := blk_rules HO2.out
    by_cases tn : NameOk nm
    case neg =>
      have HN := Lib.hid (show JoinIs x nm m f x 3 from .inr ⟨OKS.out, .inl ⟨fun h => tn h.1, rfl, rfl⟩⟩)
      go_wp2_with fail
      refine ((sName_calls nm _ hs).mono fun e w' h => h.false_ tn).mono ?_
      rintro e w3 ⟨rfl, rfl⟩
      go_wp2
      refine bodyPost_ret (v := .tuple #[.agg #[.slice A2 n2 c2], .int .i64 3]) (by simp [results, Try.results25, go_sem, cR]) rfl ?_
      exact PRes.of_acc HN.out HA2.out (by omega) (by omega) HB3.out
    by_cases tb : (0 ≤ m ∧ m ≤ 150) ∧ (0 ≤ f ∧ f ≤ 5000)
    case neg =>
      have HN := Lib.hid (show JoinIs x nm m f x 3 from .inr ⟨OKS.out, .inl ⟨fun h => tb h.2, rfl, rfl⟩⟩)
      go_wp2_with fail
      refine ((sName_calls nm _ hs).mono fun e w' h => h.true_ tn).mono ?_
      rintro e w3 ⟨rfl, rfl⟩
      by_cases b1 : m < 0
      rotate_left
      by_cases b2 : 150 < m
      rotate_left
      by_cases b3 : f < 0
      rotate_left
      have b4 : 5000 < f := by omega
      all_goals
        clear tb
        go_wp2
        refine bodyPost_ret (v := .tuple #[.agg #[.slice A2 n2 c2], .int .i64 3]) (by simp [results, Try.results25, go_sem, cR]) rfl ?_
        exact PRes.of_acc HN.out HA2.out (by omega) (by omega) HB3.out
    have HTB := Lib.hid (show NameOk nm ∧ (0 ≤ m ∧ m ≤ 150) ∧ (0 ≤ f ∧ f ≤ 5000) from ⟨tn, tb⟩)
    have b1 : ¬ m < 0 := by omega
    have b2 : ¬ 150 < m := by omega
    have b3 : ¬ f < 0 := by omega
    have b4 : ¬ 5000 < f := by omega
    go_wp2_with fail
    refine ((sName_calls nm _ hs).mono fun e w' h => h.true_ tn).mono ?_
    rintro e w3 ⟨rfl, rfl⟩
    clear tn tb
    go_wp2_with fail
    refine (sWho_calls x [_] nm _ B (by rw [E2.out]; omega) (HX.out.below (HB3.out.mono hB))).mono ?_
    rintro e w4 ⟨r, rfl, hf, hb4⟩
    have HF := Lib.hid hf
    have HA4 := Lib.hid (HA2.out.below hb4)
    have HP4 := Lib.hid (HP2.out.below hb4)
    have HR4 := Lib.hid (HR2.out.below hb4)
    have HO4 := Lib.hid (HO2.out.below hb4)
    have hz4 := hb4.size
    rw [E2.out] at hz4
    have HB4 := Lib.hid (HB3.out.trans (hb4.mono (by rw [E2.out]; omega)))
    clear hf hb4 cP fP cR fR cO fO HP2 HR2 HO2 HA2 b1 b2 b3 b4
    obtain ⟨cP, fP⟩ := blk_rules HP4.out
    obtain ⟨cR, fR⟩ := blk_rules HR4.out
    obtain ⟨cO, fO⟩ := blk_rules HO4.out
    by_cases tr : 0 ≤ r
    · have HN := Lib.hid (show JoinIs x nm m f x 2 from .inr ⟨OKS.out, .inr ⟨HTB.out, .inl ⟨.inl (Classical.byContradiction fun h => by have := HF.out.nonneg.2 h; omega), rfl, rfl⟩⟩⟩)
      have tr' : decide (0 ≤ r) = true := by simpa using tr
      go_wp2
      refine bodyPost_ret (v := .tuple #[.agg #[.slice A2 n2 c2], .int .i64 2]) (by simp [results, Try.results25, go_sem, cR]) rfl ?_
      exact PRes.of_acc HN.out HA4.out (by omega) (by omega) HB4.out
    have tr' : decide (0 ≤ r) = false := by simpa using tr
    have HNI := Lib.hid (HF.out.nonneg.1 (by omega))
    by_cases tl : 4 ≤ x.askers.length
    · have HN := Lib.hid (show JoinIs x nm m f x 2 from .inr ⟨OKS.out, .inr ⟨HTB.out, .inl ⟨.inr tl, rfl, rfl⟩⟩⟩)
      have tl' : decide ((4 : Int) ≤ (x.askers.length : Int)) = true := by simp; omega
      clear tl tr
      go_wp2
      refine bodyPost_ret (v := .tuple #[.agg #[.slice A2 n2 c2], .int .i64 2]) (by simp [results, Try.results25, go_sem, cR]) rfl ?_
      exact PRes.of_acc HN.out HA4.out (by omega) (by omega) HB4.out
    have tl' : decide ((4 : Int) ≤ (x.askers.length : Int)) = false := by simp; omega
    have HN := Lib.hid (show JoinIs x nm m f ⟨x.askers ++ [⟨nm, m, f, []⟩]⟩ 0 from .inr ⟨OKS.out, .inr ⟨HTB.out, .inr ⟨fun h => h.elim (fun h => HNI.out h) (fun h => by omega), rfl, rfl⟩⟩⟩)
    have HO5 := Lib.hid (show ODv w4 (askerDs ⟨nm, m, f, []⟩) [.string nm, .int .i64 m, .int .i64 f, .slice none 0 0] [] from
      ⟨_, _, [], [], rfl, rfl, ⟨rfl, hs, rfl⟩, _, _, [], [], rfl, rfl, ⟨rfl, rfl⟩, _, _, [], [], rfl, rfl, ⟨rfl, rfl⟩, _, _, [], [], rfl, rfl, OD.nil_row, rfl, rfl⟩)
    have hxl : w2.heap.size < w4.heap.size := by omega
    have hB2 : B ≤ w2.heap.size := by omega
    clear tl tr
    go_wp2_with (at_builtin; (refine wpList_append_accH rfl _ _ 27 rfl 61 iA _ 4 56 Try.underlying27 hiA zA0 zA1 zA2 rfl (by decide) rfl (rfl : w4.heap.size = w4.heap.size) rfl HA4.out (Below.refl _ _) HO5.out (Fresh.nil _ _) rfl (by unfold maxLen; omega) (by omega) (by omega) hxl ?_; intro v7 w7 hA7 hB7 hz7; obtain ⟨A9, n9, c9, rfl⟩ := hA7.shape; have HA7 := Lib.hid hA7; have HB7 := Lib.hid (HB4.out.trans (hB7.mono (by omega))); have hz7s := hz7.1; have HR7 := Lib.hid (HR4.out.same (hB7.block _ (by omega))); have HO7 := Lib.hid (HO4.out.same (hz7.2 _ (.inr rfl) (by omega))); clear hA7 hB7 hz7 cP fP cR fR cO fO; obtain ⟨cR, fR⟩ := blk_rules HR7.out; obtain ⟨cO, fO⟩ := blk_rules HO7.out))
    have HA8 := Lib.hid (show Acc w2.heap.size w1.heap.size 61 4 (w7.setCell ⟨w2.heap.size, 0, none⟩ (.slice A9 n9 c9)) (.slice A9 n9 c9) (x.askers ++ [(⟨nm, m, f, []⟩ : Asker)]).length (askersDs (x.askers ++ [(⟨nm, m, f, []⟩ : Asker)])) by
      rw [List.length_append, askersDs_append, show askersDs [(⟨nm, m, f, []⟩ : Asker)] = askerDs ⟨nm, m, f, []⟩ by simp [askersDs]]
      exact HA7.out.keep (by simp [World.setCell]) fun b _ _ hb => Below.heap_setCell w7 ⟨w2.heap.size, 0, none⟩ _ b hb)
    obtain ⟨f8, hO8, hF8⟩ := HA8.out.done (w := w1) (Nat.le_refl _)
    have HO8 := Lib.hid (show RDv (w7.setCell ⟨w2.heap.size, 0, none⟩ (.slice A9 n9 c9)) (w7.setCell ⟨w2.heap.size, 0, none⟩ (.slice A9 n9 c9)).heap.size (shelfDs ⟨x.askers ++ [(⟨nm, m, f, []⟩ : Asker)]⟩) [.slice A9 n9 c9] from ⟨_, _, rfl, hO8.rd', rfl⟩)
    have HSM2 := Lib.hid (show SmallDs (shelfDs ⟨x.askers ++ [(⟨nm, m, f, []⟩ : Asker)]⟩) by
      have h1 := HSM.out
      have h2 : nm.size ≤ 1048576 := by have := HTB.out.1.1.2; omega
      simp only [shelfDs, SmallDs, SmallD, and_true] at h1 ⊢
      rw [List.length_append, askersDs_append, smallDs_append]
      refine ⟨by simp; omega, h1.2, ?_⟩
      simp only [askersDs, askerDs, keptsDs, List.append_nil, SmallDs, SmallD, List.length_nil]
      exact ⟨h2, trivial, trivial, ⟨by omega, trivial⟩, trivial⟩)
    have HR8 := Lib.hid (HR7.out.far (p := ⟨w2.heap.size, 0, none⟩) (by show w.heap.size + 1 ≠ w2.heap.size; omega) (.slice A9 n9 c9))
    have HB8 := Lib.hid (HB7.out.setCell (p := ⟨w2.heap.size, 0, none⟩) (by show w.heap.size ≤ w2.heap.size; omega) (.slice A9 n9 c9))
    have hz8 : w1.heap.size ≤ (w7.setCell ⟨w2.heap.size, 0, none⟩ (.slice A9 n9 c9)).heap.size := by simp [World.setCell]; omega
    clear hO8 hF8 cR fR cO fO
    refine (copyShelf_calls _ [_] _ _ (Nat.le_refl _) HO8.out HSM2.out).mono ?_
    rintro e w9 ⟨v9, g9, rfl, ha9, hb9⟩
    obtain ⟨A10, n10, c10, rfl⟩ := ha9.shape
    have HA9 := Lib.hid ha9
    have HR9 := Lib.hid (HR8.out.below hb9)
    have HB9 := Lib.hid (HB8.out.trans (hb9.mono (by omega)))
    obtain ⟨cR, fR⟩ := blk_rules HR9.out
    clear ha9 hb9
    go_wp2
    refine bodyPost_ret (v := .tuple #[.agg #[.slice A10 n10 c10], .int .i64 0]) (by simp [results, Try.results25, go_sem, cR]) rfl ?_
    exact PRes.of_acc HN.out HA9.out (by omega) (by omega) HB9.out
end Go.Proofs.Ytppfgepoegicgaa
