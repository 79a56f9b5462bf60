/- Slim: the specification's and the program's answer. -/
import Derived.Test.YtppfgepoegicgaaGreatDoorZSlimS
import Derived.Test.YtppfgepoegicgaaGreatDoorZSlimI
import Derived.Test.YtppfgepoegicgaaGreatDoorGy
import Derived.Test.YtppfgepoegicgaaGreatDoorGad
import Derived.Test.YtppfgepoegicgaaGreatDoorZFOkI0
import Derived.Test.YtppfgepoegicgaaGreatDoorGv
namespace Go.Proofs.YtppfgepoegicgaaGreatDoor
open Go Go.RowKit

def zeroFilt : Filt := .mk 0 0 ⟨#[]⟩ zeroVal []
/-- What Slim answers. -/
def Slimmed (x y : Filt) : Prop := (FOk x → y = slimF x) ∧ (¬ FOk x → y = zeroFilt)
theorem Slimmed.det {x r1 r2 : Filt} (h1 : Slimmed x r1) (h2 : Slimmed x r2) : r1 = r2 := by
  by_cases h : FOk x
  · rw [h1.1 h, h2.1 h]
  · rw [h1.2 h, h2.2 h]
theorem slimmed_few {x y : Filt} (h : Slimmed x y) : topF y ≤ 10000000 := by
  by_cases hf : FOk x
  · rw [h.1 hf]
    exact form_few (slimF_form x 7 hf.1)
  · rw [h.2 hf]
    decide
/-- A filter of one's own comes back. -/
def PSlim (x : Filt) (w : World) (e : Ending) (w' : World) : Prop := ∃ (y : Filt) (vs : List Value) (fp : List Nat), e = .returned (.agg vs.toArray) ∧ Hid (Slimmed x y) ∧ Hid (ODv w' (filtDs y) vs fp) ∧ Hid (Fresh w w' fp) ∧ Hid (Below w.heap.size w w')
theorem odf_zero (w : World) : ODv w (filtDs zeroFilt) ([.int .i64 0, .int .i64 0, .string ⟨#[]⟩, .int .i64 0, .int .i64 0, .string ⟨#[]⟩, .slice none 0 0, .slice none 0 0, .slice none 0 0] : List Value) [] := by
  have hr : ∀ (w : World) (sz : Nat), OD w (.row sz 0 []) (.slice none 0 0) [] := fun w sz => OD.nil_row
  have hv : ODv w (valDs zeroVal) [.int .i64 0, .int .i64 0, .string ⟨#[]⟩, .slice none 0 0, .slice none 0 0] [] :=
    ⟨_, _, [], [], rfl, rfl, ⟨rfl, rfl⟩, _, _, [], [], rfl, rfl, ⟨rfl, rfl⟩, _, _, [], [], rfl, rfl, ⟨rfl, by decide, rfl⟩, _, _, [], [], rfl, rfl, hr w 1, _, _, [], [], rfl, rfl, hr w 5, rfl, rfl⟩
  have hk : ODv w [.row 9 0 []] [.slice none 0 0] [] := ⟨_, _, [], [], rfl, rfl, hr w 9, rfl, rfl⟩
  exact ⟨_, _, [], [], rfl, rfl, ⟨rfl, rfl⟩, _, _, [], [], rfl, rfl, ⟨rfl, rfl⟩, _, _, [], [], rfl, rfl, ⟨rfl, by decide, rfl⟩, ODv.append hv hk⟩
theorem PSlim.zero {x : Filt} {w W : World} {R : Nat} (h : ¬ FOk x) (hb : Below w.heap.size w W) (hR : w.heap.size ≤ R) : PSlim x w (.returned (.agg #[.int .i64 0, .int .i64 0, .string ⟨#[]⟩, .int .i64 0, .int .i64 0, .string ⟨#[]⟩, .slice none 0 0, .slice none 0 0, .slice none 0 0])) (setAll W R 0 ([.int .i64 0, .int .i64 0, .string ⟨#[]⟩, .int .i64 0, .int .i64 0, .string ⟨#[]⟩, .slice none 0 0, .slice none 0 0, .slice none 0 0] : List Value)) :=
  ⟨zeroFilt, ([.int .i64 0, .int .i64 0, .string ⟨#[]⟩, .int .i64 0, .int .i64 0, .string ⟨#[]⟩, .slice none 0 0, .slice none 0 0, .slice none 0 0] : List Value), [], rfl, ⟨fun e => absurd e h, fun _ => rfl⟩, odf_zero _, ⟨List.nodup_nil, fun b hb => by cases hb⟩, setAll_below _ hR hb⟩
theorem PSlim.yes {x : Filt} {w w5 W : World} {R : Nat} {vs : List Value} {fp : List Nat} (h : FOk x) (ho : ODv W (filtDs (slimF x)) vs fp) (hf : Fresh w5 W fp) (h5 : w.heap.size ≤ w5.heap.size) (hR5 : R < w5.heap.size) (hb : Below w.heap.size w W) (hR : w.heap.size ≤ R) : PSlim x w (.returned (.agg vs.toArray)) (setAll W R 0 vs) := by
  refine ⟨slimF x, vs, fp, rfl, ⟨fun _ => rfl, fun e => absurd h e⟩, ODv.keep _ _ _ (fun b hb' => setAll_other _ _ _ _ _ ?_) ho, ⟨hf.1, fun b hb' => ?_⟩, setAll_below _ hR hb⟩
  · have := (hf.2 b hb').1
    omega
  · have := hf.2 b hb'
    rw [setAll_size]
    omega
set_option maxRecDepth 100000 in
set_option maxHeartbeats 4000000 in
theorem sSlim_calls (x : Filt) (us : List Value) (w : World) (B : Nat) (hB : B ≤ w.heap.size) (h : RDv w B (filtDs x) us) (hV : VSm x) (hC : filtCnt x ≤ 1099511627776) :
    Calls Tryz.prog 5 #[.agg us.toArray] w (PSlim x w) := by
  obtain ⟨a0, a1, a2, a3, a4, a5, A6, n6, q6, A7, n7, q7, A8, n8, q8, rfl⟩ := filtDs_shape h
  have H := Lib.hid h
  clear h
  have hbx := below_box2 w (.cells #[.int .i64 a0, .int .i64 a1, .string a2, .int .i64 a3, .int .i64 a4, .string a5, .slice A6 n6 q6, .slice A7 n7 q7, .slice A8 n8 q8] 35) (.cells #[.int .i64 0, .int .i64 0, .string ⟨#[]⟩, .int .i64 0, .int .i64 0, .string ⟨#[]⟩, .slice none 0 0, .slice none 0 0, .slice none 0 0] 35)
  go_enter Tryz.func5, Tryz.ntmps5
  go_wp2_with fail
  refine (sFiltOk_calls x [_, _, _, _, _, _, _, _, _] _ B (Nat.le_trans hB hbx.size) (H.out.below (hbx.mono hB)) hV hC).mono ?_
  rintro e w1 ⟨r, rfl, hr, hb1⟩
  have HR := Lib.hid hr
  obtain ⟨hb, hz, bP, bR⟩ := boxes2 (P := [.int .i64 a0, .int .i64 a1, .string a2, .int .i64 a3, .int .i64 a4, .string a5, .slice A6 n6 q6, .slice A7 n7 q7, .slice A8 n8 q8]) (R := [.int .i64 0, .int .i64 0, .string ⟨#[]⟩, .int .i64 0, .int .i64 0, .string ⟨#[]⟩, .slice none 0 0, .slice none 0 0, .slice none 0 0]) (boxes2_of hb1)
  obtain ⟨cP, fP⟩ := blk_rules bP
  obtain ⟨cR, fR⟩ := blk_rules bR
  have HBR := Lib.hid bR
  clear hr hb1 hbx bP bR
  cases r with
  | false =>
    have HN := Lib.hid (show ¬ FOk x from fun h => absurd (HR.out.2 h) (by simp))
    go_wp2
    refine bodyPost_ret (v := .agg #[.int .i64 0, .int .i64 0, .string ⟨#[]⟩, .int .i64 0, .int .i64 0, .string ⟨#[]⟩, .slice none 0 0, .slice none 0 0, .slice none 0 0]) (by simp [results, Tryz.results5, go_sem, cR]) rfl ?_
    exact PSlim.zero (R := w.heap.size + 1) HN.out hb (by omega)
  | true =>
    have HT := Lib.hid (HR.out.1 rfl)
    have HSM := Lib.hid (small_filt x 7 HT.out.1)
    have HSM2 := Lib.hid (small_filt (slimF x) 7 (slimF_form x 7 HT.out.1))
    go_wp2_with fail
    refine (copyF_calls x [_, _, _, _, _, _, _, _, _] w1 B (by omega) (H.out.below (hb.mono hB)) HSM.out).mono ?_
    rintro e w2 ⟨vs2, f2, rfl, hO2, hF2, hb2⟩
    obtain ⟨b0, b1, b2, b3, b4, b5, C6, m6, p6, C7, m7, p7, C8, m8, p8, rfl⟩ := filtDs_shape hO2.rd'
    have HO2 := Lib.hid hO2
    have HF2 := Lib.hid hF2
    clear hO2 hF2
    go_wp2_with fail
    refine (slimS_calls x [_, _, _, _, _, _, _, _, _] w2 f2 w1.heap.size 7 hb2.size HO2.out HF2.out.1 (fun b hb => (HF2.out.2 b hb).1) HT.out.1).mono ?_
    rintro e w3 ⟨vs3, rfl, hz3, hb3⟩
    obtain ⟨e0, e1, e2, e3, e4, e5, D6, l6, o6, D7, l7, o7, D8, l8, o8, rfl⟩ := filtDs_shape hz3.rd
    have HZ3 := Lib.hid hz3.rd
    clear hz3
    go_wp2_with fail
    refine (copyF_calls (slimF x) [_, _, _, _, _, _, _, _, _] w3 w3.heap.size (Nat.le_refl _) HZ3.out HSM2.out).mono ?_
    rintro e w4 ⟨vs4, f4, rfl, hO4, hF4, hb4⟩
    obtain ⟨g0, g1, g2, g3, g4, g5, G6, r6, t6, G7, r7, t7, G8, r8, t8, rfl⟩ := filtDs_shape hO4.rd'
    have HO4 := Lib.hid hO4
    have HF4 := Lib.hid hF4
    have h23 : Below w1.heap.size w1 w3 := hb2.trans hb3
    have hz13 := h23.size
    have h24 : Below w1.heap.size w1 w4 := h23.trans (hb4.mono hz13)
    have HB4 := Lib.hid (hb.trans (h24.mono (by omega)))
    have HR4 := Lib.hid (HBR.out.below h24)
    clear hO4 hF4 cP fP cR fR hb2 hb3 hb4 h23 h24
    obtain ⟨cR, fR⟩ := blk_rules HR4.out
    go_wp2
    refine bodyPost_ret (v := .agg #[.int .i64 g0, .int .i64 g1, .string g2, .int .i64 g3, .int .i64 g4, .string g5, .slice G6 r6 t6, .slice G7 r7 t7, .slice G8 r8 t8]) (by simp [results, Tryz.results5, go_sem, cR]) rfl ?_
    exact PSlim.yes (w5 := w3) (R := w.heap.size + 1) (vs := [_, _, _, _, _, _, _, _, _]) HT.out HO4.out HF4.out (by omega) (by omega) HB4.out (by omega)
set_option maxRecDepth 100000 in
set_option maxHeartbeats 4000000 in
theorem iSlim_calls (x : Filt) (us : List Value) (w : World) (B : Nat) (hB : B ≤ w.heap.size) (h : RDv w B (filtDs x) us) (hT : Tab w B) :
    Calls Tryz.prog 7 #[.agg us.toArray] w (PSlim x w) := by
  obtain ⟨a0, a1, a2, a3, a4, a5, A6, n6, q6, A7, n7, q7, A8, n8, q8, rfl⟩ := filtDs_shape h
  have H := Lib.hid h
  have HTB := Lib.hid hT
  clear h hT
  have hbx := below_box2 w (.cells #[.int .i64 a0, .int .i64 a1, .string a2, .int .i64 a3, .int .i64 a4, .string a5, .slice A6 n6 q6, .slice A7 n7 q7, .slice A8 n8 q8] 35) (.cells #[.int .i64 0, .int .i64 0, .string ⟨#[]⟩, .int .i64 0, .int .i64 0, .string ⟨#[]⟩, .slice none 0 0, .slice none 0 0, .slice none 0 0] 35)
  go_enter Tryz.func7, Tryz.ntmps7
  go_wp2_with fail
  refine (iFiltOk_calls x [_, _, _, _, _, _, _, _, _] _ B (Nat.le_trans hB hbx.size) (H.out.below (hbx.mono hB)) (HTB.out.below (hbx.mono hB))).mono ?_
  rintro e w1 ⟨r, rfl, hr, hb1⟩
  have HR := Lib.hid hr
  obtain ⟨hb, hz, bP, bR⟩ := boxes2 (P := [.int .i64 a0, .int .i64 a1, .string a2, .int .i64 a3, .int .i64 a4, .string a5, .slice A6 n6 q6, .slice A7 n7 q7, .slice A8 n8 q8]) (R := [.int .i64 0, .int .i64 0, .string ⟨#[]⟩, .int .i64 0, .int .i64 0, .string ⟨#[]⟩, .slice none 0 0, .slice none 0 0, .slice none 0 0]) (boxes2_of hb1)
  obtain ⟨cP, fP⟩ := blk_rules bP
  obtain ⟨cR, fR⟩ := blk_rules bR
  have HBR := Lib.hid bR
  clear hr hb1 hbx bP bR
  cases r with
  | false =>
    have HN := Lib.hid (show ¬ FOk x from fun h => absurd (HR.out.2 h) (by simp))
    go_wp2
    refine bodyPost_ret (v := .agg #[.int .i64 0, .int .i64 0, .string ⟨#[]⟩, .int .i64 0, .int .i64 0, .string ⟨#[]⟩, .slice none 0 0, .slice none 0 0, .slice none 0 0]) (by simp [results, Tryz.results7, go_sem, cR]) rfl ?_
    exact PSlim.zero (R := w.heap.size + 1) HN.out hb (by omega)
  | true =>
    have HT := Lib.hid (HR.out.1 rfl)
    have HSM2 := Lib.hid (small_filt (slimF x) 7 (slimF_form x 7 HT.out.1))
    go_wp2_with fail
    refine (slimI_calls x [_, _, _, _, _, _, _, _, _] w1 B 7 (by omega) (H.out.below (hb.mono hB)) HT.out.1).mono ?_
    rintro e w3 ⟨vs3, rfl, hz3, hb3⟩
    obtain ⟨e0, e1, e2, e3, e4, e5, D6, l6, o6, D7, l7, o7, D8, l8, o8, rfl⟩ := filtDs_shape hz3.rd
    have HZ3 := Lib.hid hz3.rd
    clear hz3
    go_wp2_with fail
    refine (cloneF_calls (slimF x) [_, _, _, _, _, _, _, _, _] w3 w3.heap.size (Nat.le_refl _) HZ3.out HSM2.out).mono ?_
    rintro e w4 ⟨vs4, f4, rfl, hO4, hF4, hb4⟩
    obtain ⟨g0, g1, g2, g3, g4, g5, G6, r6, t6, G7, r7, t7, G8, r8, t8, rfl⟩ := filtDs_shape hO4.rd'
    have HO4 := Lib.hid hO4
    have HF4 := Lib.hid hF4
    have hz13 := hb3.size
    have h24 : Below w1.heap.size w1 w4 := hb3.trans (hb4.mono hz13)
    have HB4 := Lib.hid (hb.trans (h24.mono (by omega)))
    have HR4 := Lib.hid (HBR.out.below h24)
    clear hO4 hF4 cP fP cR fR hb3 hb4 h24
    obtain ⟨cR, fR⟩ := blk_rules HR4.out
    go_wp2
    refine bodyPost_ret (v := .agg #[.int .i64 g0, .int .i64 g1, .string g2, .int .i64 g3, .int .i64 g4, .string g5, .slice G6 r6 t6, .slice G7 r7 t7, .slice G8 r8 t8]) (by simp [results, Tryz.results7, go_sem, cR]) rfl ?_
    exact PSlim.yes (w5 := w3) (R := w.heap.size + 1) (vs := [_, _, _, _, _, _, _, _, _]) HT.out HO4.out HF4.out (by omega) (by omega) HB4.out (by omega)
end Go.Proofs.YtppfgepoegicgaaGreatDoor
