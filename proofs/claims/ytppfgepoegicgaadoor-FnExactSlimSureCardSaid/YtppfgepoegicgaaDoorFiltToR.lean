import Derived.Test.YtppfgepoegicgaaDoorFiltRows
import Derived.Test.YtppfgepoegicgaaDoorEqV
import Derived.Test.YtppfgepoegicgaaDoorToV
namespace Go.Proofs.YtppfgepoegicgaaDoor
open Go Go.RowKit

theorem Tryd.info_Filt : (Tryd.prog.info? 36).map (fun i => (i.zero, i.size, i.bytes)) = some (some (.agg #[.int .i64 0, .int .i64 0, .string ⟨#[]⟩, .int .i64 0, .int .i64 0, .string ⟨#[]⟩, .slice none 0 0, .slice none 0 0, .slice none 0 0]), 9, 136) := by kernel_rfl

def ToFilt (v : Filt) : Prop := ∀ (us : List Value) (w : World) (B : Nat), B ≤ w.heap.size → RDv w B (filtDs v) us → SmallDs (filtDs v) →
  Calls Tryd.prog 8 #[.agg us.toArray] w fun e w' => ∃ vs fp, e = .returned (.agg vs.toArray) ∧ ODv w' (filtDs v) vs fp ∧ Fresh w w' fp ∧ Below w.heap.size w w'
def ToFilts (vs : List Filt) : Prop := ∀ (A : Option Addr) (c : Nat) (w : World) (B : Nat), B ≤ w.heap.size → RD w B (.row 9 vs.length (filtsDs vs)) (.slice A vs.length c) → SmallD (.row 9 vs.length (filtsDs vs)) →
  Calls Tryd.prog 24 #[.slice A vs.length c] w fun e w' => ∃ v fp, e = .returned v ∧ OD w' (.row 9 vs.length (filtsDs vs)) v fp ∧ Fresh w w' fp ∧ Below w.heap.size w w'

set_option maxHeartbeats 1000000 in
theorem toFilts_of (vs : List Filt) (ih : ∀ v ∈ vs, ToFilt v) : ToFilts vs := by
  intro A c w B hB h hs
  have hn : vs.length ≤ 1048576 := hs.1
  have hsm := Lib.hid hs.2
  have H := Lib.hid h
  have IH := Lib.hid ih
  clear h hs ih
  have hmk := make_row (P := Tryd.prog) [.int .i64 0, .int .i64 0, .string ⟨#[]⟩, .int .i64 0, .int .i64 0, .string ⟨#[]⟩, .slice none 0 0, .slice none 0 0, .slice none 0 0] Tryd.underlying34 Tryd.info_Filt rfl rfl vs.length (by omega) (by omega)
  go_enter Tryd.func24, Tryd.ntmps24
  go_wp2
  go_loopw [4] (fun i w' => ∃ (k : Nat) (ks : List Filt), k ≤ vs.length ∧ i = .int .i64 k ∧ vs = ks ++ vs.drop k ∧ ToInv w' w.heap.size 36 9 [.int .i64 0, .int .i64 0, .string ⟨#[]⟩, .int .i64 0, .int .i64 0, .string ⟨#[]⟩, .slice none 0 0, .slice none 0 0, .slice none 0 0] vs.length k (filtsDs ks) ∧ Below w.heap.size w w') (fun i _ => vs.length - (intOf i).toNat)
  case atStart => exact ⟨0, [], by omega, rfl, rfl, ToInv.start _ _ _ _ _, below_box _ _⟩
  case round =>
    obtain ⟨k, ks, hk, rfl, hks, hT, hb⟩ := hrel
    by_cases hlt : k < vs.length
    · obtain ⟨ad, v, c0, c1, c2, c3, c4, c5, c6, c7, c8, rfl, hbl, hv, hm, hd, x0, x1, x2, x3, x4, x5, x6, x7, x8⟩ := row9_at (H.out.upto (hb.mono hB) (Nat.le_refl _)) rfl hlt
      have HK := Lib.hid hks
      have HT := Lib.hid hT
      clear hks hT
      have hz := hb.size
      go_wp2_with fail
      refine (IH.out v hm _ wr B (by omega) hv (smallDs_mem_filt hsm.out hm)).mono ?_
      rintro e w1 ⟨us1, f1, rfl, hO, hF, hb1⟩
      obtain ⟨a0, a1, a2, a3, a4, a5, A6, n6, q6, A7, n7, q7, A8, n8, q8, rfl⟩ := filtDs_shape hO.rd'
      have hT1 := HT.out.below hb1
      have hz1 := hb1.size
      have t0 := hT1.there hlt rfl
      obtain ⟨⟨y0, q0_⟩, z0⟩ := t0 0 (by omega)
      obtain ⟨⟨y1, q1_⟩, z1⟩ := t0 1 (by omega)
      obtain ⟨⟨y2, q2_⟩, z2⟩ := t0 2 (by omega)
      obtain ⟨⟨y3, q3_⟩, z3⟩ := t0 3 (by omega)
      obtain ⟨⟨y4, q4_⟩, z4⟩ := t0 4 (by omega)
      obtain ⟨⟨y5, q5_⟩, z5⟩ := t0 5 (by omega)
      obtain ⟨⟨y6, q6_⟩, z6⟩ := t0 6 (by omega)
      obtain ⟨⟨y7, q7_⟩, z7⟩ := t0 7 (by omega)
      obtain ⟨⟨y8, q8_⟩, z8⟩ := t0 8 (by omega)
      rw [Nat.add_zero] at q0_ z0
      have HS := Lib.hid (HT.out.step hlt rfl hb1 hO rfl hF)
      have HO := Lib.hid hO
      clear hO hT1 t0
      go_wp2
      go_roundw
      case rel => exact ⟨k + 1, ks ++ [v], by omega, by go_num, by rw [List.append_assoc, List.singleton_append, ← hd.out]; exact HK.out, by rw [filtsDs_append, show filtsDs [v] = filtDs v by simp [filtsDs]]; exact HS.out, setAll_below (o := k * 9) [_, _, _, _, _, _, _, _, _] (Nat.le_refl _) (hb.trans (hb1.mono hz))⟩
      case measure => simp [intOf]; omega
    · have e : k = vs.length := by omega
      subst e
      rw [List.drop_length, List.append_nil] at hks
      rw [← hks] at hT
      have HT := Lib.hid hT
      clear hks hT
      go_wp2
      go_ret
      obtain ⟨fp, h1, h2⟩ := HT.out.done (Nat.le_refl _) (by omega)
      exact ⟨_, fp, rfl, h1, h2, hb⟩
end Go.Proofs.YtppfgepoegicgaaDoor
