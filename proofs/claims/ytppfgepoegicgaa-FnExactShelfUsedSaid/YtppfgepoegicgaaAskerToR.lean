import Derived.Test.YtppfgepoegicgaaAskerRows
import Derived.Test.YtppfgepoegicgaaEqV
import Derived.Test.YtppfgepoegicgaaToV
namespace Go.Proofs.Ytppfgepoegicgaa
open Go Go.RowKit

theorem Try.info_Asker : (Try.prog.info? 61).map (fun i => (i.zero, i.size, i.bytes)) = some (some (.agg #[.string ⟨#[]⟩, .int .i64 0, .int .i64 0, .slice none 0 0]), 4, 56) := by kernel_rfl

def ToAsker (v : Asker) : Prop := ∀ (us : List Value) (w : World) (B : Nat), B ≤ w.heap.size → RDv w B (askerDs v) us → SmallDs (askerDs v) →
  Calls Try.prog 74 #[.agg us.toArray] w fun e w' => ∃ vs fp, e = .returned (.agg vs.toArray) ∧ ODv w' (askerDs v) vs fp ∧ Fresh w w' fp ∧ Below w.heap.size w w'
def ToAskers (vs : List Asker) : Prop := ∀ (A : Option Addr) (c : Nat) (w : World) (B : Nat), B ≤ w.heap.size → RD w B (.row 4 vs.length (askersDs vs)) (.slice A vs.length c) → SmallD (.row 4 vs.length (askersDs vs)) →
  Calls Try.prog 36 #[.slice A vs.length c] w fun e w' => ∃ v fp, e = .returned v ∧ OD w' (.row 4 vs.length (askersDs vs)) v fp ∧ Fresh w w' fp ∧ Below w.heap.size w w'

set_option maxHeartbeats 1000000 in
theorem toAskers_of (vs : List Asker) (ih : ∀ v ∈ vs, ToAsker v) : ToAskers vs := by
  intro A c w B hB h hs
  have hn : vs.length ≤ 1048576 := hs.1
  have hsm := Lib.hid hs.2
  have H := Lib.hid h
  have IH := Lib.hid ih
  clear h hs ih
  have hmk := make_row (P := Try.prog) [.string ⟨#[]⟩, .int .i64 0, .int .i64 0, .slice none 0 0] Try.underlying27 Try.info_Asker rfl rfl vs.length (by omega) (by omega)
  go_enter Try.func36, Try.ntmps36
  go_wp2
  go_loopw [4] (fun i w' => ∃ (k : Nat) (ks : List Asker), k ≤ vs.length ∧ i = .int .i64 k ∧ vs = ks ++ vs.drop k ∧ ToInv w' w.heap.size 61 4 [.string ⟨#[]⟩, .int .i64 0, .int .i64 0, .slice none 0 0] vs.length k (askersDs ks) ∧ Below w.heap.size w w') (fun i _ => vs.length - (intOf i).toNat)
  case atStart => exact ⟨0, [], by omega, rfl, rfl, ToInv.start _ _ _ _ _, below_box _ _⟩
  case round =>
    obtain ⟨k, ks, hk, rfl, hks, hT, hb⟩ := hrel
    by_cases hlt : k < vs.length
    · obtain ⟨ad, v, c0, c1, c2, c3, rfl, hbl, hv, hm, hd, x0, x1, x2, x3⟩ := row4_at (H.out.upto (hb.mono hB) (Nat.le_refl _)) rfl hlt
      have HK := Lib.hid hks
      have HT := Lib.hid hT
      clear hks hT
      have hz := hb.size
      go_wp2_with fail
      refine (IH.out v hm _ wr B (by omega) hv (smallDs_mem_asker hsm.out hm)).mono ?_
      rintro e w1 ⟨us1, f1, rfl, hO, hF, hb1⟩
      obtain ⟨a0, a1, a2, A3, n3, q3, rfl⟩ := askerDs_shape hO.rd'
      have hT1 := HT.out.below hb1
      have hz1 := hb1.size
      have t0 := hT1.there hlt rfl
      obtain ⟨⟨y0, q0_⟩, z0⟩ := t0 0 (by omega)
      obtain ⟨⟨y1, q1_⟩, z1⟩ := t0 1 (by omega)
      obtain ⟨⟨y2, q2_⟩, z2⟩ := t0 2 (by omega)
      obtain ⟨⟨y3, q3_⟩, z3⟩ := t0 3 (by omega)
      rw [Nat.add_zero] at q0_ z0
      have HS := Lib.hid (HT.out.step hlt rfl hb1 hO rfl hF)
      have HO := Lib.hid hO
      clear hO hT1 t0
      go_wp2
      go_roundw
      case rel => exact ⟨k + 1, ks ++ [v], by omega, by go_num, by rw [List.append_assoc, List.singleton_append, ← hd.out]; exact HK.out, by rw [askersDs_append, show askersDs [v] = askerDs v by simp [askersDs]]; exact HS.out, setAll_below (o := k * 4) [_, _, _, _] (Nat.le_refl _) (hb.trans (hb1.mono hz))⟩
      case measure => simp [intOf]; omega
    · have e : k = vs.length := by omega
      subst e
      rw [List.drop_length, List.append_nil] at hks
      rw [← hks] at hT
      have HT := Lib.hid hT
      clear hks hT
      go_wp2
      go_ret
      obtain ⟨fp, h1, h2⟩ := HT.out.done (Nat.le_refl _) (by omega)
      exact ⟨_, fp, rfl, h1, h2, hb⟩
end Go.Proofs.Ytppfgepoegicgaa
