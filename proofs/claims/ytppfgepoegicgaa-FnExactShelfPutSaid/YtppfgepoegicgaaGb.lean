/- Parts of the proof: KeptRows, AskerRows, AskerToR, KeptToR, KeptSzR, AskerSzR, ShelfSz, ShelfTo, KeptEqR, AskerEqR, ShelfEq. -/
import Derived.Test.YtppfgepoegicgaaGa
namespace Go.Proofs.Ytppfgepoegicgaa
open Go Go.RowKit

structure Kept where
  name : ByteArray
  v : Val
def keptDs (x : Kept) : List Dat := .str x.name :: valDs x.v
def keptsDs : List Kept → List Dat
  | [] => []
  | x :: r => keptDs x ++ keptsDs r
theorem keptDs_length (x : Kept) : (keptDs x).length = 6 := by simp [keptDs, valDs_length]
theorem keptDs_open {w : World} {B : Nat} {x : Kept} {us : List Value} (h : RDv w B (keptDs x) us) : ∃ us', us = .string x.name :: us' ∧ x.name.size ≤ 9223372036854775807 ∧ RDv w B (valDs x.v) us' := by
  obtain ⟨_, us', rfl, h1, h2⟩ := h
  exact ⟨us', by rw [show _ = _ from h1.1], h1.2, h2⟩
theorem keptDs_shape {w : World} {B : Nat} {x : Kept} {us : List Value} (h : RDv w B (keptDs x) us) : ∃ (s0 : ByteArray) (a b : Int) (s : ByteArray) (A1 : Option Addr) (n1 c1 : Nat) (A2 : Option Addr) (n2 c2 : Nat), us = [.string s0, .int .i64 a, .int .i64 b, .string s, .slice A1 n1 c1, .slice A2 n2 c2] := by
  obtain ⟨us', rfl, _, h2⟩ := keptDs_open h
  obtain ⟨a, b, s, A1, n1, c1, A2, n2, c2, rfl⟩ := valDs_shape h2
  exact ⟨_, _, _, _, _, _, _, _, _, _, rfl⟩

section
variable {w w' : World} {B : Nat}
theorem keptsDs_append : ∀ a b : List Kept, keptsDs (a ++ b) = keptsDs a ++ keptsDs b
  | [], _ => rfl
  | s :: a, b => by simp [keptsDs, keptsDs_append a b]
theorem keptsDs_split : ∀ {vs : List Kept} {us : List Value} (k : Nat), k < vs.length → RDv w B (keptsDs vs) us → ∃ v us0 us1 us2, us = us0 ++ (us1 ++ us2) ∧ us0.length = k * 6 ∧ vs.drop k = v :: vs.drop (k + 1) ∧ v ∈ vs ∧ RDv w B (keptDs v) us1
  | [], _, _, h, _ => by simp at h
  | v :: vs, us, 0, _, h => by
    obtain ⟨u1, u2, rfl, h1, h2⟩ := RDv.append_iff.1 h
    exact ⟨v, [], u1, u2, rfl, rfl, rfl, List.mem_cons_self, h1⟩
  | v :: vs, us, k + 1, hk, h => by
    obtain ⟨u1, u2, rfl, h1, h2⟩ := RDv.append_iff.1 h
    obtain ⟨x, a0, a1, a2, rfl, hl, hd, hm, hx⟩ := keptsDs_split k (by simpa using hk) h2
    refine ⟨x, u1 ++ a0, a1, a2, by simp, ?_, by simpa using hd, List.mem_cons_of_mem _ hm, hx⟩
    have := RDv.length_eq h1
    rw [keptDs_length] at this
    simp [this, hl]
    omega
/-- Round k of a walk over a row of 6-cell elements. -/
theorem row6_at {vs : List Kept} {A : Option Addr} {n c : Nat} (h : RD w B (.row 6 n (keptsDs vs)) (.slice A n c)) (hn : n = vs.length) {k : Nat} (hk : k < n) :
    ∃ ad v c0 c1 c2 c3 c4 c5, A = some ad ∧ ad.block < B ∧ RDv w B (keptDs v) [c0, c1, c2, c3, c4, c5] ∧ v ∈ vs ∧ Hid (vs.drop k = v :: vs.drop (k + 1)) ∧
    w.cell? (ad.add (k * 6)) = some c0 ∧ w.cell? ⟨(ad.add (k * 6)).block, (ad.add (k * 6)).off + 1, none⟩ = some c1 ∧ w.cell? ⟨(ad.add (k * 6)).block, (ad.add (k * 6)).off + 2, none⟩ = some c2 ∧ w.cell? ⟨(ad.add (k * 6)).block, (ad.add (k * 6)).off + 3, none⟩ = some c3 ∧ w.cell? ⟨(ad.add (k * 6)).block, (ad.add (k * 6)).off + 4, none⟩ = some c4 ∧ w.cell? ⟨(ad.add (k * 6)).block, (ad.add (k * 6)).off + 5, none⟩ = some c5 := by
  obtain ⟨A', cap, us, e, _, _, ⟨hl, hr⟩, hv⟩ := h
  injection e with e1 e2 e3
  subst e1
  obtain ⟨ad, rfl, hb, hc⟩ := hr (by omega)
  obtain ⟨v, us0, us1, us2, rfl, hl0, hd, hm, hx⟩ := keptsDs_split k (by omega) hv
  have h5 := RDv.length_eq hx
  rw [keptDs_length] at h5
  match us1, h5 with
  | [c0, c1, c2, c3, c4, c5], _ =>
    have g : ∀ j u, [c0, c1, c2, c3, c4, c5][j]? = some u → w.cell? (ad.add (k * 6 + j)) = some u := fun j u hj => hc _ u (by
      rw [List.getElem?_append_right (by omega), hl0, Nat.add_sub_cancel_left, List.getElem?_append_left (List.getElem?_eq_some_iff.1 hj).1]
      exact hj)
    refine ⟨ad, v, c0, c1, c2, c3, c4, c5, rfl, hb, hx, hm, hd, g 0 _ rfl, ?_, ?_, ?_, ?_, ?_⟩
    · rw [add_pos _ _ _ (by omega)]; exact g 1 _ rfl
    · rw [add_pos _ _ _ (by omega)]; exact g 2 _ rfl
    · rw [add_pos _ _ _ (by omega)]; exact g 3 _ rfl
    · rw [add_pos _ _ _ (by omega)]; exact g 4 _ rfl
    · rw [add_pos _ _ _ (by omega)]; exact g 5 _ rfl
theorem smallDs_mem_kept : ∀ {vs : List Kept} {v : Kept}, SmallDs (keptsDs vs) → v ∈ vs → SmallDs (keptDs v)
  | [], _, _, h => by cases h
  | x :: vs, v, h, hm => by
    have h2 := smallDs_append.1 h
    rcases List.mem_cons.1 hm with rfl | hm
    · exact h2.1
    · exact smallDs_mem_kept h2.2 hm
end
end Go.Proofs.Ytppfgepoegicgaa
namespace Go.Proofs.Ytppfgepoegicgaa
open Go Go.RowKit

structure Asker where
  name : ByteArray
  most : Int
  fuel : Int
  trees : List Kept
def askerDs (x : Asker) : List Dat := [.str x.name, .int x.most, .int x.fuel, .row 6 x.trees.length (keptsDs x.trees)]
def askersDs : List Asker → List Dat
  | [] => []
  | x :: r => askerDs x ++ askersDs r
theorem askerDs_length (x : Asker) : (askerDs x).length = 4 := rfl
theorem askerDs_open {w : World} {B : Nat} {x : Asker} {us : List Value} (h : RDv w B (askerDs x) us) : ∃ A c, us = [.string x.name, .int .i64 x.most, .int .i64 x.fuel, .slice A x.trees.length c] ∧ x.name.size ≤ 9223372036854775807 ∧ RD w B (.row 6 x.trees.length (keptsDs x.trees)) (.slice A x.trees.length c) := by
  obtain ⟨_, _, rfl, h0, _, _, rfl, h1, _, _, rfl, h2, u3, _, rfl, h3, rfl⟩ := h
  obtain ⟨A, c, us1, e1, r1⟩ := h3
  subst e1
  exact ⟨A, c, by rw [show _ = _ from h0.1, show _ = _ from h1, show _ = _ from h2], h0.2, A, c, us1, rfl, r1⟩
theorem askerDs_shape {w : World} {B : Nat} {x : Asker} {us : List Value} (h : RDv w B (askerDs x) us) : ∃ (s0 : ByteArray) (a b : Int) (A1 : Option Addr) (n1 c1 : Nat), us = [.string s0, .int .i64 a, .int .i64 b, .slice A1 n1 c1] := by
  obtain ⟨A, c, rfl, _⟩ := askerDs_open h
  exact ⟨_, _, _, _, _, _, rfl⟩
structure Shelf where
  askers : List Asker
def shelfDs (x : Shelf) : List Dat := [.row 4 x.askers.length (askersDs x.askers)]
theorem shelfDs_open {w : World} {B : Nat} {x : Shelf} {us : List Value} (h : RDv w B (shelfDs x) us) : ∃ A c, us = [.slice A x.askers.length c] ∧ RD w B (.row 4 x.askers.length (askersDs x.askers)) (.slice A x.askers.length c) := by
  obtain ⟨u3, _, rfl, h3, rfl⟩ := h
  obtain ⟨A, c, us1, e1, r1⟩ := h3
  subst e1
  exact ⟨A, c, rfl, A, c, us1, rfl, r1⟩

section
variable {w w' : World} {B : Nat}
theorem askersDs_append : ∀ a b : List Asker, askersDs (a ++ b) = askersDs a ++ askersDs b
  | [], _ => rfl
  | s :: a, b => by simp [askersDs, askersDs_append a b]
theorem askersDs_split : ∀ {vs : List Asker} {us : List Value} (k : Nat), k < vs.length → RDv w B (askersDs vs) us → ∃ v us0 us1 us2, us = us0 ++ (us1 ++ us2) ∧ us0.length = k * 4 ∧ vs.drop k = v :: vs.drop (k + 1) ∧ v ∈ vs ∧ RDv w B (askerDs v) us1
  | [], _, _, h, _ => by simp at h
  | v :: vs, us, 0, _, h => by
    obtain ⟨u1, u2, rfl, h1, h2⟩ := RDv.append_iff.1 h
    exact ⟨v, [], u1, u2, rfl, rfl, rfl, List.mem_cons_self, h1⟩
  | v :: vs, us, k + 1, hk, h => by
    obtain ⟨u1, u2, rfl, h1, h2⟩ := RDv.append_iff.1 h
    obtain ⟨x, a0, a1, a2, rfl, hl, hd, hm, hx⟩ := askersDs_split k (by simpa using hk) h2
    refine ⟨x, u1 ++ a0, a1, a2, by simp, ?_, by simpa using hd, List.mem_cons_of_mem _ hm, hx⟩
    have := RDv.length_eq h1
    rw [askerDs_length] at this
    simp [this, hl]
    omega
/-- Round k of a walk over a row of 4-cell elements. -/
theorem row4_at {vs : List Asker} {A : Option Addr} {n c : Nat} (h : RD w B (.row 4 n (askersDs vs)) (.slice A n c)) (hn : n = vs.length) {k : Nat} (hk : k < n) :
    ∃ ad v c0 c1 c2 c3, A = some ad ∧ ad.block < B ∧ RDv w B (askerDs v) [c0, c1, c2, c3] ∧ v ∈ vs ∧ Hid (vs.drop k = v :: vs.drop (k + 1)) ∧
    w.cell? (ad.add (k * 4)) = some c0 ∧ w.cell? ⟨(ad.add (k * 4)).block, (ad.add (k * 4)).off + 1, none⟩ = some c1 ∧ w.cell? ⟨(ad.add (k * 4)).block, (ad.add (k * 4)).off + 2, none⟩ = some c2 ∧ w.cell? ⟨(ad.add (k * 4)).block, (ad.add (k * 4)).off + 3, none⟩ = some c3 := by
  obtain ⟨A', cap, us, e, _, _, ⟨hl, hr⟩, hv⟩ := h
  injection e with e1 e2 e3
  subst e1
  obtain ⟨ad, rfl, hb, hc⟩ := hr (by omega)
  obtain ⟨v, us0, us1, us2, rfl, hl0, hd, hm, hx⟩ := askersDs_split k (by omega) hv
  have h5 := RDv.length_eq hx
  rw [askerDs_length] at h5
  match us1, h5 with
  | [c0, c1, c2, c3], _ =>
    have g : ∀ j u, [c0, c1, c2, c3][j]? = some u → w.cell? (ad.add (k * 4 + j)) = some u := fun j u hj => hc _ u (by
      rw [List.getElem?_append_right (by omega), hl0, Nat.add_sub_cancel_left, List.getElem?_append_left (List.getElem?_eq_some_iff.1 hj).1]
      exact hj)
    refine ⟨ad, v, c0, c1, c2, c3, rfl, hb, hx, hm, hd, g 0 _ rfl, ?_, ?_, ?_⟩
    · rw [add_pos _ _ _ (by omega)]; exact g 1 _ rfl
    · rw [add_pos _ _ _ (by omega)]; exact g 2 _ rfl
    · rw [add_pos _ _ _ (by omega)]; exact g 3 _ rfl
theorem smallDs_mem_asker : ∀ {vs : List Asker} {v : Asker}, SmallDs (askersDs vs) → v ∈ vs → SmallDs (askerDs v)
  | [], _, _, h => by cases h
  | x :: vs, v, h, hm => by
    have h2 := smallDs_append.1 h
    rcases List.mem_cons.1 hm with rfl | hm
    · exact h2.1
    · exact smallDs_mem_asker h2.2 hm
end
end Go.Proofs.Ytppfgepoegicgaa
namespace Go.Proofs.Ytppfgepoegicgaa
open Go Go.RowKit

theorem Try.info_Asker : (Try.prog.info? 61).map (fun i => (i.zero, i.size, i.bytes)) = some (some (.agg #[.string ⟨#[]⟩, .int .i64 0, .int .i64 0, .slice none 0 0]), 4, 56) := by kernel_rfl

def ToAsker (v : Asker) : Prop := ∀ (us : List Value) (w : World) (B : Nat), B ≤ w.heap.size → RDv w B (askerDs v) us → SmallDs (askerDs v) →
  Calls Try.prog 74 #[.agg us.toArray] w fun e w' => ∃ vs fp, e = .returned (.agg vs.toArray) ∧ ODv w' (askerDs v) vs fp ∧ Fresh w w' fp ∧ Below w.heap.size w w'
def ToAskers (vs : List Asker) : Prop := ∀ (A : Option Addr) (c : Nat) (w : World) (B : Nat), B ≤ w.heap.size → RD w B (.row 4 vs.length (askersDs vs)) (.slice A vs.length c) → SmallD (.row 4 vs.length (askersDs vs)) →
  Calls Try.prog 36 #[.slice A vs.length c] w fun e w' => ∃ v fp, e = .returned v ∧ OD w' (.row 4 vs.length (askersDs vs)) v fp ∧ Fresh w w' fp ∧ Below w.heap.size w w'

set_option maxHeartbeats 1000000 in
theorem toAskers_of (vs : List Asker) (ih : ∀ v ∈ vs, ToAsker v) : ToAskers vs := by
  intro A c w B hB h hs
  have hn : vs.length ≤ 1048576 := hs.1
  have hsm := Lib.hid hs.2
  have H := Lib.hid h
  have IH := Lib.hid ih
  clear h hs ih
  have hmk := make_row (P := Try.prog) [.string ⟨#[]⟩, .int .i64 0, .int .i64 0, .slice none 0 0] Try.underlying27 Try.info_Asker rfl rfl vs.length (by omega) (by omega)
  go_enter Try.func36, Try.ntmps36
  go_wp2
  go_loopw [4] (fun i w' => ∃ (k : Nat) (ks : List Asker), k ≤ vs.length ∧ i = .int .i64 k ∧ vs = ks ++ vs.drop k ∧ ToInv w' w.heap.size 61 4 [.string ⟨#[]⟩, .int .i64 0, .int .i64 0, .slice none 0 0] vs.length k (askersDs ks) ∧ Below w.heap.size w w') (fun i _ => vs.length - (intOf i).toNat)
  case atStart => exact ⟨0, [], by omega, rfl, rfl, ToInv.start _ _ _ _ _, below_box _ _⟩
  case round =>
    obtain ⟨k, ks, hk, rfl, hks, hT, hb⟩ := hrel
    by_cases hlt : k < vs.length
    · obtain ⟨ad, v, c0, c1, c2, c3, rfl, hbl, hv, hm, hd, x0, x1, x2, x3⟩ := row4_at (H.out.upto (hb.mono hB) (Nat.le_refl _)) rfl hlt
      have HK := Lib.hid hks
      have HT := Lib.hid hT
      clear hks hT
      have hz := hb.size
      go_wp2_with fail
      refine (IH.out v hm _ wr B (by omega) hv (smallDs_mem_asker hsm.out hm)).mono ?_
      rintro e w1 ⟨us1, f1, rfl, hO, hF, hb1⟩
      obtain ⟨a0, a1, a2, A3, n3, q3, rfl⟩ := askerDs_shape hO.rd'
      have hT1 := HT.out.below hb1
      have hz1 := hb1.size
      have t0 := hT1.there hlt rfl
      obtain ⟨⟨y0, q0_⟩, z0⟩ := t0 0 (by omega)
      obtain ⟨⟨y1, q1_⟩, z1⟩ := t0 1 (by omega)
      obtain ⟨⟨y2, q2_⟩, z2⟩ := t0 2 (by omega)
      obtain ⟨⟨y3, q3_⟩, z3⟩ := t0 3 (by omega)
      rw [Nat.add_zero] at q0_ z0
      have HS := Lib.hid (HT.out.step hlt rfl hb1 hO rfl hF)
      have HO := Lib.hid hO
      clear hO hT1 t0
      go_wp2
      go_roundw
      case rel => exact ⟨k + 1, ks ++ [v], by omega, by go_num, by rw [List.append_assoc, List.singleton_append, ← hd.out]; exact HK.out, by rw [askersDs_append, show askersDs [v] = askerDs v by simp [askersDs]]; exact HS.out, setAll_below (o := k * 4) [_, _, _, _] (Nat.le_refl _) (hb.trans (hb1.mono hz))⟩
      case measure => simp [intOf]; omega
    · have e : k = vs.length := by omega
      subst e
      rw [List.drop_length, List.append_nil] at hks
      rw [← hks] at hT
      have HT := Lib.hid hT
      clear hks hT
      go_wp2
      go_ret
      obtain ⟨fp, h1, h2⟩ := HT.out.done (Nat.le_refl _) (by omega)
      exact ⟨_, fp, rfl, h1, h2, hb⟩
end Go.Proofs.Ytppfgepoegicgaa
namespace Go.Proofs.Ytppfgepoegicgaa
open Go Go.RowKit

theorem Try.info_Kept : (Try.prog.info? 70).map (fun i => (i.zero, i.size, i.bytes)) = some (some (.agg #[.string ⟨#[]⟩, .int .i64 0, .int .i64 0, .string ⟨#[]⟩, .slice none 0 0, .slice none 0 0]), 6, 96) := by kernel_rfl

def ToKept (v : Kept) : Prop := ∀ (us : List Value) (w : World) (B : Nat), B ≤ w.heap.size → RDv w B (keptDs v) us → SmallDs (keptDs v) →
  Calls Try.prog 100 #[.agg us.toArray] w fun e w' => ∃ vs fp, e = .returned (.agg vs.toArray) ∧ ODv w' (keptDs v) vs fp ∧ Fresh w w' fp ∧ Below w.heap.size w w'
def ToKepts (vs : List Kept) : Prop := ∀ (A : Option Addr) (c : Nat) (w : World) (B : Nat), B ≤ w.heap.size → RD w B (.row 6 vs.length (keptsDs vs)) (.slice A vs.length c) → SmallD (.row 6 vs.length (keptsDs vs)) →
  Calls Try.prog 95 #[.slice A vs.length c] w fun e w' => ∃ v fp, e = .returned v ∧ OD w' (.row 6 vs.length (keptsDs vs)) v fp ∧ Fresh w w' fp ∧ Below w.heap.size w w'

set_option maxHeartbeats 1000000 in
theorem toKepts_of (vs : List Kept) (ih : ∀ v ∈ vs, ToKept v) : ToKepts vs := by
  intro A c w B hB h hs
  have hn : vs.length ≤ 1048576 := hs.1
  have hsm := Lib.hid hs.2
  have H := Lib.hid h
  have IH := Lib.hid ih
  clear h hs ih
  have hmk := make_row (P := Try.prog) [.string ⟨#[]⟩, .int .i64 0, .int .i64 0, .string ⟨#[]⟩, .slice none 0 0, .slice none 0 0] Try.underlying59 Try.info_Kept rfl rfl vs.length (by omega) (by omega)
  go_enter Try.func95, Try.ntmps95
  go_wp2
  go_loopw [4] (fun i w' => ∃ (k : Nat) (ks : List Kept), k ≤ vs.length ∧ i = .int .i64 k ∧ vs = ks ++ vs.drop k ∧ ToInv w' w.heap.size 70 6 [.string ⟨#[]⟩, .int .i64 0, .int .i64 0, .string ⟨#[]⟩, .slice none 0 0, .slice none 0 0] vs.length k (keptsDs ks) ∧ Below w.heap.size w w') (fun i _ => vs.length - (intOf i).toNat)
  case atStart => exact ⟨0, [], by omega, rfl, rfl, ToInv.start _ _ _ _ _, below_box _ _⟩
  case round =>
    obtain ⟨k, ks, hk, rfl, hks, hT, hb⟩ := hrel
    by_cases hlt : k < vs.length
    · obtain ⟨ad, v, c0, c1, c2, c3, c4, c5, rfl, hbl, hv, hm, hd, x0, x1, x2, x3, x4, x5⟩ := row6_at (H.out.upto (hb.mono hB) (Nat.le_refl _)) rfl hlt
      have HK := Lib.hid hks
      have HT := Lib.hid hT
      clear hks hT
      have hz := hb.size
      go_wp2_with fail
      refine (IH.out v hm _ wr B (by omega) hv (smallDs_mem_kept hsm.out hm)).mono ?_
      rintro e w1 ⟨us1, f1, rfl, hO, hF, hb1⟩
      obtain ⟨a0, a1, a2, a3, A4, n4, q4, A5, n5, q5, rfl⟩ := keptDs_shape hO.rd'
      have hT1 := HT.out.below hb1
      have hz1 := hb1.size
      have t0 := hT1.there hlt rfl
      obtain ⟨⟨y0, q0_⟩, z0⟩ := t0 0 (by omega)
      obtain ⟨⟨y1, q1_⟩, z1⟩ := t0 1 (by omega)
      obtain ⟨⟨y2, q2_⟩, z2⟩ := t0 2 (by omega)
      obtain ⟨⟨y3, q3_⟩, z3⟩ := t0 3 (by omega)
      obtain ⟨⟨y4, q4_⟩, z4⟩ := t0 4 (by omega)
      obtain ⟨⟨y5, q5_⟩, z5⟩ := t0 5 (by omega)
      rw [Nat.add_zero] at q0_ z0
      have HS := Lib.hid (HT.out.step hlt rfl hb1 hO rfl hF)
      have HO := Lib.hid hO
      clear hO hT1 t0
      go_wp2
      go_roundw
      case rel => exact ⟨k + 1, ks ++ [v], by omega, by go_num, by rw [List.append_assoc, List.singleton_append, ← hd.out]; exact HK.out, by rw [keptsDs_append, show keptsDs [v] = keptDs v by simp [keptsDs]]; exact HS.out, setAll_below (o := k * 6) [_, _, _, _, _, _] (Nat.le_refl _) (hb.trans (hb1.mono hz))⟩
      case measure => simp [intOf]; omega
    · have e : k = vs.length := by omega
      subst e
      rw [List.drop_length, List.append_nil] at hks
      rw [← hks] at hT
      have HT := Lib.hid hT
      clear hks hT
      go_wp2
      go_ret
      obtain ⟨fp, h1, h2⟩ := HT.out.done (Nat.le_refl _) (by omega)
      exact ⟨_, fp, rfl, h1, h2, hb⟩
end Go.Proofs.Ytppfgepoegicgaa
namespace Go.Proofs.Ytppfgepoegicgaa
open Go Go.RowKit

def SzKept (v : Kept) : Prop := ∀ (us : List Value) (left : Int) (w : World) (B : Nat), B ≤ w.heap.size → RDv w B (keptDs v) us → 0 ≤ left → left ≤ 1048576 →
  Calls Try.prog 99 #[.agg us.toArray, .int .i64 left] w fun e w' => e = .returned (.int .i64 (szDs (keptDs v) left)) ∧ Below w.heap.size w w'
def SzKepts (vs : List Kept) : Prop := ∀ (A : Option Addr) (c : Nat) (left : Int) (w : World) (B : Nat), B ≤ w.heap.size → RD w B (.row 6 vs.length (keptsDs vs)) (.slice A vs.length c) → 0 ≤ left → left ≤ 1048576 →
  Calls Try.prog 94 #[.slice A vs.length c, .int .i64 left] w fun e w' => e = .returned (.int .i64 (szD (.row 6 vs.length (keptsDs vs)) left)) ∧ Below w.heap.size w w'

set_option maxHeartbeats 1000000 in
theorem szKepts_of (vs : List Kept) (ih : ∀ v ∈ vs, SzKept v) : SzKepts vs := by
  intro A c left w B hB h h0 h1
  have hn := h.len
  have H := Lib.hid h
  have IH := Lib.hid ih
  clear h ih
  go_enter Try.func94, Try.ntmps94
  by_cases hs : left - (vs.length : Int) < 0
  · have HR := Lib.hid (show szD (.row 6 vs.length (keptsDs vs)) left = -1 by simp [szD, hs])
    go_wp2
    go_ret
    exact ⟨by rw [HR.out]; rfl, Below.refl _ _⟩
  · have HR := Lib.hid (show szD (.row 6 vs.length (keptsDs vs)) left = szDs (keptsDs vs) (left - vs.length) by simp [szD, hs])
    go_wp2
    go_loopw [1, 5] (fun v i w' => ∃ (k : Nat) (l : Int), k ≤ vs.length ∧ v = .int .i64 l ∧ i = .int .i64 k ∧ 0 ≤ l ∧ l ≤ 1048576 ∧ Hid (szDs (keptsDs (vs.drop k)) l = szDs (keptsDs vs) (left - vs.length)) ∧ Below w.heap.size w w') (fun _ i _ => vs.length - (intOf i).toNat)
    case atStart => exact ⟨0, _, by omega, rfl, rfl, by omega, by omega, rfl, Below.refl _ _⟩
    case round =>
      obtain ⟨k, l, hk, rfl, rfl, hl0, hl1, HI, hb⟩ := hrel
      have hz := hb.size
      by_cases hlt : k < vs.length
      · obtain ⟨ad, v, c0, c1, c2, c3, c4, c5, rfl, hbl, hv, hm, hd, x0, x1, x2, x3, x4, x5⟩ := row6_at (H.out.upto (hb.mono hB) (Nat.le_refl _)) rfl hlt
        have h2 := HI.out
        clear HI
        rw [hd.out] at h2
        simp only [keptsDs] at h2
        rw [szDs_append _ _ _ hl0] at h2
        obtain ⟨m, em⟩ : ∃ m, m = szDs (keptDs v) l := ⟨_, rfl⟩
        have hr := szDs_range (keptDs v) l hl0
        rw [← em] at h2 hr
        have EM := Lib.hid em
        clear em
        by_cases hs2 : m < 0
        · rw [if_pos hs2] at h2
          have HI := Lib.hid h2
          clear h2
          go_wp2_with fail
          refine (IH.out v hm _ l wr B (by omega) hv hl0 hl1).mono ?_
          rintro e w1 ⟨rfl, hb1⟩
          rw [← EM.out]
          go_wp2
          go_ret
          exact ⟨by rw [HR.out, ← HI.out]; rfl, hb.trans (hb1.mono hz)⟩
        · rw [if_neg hs2] at h2
          have HI := Lib.hid h2
          clear h2
          go_wp2_with fail
          refine (IH.out v hm _ l wr B (by omega) hv hl0 hl1).mono ?_
          rintro e w1 ⟨rfl, hb1⟩
          rw [← EM.out]
          go_wp2
          go_roundw
          case rel => exact ⟨k + 1, _, by omega, rfl, by go_num, by omega, by omega, HI, hb.trans (hb1.mono hz)⟩
          case measure => simp [intOf]; omega
      · have e : k = vs.length := by omega
        have h2 := HI.out
        clear HI
        rw [e, List.drop_length] at h2
        have HI := Lib.hid h2
        clear h2 e
        go_wp2
        go_ret
        exact ⟨by rw [HR.out, ← HI.out]; rfl, hb⟩
end Go.Proofs.Ytppfgepoegicgaa
namespace Go.Proofs.Ytppfgepoegicgaa
open Go Go.RowKit

def SzAsker (v : Asker) : Prop := ∀ (us : List Value) (left : Int) (w : World) (B : Nat), B ≤ w.heap.size → RDv w B (askerDs v) us → 0 ≤ left → left ≤ 1048576 →
  Calls Try.prog 72 #[.agg us.toArray, .int .i64 left] w fun e w' => e = .returned (.int .i64 (szDs (askerDs v) left)) ∧ Below w.heap.size w w'
def SzAskers (vs : List Asker) : Prop := ∀ (A : Option Addr) (c : Nat) (left : Int) (w : World) (B : Nat), B ≤ w.heap.size → RD w B (.row 4 vs.length (askersDs vs)) (.slice A vs.length c) → 0 ≤ left → left ≤ 1048576 →
  Calls Try.prog 34 #[.slice A vs.length c, .int .i64 left] w fun e w' => e = .returned (.int .i64 (szD (.row 4 vs.length (askersDs vs)) left)) ∧ Below w.heap.size w w'

set_option maxHeartbeats 1000000 in
theorem szAskers_of (vs : List Asker) (ih : ∀ v ∈ vs, SzAsker v) : SzAskers vs := by
  intro A c left w B hB h h0 h1
  have hn := h.len
  have H := Lib.hid h
  have IH := Lib.hid ih
  clear h ih
  go_enter Try.func34, Try.ntmps34
  by_cases hs : left - (vs.length : Int) < 0
  · have HR := Lib.hid (show szD (.row 4 vs.length (askersDs vs)) left = -1 by simp [szD, hs])
    go_wp2
    go_ret
    exact ⟨by rw [HR.out]; rfl, Below.refl _ _⟩
  · have HR := Lib.hid (show szD (.row 4 vs.length (askersDs vs)) left = szDs (askersDs vs) (left - vs.length) by simp [szD, hs])
    go_wp2
    go_loopw [1, 5] (fun v i w' => ∃ (k : Nat) (l : Int), k ≤ vs.length ∧ v = .int .i64 l ∧ i = .int .i64 k ∧ 0 ≤ l ∧ l ≤ 1048576 ∧ Hid (szDs (askersDs (vs.drop k)) l = szDs (askersDs vs) (left - vs.length)) ∧ Below w.heap.size w w') (fun _ i _ => vs.length - (intOf i).toNat)
    case atStart => exact ⟨0, _, by omega, rfl, rfl, by omega, by omega, rfl, Below.refl _ _⟩
    case round =>
      obtain ⟨k, l, hk, rfl, rfl, hl0, hl1, HI, hb⟩ := hrel
      have hz := hb.size
      by_cases hlt : k < vs.length
      · obtain ⟨ad, v, c0, c1, c2, c3, rfl, hbl, hv, hm, hd, x0, x1, x2, x3⟩ := row4_at (H.out.upto (hb.mono hB) (Nat.le_refl _)) rfl hlt
        have h2 := HI.out
        clear HI
        rw [hd.out] at h2
        simp only [askersDs] at h2
        rw [szDs_append _ _ _ hl0] at h2
        obtain ⟨m, em⟩ : ∃ m, m = szDs (askerDs v) l := ⟨_, rfl⟩
        have hr := szDs_range (askerDs v) l hl0
        rw [← em] at h2 hr
        have EM := Lib.hid em
        clear em
        by_cases hs2 : m < 0
        · rw [if_pos hs2] at h2
          have HI := Lib.hid h2
          clear h2
          go_wp2_with fail
          refine (IH.out v hm _ l wr B (by omega) hv hl0 hl1).mono ?_
          rintro e w1 ⟨rfl, hb1⟩
          rw [← EM.out]
          go_wp2
          go_ret
          exact ⟨by rw [HR.out, ← HI.out]; rfl, hb.trans (hb1.mono hz)⟩
        · rw [if_neg hs2] at h2
          have HI := Lib.hid h2
          clear h2
          go_wp2_with fail
          refine (IH.out v hm _ l wr B (by omega) hv hl0 hl1).mono ?_
          rintro e w1 ⟨rfl, hb1⟩
          rw [← EM.out]
          go_wp2
          go_roundw
          case rel => exact ⟨k + 1, _, by omega, rfl, by go_num, by omega, by omega, HI, hb.trans (hb1.mono hz)⟩
          case measure => simp [intOf]; omega
      · have e : k = vs.length := by omega
        have h2 := HI.out
        clear HI
        rw [e, List.drop_length] at h2
        have HI := Lib.hid h2
        clear h2 e
        go_wp2
        go_ret
        exact ⟨by rw [HR.out, ← HI.out]; rfl, hb⟩
end Go.Proofs.Ytppfgepoegicgaa
namespace Go.Proofs.Ytppfgepoegicgaa
open Go Go.RowKit

theorem szDs_cons_str (s : ByteArray) (r : List Dat) (l : Int) : szDs (.str s :: r) l = if l - s.size < 0 then -1 else szDs r (l - s.size) := by
  simp only [szDs, szD]
  by_cases h : l - (s.size : Int) < 0
  · simp [h]
  · simp [h]
theorem szDs_cons_int (n : Int) (r : List Dat) (l : Int) (hl : 0 ≤ l) : szDs (.int n :: r) l = szDs r l := by
  have e : szD (.int n) l = l := by simp only [szD]
  simp only [szDs]
  rw [e, if_neg (by omega)]
theorem szDs_one (d : Dat) (l : Int) (hl : 0 ≤ l) : szDs [d] l = szD d l := by
  simp only [szDs]
  have := szD_range d l hl
  split <;> omega

set_option maxHeartbeats 1000000 in
theorem szKept_calls (v : Kept) : SzKept v := by
  intro us left w B hB h h0 h1
  obtain ⟨us', rfl, hs, hv⟩ := keptDs_open h
  obtain ⟨a, b, s, A1, n1, c1, A2, n2, c2, rfl⟩ := valDs_shape hv
  have hR : szDs (keptDs v) left = if left - v.name.size < 0 then -1 else szDs (valDs v.v) (left - v.name.size) := szDs_cons_str _ _ _
  obtain ⟨m1, em1⟩ : ∃ m, m = szDs (valDs v.v) (left - v.name.size) := ⟨_, rfl⟩
  have r1 := szDs_range (valDs v.v) (left - v.name.size)
  rw [← em1] at hR r1
  have E1 := Lib.hid em1
  have R1 := Lib.hid r1
  clear em1 r1 h
  have hbx := fun o => below_box w o
  by_cases t0 : left - (v.name.size : Int) < 0
  · rw [if_pos t0] at hR
    have HR := Lib.hid hR
    clear hR
    go_enter Try.func99, Try.ntmps99
    go_wp2
    go_ret
    exact ⟨by rw [HR.out]; rfl, hbx _⟩
  · rw [if_neg t0] at hR
    have b1 := R1.out (by omega)
    by_cases t1 : m1 < 0
    all_goals
      have HR := Lib.hid hR
      clear hR
      go_enter Try.func99, Try.ntmps99
      go_wp2_with fail
      refine (szVal_calls v.v [_, _, _, _, _] _ _ B (by simp; omega) (hv.below ((hbx _).mono hB)) (by omega) (by omega)).mono ?_
      rintro e w1 ⟨rfl, hb1⟩
      rw [← E1.out]
      obtain ⟨hb, hz, hc, hf⟩ := bbox hb1
      go_wp2
      go_ret
    · exact ⟨by rw [HR.out, show m1 = -1 by omega]; rfl, hb⟩
    · exact ⟨by rw [HR.out]; rfl, hb⟩
theorem szKepts_calls (vs : List Kept) : SzKepts vs := szKepts_of vs fun v _ => szKept_calls v

set_option maxHeartbeats 1000000 in
theorem szAsker_calls (v : Asker) : SzAsker v := by
  intro us left w B hB h h0 h1
  obtain ⟨A, c, rfl, hs, hv⟩ := askerDs_open h
  have hR : szDs (askerDs v) left = if left - v.name.size < 0 then -1 else szD (.row 6 v.trees.length (keptsDs v.trees)) (left - v.name.size) := by
    unfold askerDs
    rw [szDs_cons_str]
    by_cases t : left - (v.name.size : Int) < 0
    · rw [if_pos t, if_pos t]
    · rw [if_neg t, if_neg t, szDs_cons_int _ _ _ (by omega), szDs_cons_int _ _ _ (by omega), szDs_one _ _ (by omega)]
  obtain ⟨m1, em1⟩ : ∃ m, m = szD (.row 6 v.trees.length (keptsDs v.trees)) (left - v.name.size) := ⟨_, rfl⟩
  have r1 := szD_range (.row 6 v.trees.length (keptsDs v.trees)) (left - v.name.size)
  rw [← em1] at hR r1
  have E1 := Lib.hid em1
  have R1 := Lib.hid r1
  clear em1 r1 h
  have hbx := fun o => below_box w o
  by_cases t0 : left - (v.name.size : Int) < 0
  · rw [if_pos t0] at hR
    have HR := Lib.hid hR
    clear hR
    go_enter Try.func72, Try.ntmps72
    go_wp2
    go_ret
    exact ⟨by rw [HR.out]; rfl, hbx _⟩
  · rw [if_neg t0] at hR
    have b1 := R1.out (by omega)
    by_cases t1 : m1 < 0
    all_goals
      have HR := Lib.hid hR
      clear hR
      go_enter Try.func72, Try.ntmps72
      go_wp2_with fail
      refine (szKepts_calls v.trees A c _ _ B (by simp; omega) (hv.below ((hbx _).mono hB)) (by omega) (by omega)).mono ?_
      rintro e w1 ⟨rfl, hb1⟩
      rw [← E1.out]
      obtain ⟨hb, hz, hc, hf⟩ := bbox hb1
      go_wp2
      go_ret
    · exact ⟨by rw [HR.out, show m1 = -1 by omega]; rfl, hb⟩
    · exact ⟨by rw [HR.out]; rfl, hb⟩
theorem szAskers_calls (vs : List Asker) : SzAskers vs := szAskers_of vs fun v _ => szAsker_calls v

set_option maxHeartbeats 1000000 in
theorem szShelf_calls (v : Shelf) (us : List Value) (left : Int) (w : World) (B : Nat) (hB : B ≤ w.heap.size) (h : RDv w B (shelfDs v) us) (h0 : 0 ≤ left) (h1 : left ≤ 1048576) :
    Calls Try.prog 10 #[.agg us.toArray, .int .i64 left] w fun e w' => e = .returned (.int .i64 (szDs (shelfDs v) left)) ∧ Below w.heap.size w w' := by
  obtain ⟨A, c, rfl, hv⟩ := shelfDs_open h
  have hR : szDs (shelfDs v) left = szD (.row 4 v.askers.length (askersDs v.askers)) left := szDs_one _ _ h0
  obtain ⟨m1, em1⟩ : ∃ m, m = szD (.row 4 v.askers.length (askersDs v.askers)) left := ⟨_, rfl⟩
  have b1 := szD_range (.row 4 v.askers.length (askersDs v.askers)) left h0
  rw [← em1] at hR b1
  have E1 := Lib.hid em1
  clear em1 h
  have hbx := fun o => below_box w o
  by_cases t1 : m1 < 0
  all_goals
    have HR := Lib.hid hR
    clear hR
    go_enter Try.func10, Try.ntmps10
    go_wp2_with fail
    refine (szAskers_calls v.askers A c _ _ B (by simp; omega) (hv.below ((hbx _).mono hB)) (by omega) (by omega)).mono ?_
    rintro e w1 ⟨rfl, hb1⟩
    rw [← E1.out]
    obtain ⟨hb, hz, hc, hf⟩ := bbox hb1
    go_wp2
    go_ret
  · exact ⟨by rw [HR.out, show m1 = -1 by omega]; rfl, hb⟩
  · exact ⟨by rw [HR.out]; rfl, hb⟩
end Go.Proofs.Ytppfgepoegicgaa
namespace Go.Proofs.Ytppfgepoegicgaa
open Go Go.RowKit

/-- The end of a function that fills a variable of its own (block g + 2) and stores it whole into its result (block g + 1). -/
theorem to_end {w w1 W : World} {fp : List Nat} {ds : List Dat} {us us0 us' : List Value} {o1 o2 o3 : Obj} {i : Nat}
    (hF : Fresh (((w.alloc o1).alloc o2).alloc o3) w1 fp) (hO : ODv w1 ds us fp) (hb : Below w.heap.size w w1) (eW : W = setAll (setAll w1 (w.heap.size + 1 + 1) i us0) (w.heap.size + 1) 0 us') :
    ODv W ds us fp ∧ Fresh w W fp ∧ Below w.heap.size w W := by
  have hs1 : (((w.alloc o1).alloc o2).alloc o3).heap.size = w.heap.size + 1 + 1 + 1 := by simp
  have hsz : W.heap.size = w1.heap.size := by rw [eW, setAll_size, setAll_size]
  have g1 : ∀ b ∈ fp, w.heap.size + 1 + 1 + 1 ≤ b ∧ b < w1.heap.size := fun b hb => by
    have := hF.2 b hb
    rw [hs1] at this
    exact this
  refine ⟨ODv.keep ds us fp (fun b hb => ?_) hO, ⟨hF.1, fun b hb => ?_⟩, ?_⟩
  · have := g1 b hb
    rw [eW, setAll_other _ _ _ _ _ (by omega), setAll_other _ _ _ _ _ (by omega)]
  · have := g1 b hb
    omega
  · rw [eW]
    exact setAll_below _ (by omega) (setAll_below _ (by omega) hb)

set_option maxHeartbeats 1000000 in
theorem toKept_calls (v : Kept) : ToKept v := by
  intro us w B hB h hsm
  obtain ⟨vs, rfl, hs, hv⟩ := keptDs_open h
  obtain ⟨a, b, s, A1, n1, c1, A2, n2, c2, rfl⟩ := valDs_shape hv
  have HS := Lib.hid hsm.2
  have hbx := fun o1 o2 o3 => below_box3 w o1 o2 o3
  clear h hsm
  go_enter Try.func100, Try.ntmps100
  go_wp2_with fail
  refine (toVal_calls v.v [_, _, _, _, _] _ B (by simp; omega) (hv.below ((hbx _ _ _).mono hB)) HS.out).mono ?_
  rintro e w1 ⟨vs1, f1, rfl, hO1, hF1, hb1⟩
  obtain ⟨d0, d1, d2, A3, n3, c3, A4, n4, c4, rfl⟩ := valDs_shape hO1.rd'
  obtain ⟨hb, hz, bP, bR, bO⟩ := boxes3 (P := [_, _, _, _, _, _]) (R := [_, _, _, _, _, _]) (O := [_, _, _, _, _, _]) hb1
  have HO1 := Lib.hid hO1
  have HF1 := Lib.hid hF1
  obtain ⟨cR, fR⟩ := blk_rules bR
  obtain ⟨cO, fO⟩ := blk_rules bO
  clear hO1 hF1 bP bR bO hb1
  go_wp2
  refine bodyPost_ret (v := .agg #[.string v.name, .int .i64 d0, .int .i64 d1, .string d2, .slice A3 n3 c3, .slice A4 n4 c4]) (by simp [results, Try.results100, go_sem, cR]) rfl ?_
  obtain ⟨h1, h2, h3⟩ := to_end HF1.out HO1.out hb (show setAll (setAll w1 (w.heap.size + 1 + 1) 1 [.int .i64 d0, .int .i64 d1, .string d2, .slice A3 n3 c3, .slice A4 n4 c4]) (w.heap.size + 1) 0 [.string v.name, .int .i64 d0, .int .i64 d1, .string d2, .slice A3 n3 c3, .slice A4 n4 c4] = _ from rfl)
  exact ⟨[_, _, _, _, _, _], f1, rfl, ⟨_, _, [], f1, rfl, rfl, ⟨rfl, hs, rfl⟩, h1⟩, h2, h3⟩
theorem toKepts_calls (vs : List Kept) : ToKepts vs := toKepts_of vs fun v _ => toKept_calls v

set_option maxHeartbeats 1000000 in
theorem toAsker_calls (v : Asker) : ToAsker v := by
  intro us w B hB h hsm
  obtain ⟨A, c, rfl, hs, hv⟩ := askerDs_open h
  have HS := Lib.hid hsm.2.2.2.1
  have hbx := fun o1 o2 o3 => below_box3 w o1 o2 o3
  clear h hsm
  go_enter Try.func74, Try.ntmps74
  go_wp2_with fail
  refine (toKepts_calls v.trees A c _ B (by simp; omega) (hv.below ((hbx _ _ _).mono hB)) HS.out).mono ?_
  rintro e w1 ⟨v1, f1, rfl, hO1, hF1, hb1⟩
  obtain ⟨A3, c3, n3, rfl⟩ := row_shape hO1.rd'
  obtain ⟨hb, hz, bP, bR, bO⟩ := boxes3 (P := [_, _, _, _]) (R := [_, _, _, _]) (O := [_, _, _, _]) hb1
  have HO1 := Lib.hid (show ODv w1 [.row 6 v.trees.length (keptsDs v.trees)] [.slice A3 n3 c3] f1 from ⟨_, _, f1, [], rfl, (List.append_nil f1).symm, hO1, rfl, rfl⟩)
  have HF1 := Lib.hid hF1
  obtain ⟨cR, fR⟩ := blk_rules bR
  obtain ⟨cO, fO⟩ := blk_rules bO
  clear hO1 hF1 bP bR bO hb1
  go_wp2
  refine bodyPost_ret (v := .agg #[.string v.name, .int .i64 v.most, .int .i64 v.fuel, .slice A3 n3 c3]) (by simp [results, Try.results74, go_sem, cR]) rfl ?_
  obtain ⟨h1, h2, h3⟩ := to_end HF1.out HO1.out hb (show setAll (setAll w1 (w.heap.size + 1 + 1) 3 [.slice A3 n3 c3]) (w.heap.size + 1) 0 [.string v.name, .int .i64 v.most, .int .i64 v.fuel, .slice A3 n3 c3] = _ from rfl)
  exact ⟨[_, _, _, _], f1, rfl, ⟨_, _, [], f1, rfl, rfl, ⟨rfl, hs, rfl⟩, _, _, [], f1, rfl, rfl, ⟨rfl, rfl⟩, _, _, [], f1, rfl, rfl, ⟨rfl, rfl⟩, h1⟩, h2, h3⟩
theorem toAskers_calls (vs : List Asker) : ToAskers vs := toAskers_of vs fun v _ => toAsker_calls v

set_option maxHeartbeats 1000000 in
theorem toShelf_calls (v : Shelf) (us : List Value) (w : World) (B : Nat) (hB : B ≤ w.heap.size) (h : RDv w B (shelfDs v) us) (hsm : SmallDs (shelfDs v)) :
    Calls Try.prog 12 #[.agg us.toArray] w fun e w' => ∃ vs fp, e = .returned (.agg vs.toArray) ∧ ODv w' (shelfDs v) vs fp ∧ Fresh w w' fp ∧ Below w.heap.size w w' := by
  obtain ⟨A, c, rfl, hv⟩ := shelfDs_open h
  have HS := Lib.hid hsm.1
  have hbx := fun o1 o2 o3 => below_box3 w o1 o2 o3
  clear h hsm
  go_enter Try.func12, Try.ntmps12
  go_wp2_with fail
  refine (toAskers_calls v.askers A c _ B (by simp; omega) (hv.below ((hbx _ _ _).mono hB)) HS.out).mono ?_
  rintro e w1 ⟨v1, f1, rfl, hO1, hF1, hb1⟩
  obtain ⟨A3, c3, n3, rfl⟩ := row_shape hO1.rd'
  obtain ⟨hb, hz, bP, bR, bO⟩ := boxes3 (P := [_]) (R := [_]) (O := [_]) hb1
  have HO1 := Lib.hid (show ODv w1 [.row 4 v.askers.length (askersDs v.askers)] [.slice A3 n3 c3] f1 from ⟨_, _, f1, [], rfl, (List.append_nil f1).symm, hO1, rfl, rfl⟩)
  have HF1 := Lib.hid hF1
  obtain ⟨cR, fR⟩ := blk_rules bR
  obtain ⟨cO, fO⟩ := blk_rules bO
  clear hO1 hF1 bP bR bO hb1
  go_wp2
  refine bodyPost_ret (v := .agg #[.slice A3 n3 c3]) (by simp [results, Try.results12, go_sem, cR]) rfl ?_
  obtain ⟨h1, h2, h3⟩ := to_end HF1.out HO1.out hb (show setAll (setAll w1 (w.heap.size + 1 + 1) 0 [.slice A3 n3 c3]) (w.heap.size + 1) 0 [.slice A3 n3 c3] = _ from rfl)
  exact ⟨[_], f1, rfl, h1, h2, h3⟩
end Go.Proofs.Ytppfgepoegicgaa
namespace Go.Proofs.Ytppfgepoegicgaa
open Go Go.RowKit

def EqKept (v : Kept) : Prop := ∀ (us us' : List Value) (w : World) (B : Nat), B ≤ w.heap.size → RDv w B (keptDs v) us → RDv w B (keptDs v) us' →
  Calls Try.prog 103 #[.agg us.toArray, .agg us'.toArray] w fun e w' => e = .returned (.bool true) ∧ Below w.heap.size w w'
def EqKepts (vs : List Kept) : Prop := ∀ (A A' : Option Addr) (c c' : Nat) (w : World) (B : Nat), B ≤ w.heap.size → RD w B (.row 6 vs.length (keptsDs vs)) (.slice A vs.length c) → RD w B (.row 6 vs.length (keptsDs vs)) (.slice A' vs.length c') →
  Calls Try.prog 97 #[.slice A vs.length c, .slice A' vs.length c'] w fun e w' => e = .returned (.bool true) ∧ Below w.heap.size w w'

set_option maxRecDepth 100000 in
set_option maxHeartbeats 1000000 in
theorem eqKepts_of (vs : List Kept) (ih : ∀ v ∈ vs, EqKept v) : EqKepts vs := by
  intro A A' c c' w B hB h h'
  have hn := h.len
  have H := Lib.hid h
  have H' := Lib.hid h'
  have IH := Lib.hid ih
  clear h h' ih
  go_enter Try.func97, Try.ntmps97
  go_wp2
  go_loopw [5] (fun i w' => ∃ (k : Nat), k ≤ vs.length ∧ i = .int .i64 k ∧ Below w.heap.size w w') (fun i _ => vs.length - (intOf i).toNat)
  case atStart => exact ⟨0, by omega, rfl, Below.refl _ _⟩
  case round =>
    obtain ⟨k, hk, rfl, hb⟩ := hrel
    have hz := hb.size
    by_cases hlt : k < vs.length
    · obtain ⟨ad, v, c0, c1, c2, c3, c4, c5, rfl, hbl, hv, hm, hd, x0, x1, x2, x3, x4, x5⟩ := row6_at (H.out.upto (hb.mono hB) (Nat.le_refl _)) rfl hlt
      obtain ⟨ad', v', c0', c1', c2', c3', c4', c5', rfl, hbl', hv', hm', hd', x0', x1', x2', x3', x4', x5'⟩ := row6_at (H'.out.upto (hb.mono hB) (Nat.le_refl _)) rfl hlt
      obtain rfl : v = v' := by
        have := hd.out.symm.trans hd'.out
        injection this
      have hb0 : (0 : Int) ≤ (k : Int) := by omega
      have hb1 : (k : Int) < (vs.length : Int) := by omega
      go_wp2_with fail
      go_still_tail 8, (by kernel_rfl)
      change wpList _ _ _ _ _ wr.drew
      have hD : Below wr.heap.size wr wr.drew := (Below.refl _ _).drew
      have hBr : B ≤ wr.heap.size := by omega
      go_wp2_with fail
      refine (IH.out v hm _ _ wr.drew B hBr (hv.below (hD.mono hBr)) (hv'.below (hD.mono hBr))).mono ?_
      rintro e w1 ⟨rfl, hb1⟩
      go_wp2
      go_roundw
      case rel => exact ⟨k + 1, by omega, by go_num, hb.trans ((hD.trans hb1).mono hz)⟩
      case measure => simp [intOf]; omega
    · go_wp2
      go_ret
      exact ⟨rfl, hb⟩
end Go.Proofs.Ytppfgepoegicgaa
namespace Go.Proofs.Ytppfgepoegicgaa
open Go Go.RowKit

def EqAsker (v : Asker) : Prop := ∀ (us us' : List Value) (w : World) (B : Nat), B ≤ w.heap.size → RDv w B (askerDs v) us → RDv w B (askerDs v) us' →
  Calls Try.prog 77 #[.agg us.toArray, .agg us'.toArray] w fun e w' => e = .returned (.bool true) ∧ Below w.heap.size w w'
def EqAskers (vs : List Asker) : Prop := ∀ (A A' : Option Addr) (c c' : Nat) (w : World) (B : Nat), B ≤ w.heap.size → RD w B (.row 4 vs.length (askersDs vs)) (.slice A vs.length c) → RD w B (.row 4 vs.length (askersDs vs)) (.slice A' vs.length c') →
  Calls Try.prog 39 #[.slice A vs.length c, .slice A' vs.length c'] w fun e w' => e = .returned (.bool true) ∧ Below w.heap.size w w'

set_option maxRecDepth 100000 in
set_option maxHeartbeats 1000000 in
theorem eqAskers_of (vs : List Asker) (ih : ∀ v ∈ vs, EqAsker v) : EqAskers vs := by
  intro A A' c c' w B hB h h'
  have hn := h.len
  have H := Lib.hid h
  have H' := Lib.hid h'
  have IH := Lib.hid ih
  clear h h' ih
  go_enter Try.func39, Try.ntmps39
  go_wp2
  go_loopw [5] (fun i w' => ∃ (k : Nat), k ≤ vs.length ∧ i = .int .i64 k ∧ Below w.heap.size w w') (fun i _ => vs.length - (intOf i).toNat)
  case atStart => exact ⟨0, by omega, rfl, Below.refl _ _⟩
  case round =>
    obtain ⟨k, hk, rfl, hb⟩ := hrel
    have hz := hb.size
    by_cases hlt : k < vs.length
    · obtain ⟨ad, v, c0, c1, c2, c3, rfl, hbl, hv, hm, hd, x0, x1, x2, x3⟩ := row4_at (H.out.upto (hb.mono hB) (Nat.le_refl _)) rfl hlt
      obtain ⟨ad', v', c0', c1', c2', c3', rfl, hbl', hv', hm', hd', x0', x1', x2', x3'⟩ := row4_at (H'.out.upto (hb.mono hB) (Nat.le_refl _)) rfl hlt
      obtain rfl : v = v' := by
        have := hd.out.symm.trans hd'.out
        injection this
      have hb0 : (0 : Int) ≤ (k : Int) := by omega
      have hb1 : (k : Int) < (vs.length : Int) := by omega
      go_wp2_with fail
      go_still_tail 8, (by kernel_rfl)
      change wpList _ _ _ _ _ wr.drew
      have hD : Below wr.heap.size wr wr.drew := (Below.refl _ _).drew
      have hBr : B ≤ wr.heap.size := by omega
      go_wp2_with fail
      refine (IH.out v hm _ _ wr.drew B hBr (hv.below (hD.mono hBr)) (hv'.below (hD.mono hBr))).mono ?_
      rintro e w1 ⟨rfl, hb1⟩
      go_wp2
      go_roundw
      case rel => exact ⟨k + 1, by omega, by go_num, hb.trans ((hD.trans hb1).mono hz)⟩
      case measure => simp [intOf]; omega
    · go_wp2
      go_ret
      exact ⟨rfl, hb⟩
end Go.Proofs.Ytppfgepoegicgaa
namespace Go.Proofs.Ytppfgepoegicgaa
open Go Go.RowKit

set_option maxHeartbeats 1000000 in
theorem eqKept_calls (v : Kept) : EqKept v := by
  intro us us' w B hB h h'
  obtain ⟨vs, rfl, hs, hv⟩ := keptDs_open h
  obtain ⟨a, b, s, A1, n1, c1, A2, n2, c2, rfl⟩ := valDs_shape hv
  obtain ⟨vs', rfl, hs', hv'⟩ := keptDs_open h'
  obtain ⟨a', b', s', A1', n1', c1', A2', n2', c2', rfl⟩ := valDs_shape hv'
  clear h h'
  go_enter Try.func103, Try.ntmps103
  go_wp2_with fail
  refine (eqVal_calls v.v [_, _, _, _, _] [_, _, _, _, _] _ B (by simp; omega) (hv.below ((below_box2 _ _ _).mono hB)) (hv'.below ((below_box2 _ _ _).mono hB))).mono ?_
  rintro e w1 ⟨rfl, hb1⟩
  obtain ⟨hb, hz, hc, hf⟩ := bbox2 hb1
  clear hb1
  go_wp2
  go_ret
  exact ⟨rfl, hb⟩
theorem eqKepts_calls (vs : List Kept) : EqKepts vs := eqKepts_of vs fun v _ => eqKept_calls v

set_option maxHeartbeats 1000000 in
theorem eqAsker_calls (v : Asker) : EqAsker v := by
  intro us us' w B hB h h'
  obtain ⟨A, c, rfl, hs, hv⟩ := askerDs_open h
  obtain ⟨A', c', rfl, hs', hv'⟩ := askerDs_open h'
  have hn := hv.len
  clear h h'
  go_enter Try.func77, Try.ntmps77
  go_wp2_with fail
  refine (eqKepts_calls v.trees A A' c c' _ B (by simp; omega) (hv.below ((below_box2 _ _ _).mono hB)) (hv'.below ((below_box2 _ _ _).mono hB))).mono ?_
  rintro e w1 ⟨rfl, hb1⟩
  obtain ⟨hb, hz, hc, hf⟩ := bbox2 hb1
  clear hb1
  go_wp2
  go_ret
  exact ⟨rfl, hb⟩
theorem eqAskers_calls (vs : List Asker) : EqAskers vs := eqAskers_of vs fun v _ => eqAsker_calls v

set_option maxHeartbeats 1000000 in
theorem eqShelf_calls (v : Shelf) (us us' : List Value) (w : World) (B : Nat) (hB : B ≤ w.heap.size) (h : RDv w B (shelfDs v) us) (h' : RDv w B (shelfDs v) us') :
    Calls Try.prog 14 #[.agg us.toArray, .agg us'.toArray] w fun e w' => e = .returned (.bool true) ∧ Below w.heap.size w w' := by
  obtain ⟨A, c, rfl, hv⟩ := shelfDs_open h
  obtain ⟨A', c', rfl, hv'⟩ := shelfDs_open h'
  clear h h'
  go_enter Try.func14, Try.ntmps14
  go_wp2_with fail
  refine (eqAskers_calls v.askers A A' c c' _ B (by simp; omega) (hv.below ((below_box2 _ _ _).mono hB)) (hv'.below ((below_box2 _ _ _).mono hB))).mono ?_
  rintro e w1 ⟨rfl, hb1⟩
  obtain ⟨hb, hz, hc, hf⟩ := bbox2 hb1
  clear hb1
  go_wp2
  go_ret
  exact ⟨rfl, hb⟩
end Go.Proofs.Ytppfgepoegicgaa
