import Derived.Test.YtppfgepoegicgaaTo
namespace Go.Proofs.Ytppfgepoegicgaa
open Go Go.RowKit

structure Kept where
  name : ByteArray
  v : Val
def keptDs (x : Kept) : List Dat := .str x.name :: valDs x.v
def keptsDs : List Kept → List Dat
  | [] => []
  | x :: r => keptDs x ++ keptsDs r
theorem keptDs_length (x : Kept) : (keptDs x).length = 6 := by simp [keptDs, valDs_length]
theorem keptDs_open {w : World} {B : Nat} {x : Kept} {us : List Value} (h : RDv w B (keptDs x) us) : ∃ us', us = .string x.name :: us' ∧ x.name.size ≤ 9223372036854775807 ∧ RDv w B (valDs x.v) us' := by
  obtain ⟨_, us', rfl, h1, h2⟩ := h
  exact ⟨us', by rw [show _ = _ from h1.1], h1.2, h2⟩
theorem keptDs_shape {w : World} {B : Nat} {x : Kept} {us : List Value} (h : RDv w B (keptDs x) us) : ∃ (s0 : ByteArray) (a b : Int) (s : ByteArray) (A1 : Option Addr) (n1 c1 : Nat) (A2 : Option Addr) (n2 c2 : Nat), us = [.string s0, .int .i64 a, .int .i64 b, .string s, .slice A1 n1 c1, .slice A2 n2 c2] := by
  obtain ⟨us', rfl, _, h2⟩ := keptDs_open h
  obtain ⟨a, b, s, A1, n1, c1, A2, n2, c2, rfl⟩ := valDs_shape h2
  exact ⟨_, _, _, _, _, _, _, _, _, _, rfl⟩

section
variable {w w' : World} {B : Nat}
theorem keptsDs_append : ∀ a b : List Kept, keptsDs (a ++ b) = keptsDs a ++ keptsDs b
  | [], _ => rfl
  | s :: a, b => by simp [keptsDs, keptsDs_append a b]
theorem keptsDs_split : ∀ {vs : List Kept} {us : List Value} (k : Nat), k < vs.length → RDv w B (keptsDs vs) us → ∃ v us0 us1 us2, us = us0 ++ (us1 ++ us2) ∧ us0.length = k * 6 ∧ vs.drop k = v :: vs.drop (k + 1) ∧ v ∈ vs ∧ RDv w B (keptDs v) us1
  | [], _, _, h, _ => by simp at h
  | v :: vs, us, 0, _, h => by
    obtain ⟨u1, u2, rfl, h1, h2⟩ := RDv.append_iff.1 h
    exact ⟨v, [], u1, u2, rfl, rfl, rfl, List.mem_cons_self, h1⟩
  | v :: vs, us, k + 1, hk, h => by
    obtain ⟨u1, u2, rfl, h1, h2⟩ := RDv.append_iff.1 h
    obtain ⟨x, a0, a1, a2, rfl, hl, hd, hm, hx⟩ := keptsDs_split k (by simpa using hk) h2
    refine ⟨x, u1 ++ a0, a1, a2, by simp, ?_, by simpa using hd, List.mem_cons_of_mem _ hm, hx⟩
    have := RDv.length_eq h1
    rw [keptDs_length] at this
    simp [this, hl]
    omega
/-- Round k of a walk over a row of 6-cell elements. -/
theorem row6_at {vs : List Kept} {A : Option Addr} {n c : Nat} (h : RD w B (.row 6 n (keptsDs vs)) (.slice A n c)) (hn : n = vs.length) {k : Nat} (hk : k < n) :
    ∃ ad v c0 c1 c2 c3 c4 c5, A = some ad ∧ ad.block < B ∧ RDv w B (keptDs v) [c0, c1, c2, c3, c4, c5] ∧ v ∈ vs ∧ Hid (vs.drop k = v :: vs.drop (k + 1)) ∧
    w.cell? (ad.add (k * 6)) = some c0 ∧ w.cell? ⟨(ad.add (k * 6)).block, (ad.add (k * 6)).off + 1, none⟩ = some c1 ∧ w.cell? ⟨(ad.add (k * 6)).block, (ad.add (k * 6)).off + 2, none⟩ = some c2 ∧ w.cell? ⟨(ad.add (k * 6)).block, (ad.add (k * 6)).off + 3, none⟩ = some c3 ∧ w.cell? ⟨(ad.add (k * 6)).block, (ad.add (k * 6)).off + 4, none⟩ = some c4 ∧ w.cell? ⟨(ad.add (k * 6)).block, (ad.add (k * 6)).off + 5, none⟩ = some c5 := by
  obtain ⟨A', cap, us, e, _, _, ⟨hl, hr⟩, hv⟩ := h
  injection e with e1 e2 e3
  subst e1
  obtain ⟨ad, rfl, hb, hc⟩ := hr (by omega)
  obtain ⟨v, us0, us1, us2, rfl, hl0, hd, hm, hx⟩ := keptsDs_split k (by omega) hv
  have h5 := RDv.length_eq hx
  rw [keptDs_length] at h5
  match us1, h5 with
  | [c0, c1, c2, c3, c4, c5], _ =>
    have g : ∀ j u, [c0, c1, c2, c3, c4, c5][j]? = some u → w.cell? (ad.add (k * 6 + j)) = some u := fun j u hj => hc _ u (by
      rw [List.getElem?_append_right (by omega), hl0, Nat.add_sub_cancel_left, List.getElem?_append_left (List.getElem?_eq_some_iff.1 hj).1]
      exact hj)
    refine ⟨ad, v, c0, c1, c2, c3, c4, c5, rfl, hb, hx, hm, hd, g 0 _ rfl, ?_, ?_, ?_, ?_, ?_⟩
    · rw [add_pos _ _ _ (by omega)]; exact g 1 _ rfl
    · rw [add_pos _ _ _ (by omega)]; exact g 2 _ rfl
    · rw [add_pos _ _ _ (by omega)]; exact g 3 _ rfl
    · rw [add_pos _ _ _ (by omega)]; exact g 4 _ rfl
    · rw [add_pos _ _ _ (by omega)]; exact g 5 _ rfl
theorem smallDs_mem_kept : ∀ {vs : List Kept} {v : Kept}, SmallDs (keptsDs vs) → v ∈ vs → SmallDs (keptDs v)
  | [], _, _, h => by cases h
  | x :: vs, v, h, hm => by
    have h2 := smallDs_append.1 h
    rcases List.mem_cons.1 hm with rfl | hm
    · exact h2.1
    · exact smallDs_mem_kept h2.2 hm
end
end Go.Proofs.Ytppfgepoegicgaa
