import Derived.Test.YtppfgepoegicgaaKeptRows
namespace Go.Proofs.Ytppfgepoegicgaa
open Go Go.RowKit

structure Asker where
  name : ByteArray
  most : Int
  fuel : Int
  trees : List Kept
def askerDs (x : Asker) : List Dat := [.str x.name, .int x.most, .int x.fuel, .row 6 x.trees.length (keptsDs x.trees)]
def askersDs : List Asker → List Dat
  | [] => []
  | x :: r => askerDs x ++ askersDs r
theorem askerDs_length (x : Asker) : (askerDs x).length = 4 := rfl
theorem askerDs_open {w : World} {B : Nat} {x : Asker} {us : List Value} (h : RDv w B (askerDs x) us) : ∃ A c, us = [.string x.name, .int .i64 x.most, .int .i64 x.fuel, .slice A x.trees.length c] ∧ x.name.size ≤ 9223372036854775807 ∧ RD w B (.row 6 x.trees.length (keptsDs x.trees)) (.slice A x.trees.length c) := by
  obtain ⟨_, _, rfl, h0, _, _, rfl, h1, _, _, rfl, h2, u3, _, rfl, h3, rfl⟩ := h
  obtain ⟨A, c, us1, e1, r1⟩ := h3
  subst e1
  exact ⟨A, c, by rw [show _ = _ from h0.1, show _ = _ from h1, show _ = _ from h2], h0.2, A, c, us1, rfl, r1⟩
theorem askerDs_shape {w : World} {B : Nat} {x : Asker} {us : List Value} (h : RDv w B (askerDs x) us) : ∃ (s0 : ByteArray) (a b : Int) (A1 : Option Addr) (n1 c1 : Nat), us = [.string s0, .int .i64 a, .int .i64 b, .slice A1 n1 c1] := by
  obtain ⟨A, c, rfl, _⟩ := askerDs_open h
  exact ⟨_, _, _, _, _, _, rfl⟩
structure Shelf where
  askers : List Asker
def shelfDs (x : Shelf) : List Dat := [.row 4 x.askers.length (askersDs x.askers)]
theorem shelfDs_open {w : World} {B : Nat} {x : Shelf} {us : List Value} (h : RDv w B (shelfDs x) us) : ∃ A c, us = [.slice A x.askers.length c] ∧ RD w B (.row 4 x.askers.length (askersDs x.askers)) (.slice A x.askers.length c) := by
  obtain ⟨u3, _, rfl, h3, rfl⟩ := h
  obtain ⟨A, c, us1, e1, r1⟩ := h3
  subst e1
  exact ⟨A, c, rfl, A, c, us1, rfl, r1⟩

section
variable {w w' : World} {B : Nat}
theorem askersDs_append : ∀ a b : List Asker, askersDs (a ++ b) = askersDs a ++ askersDs b
  | [], _ => rfl
  | s :: a, b => by simp [askersDs, askersDs_append a b]
theorem askersDs_split : ∀ {vs : List Asker} {us : List Value} (k : Nat), k < vs.length → RDv w B (askersDs vs) us → ∃ v us0 us1 us2, us = us0 ++ (us1 ++ us2) ∧ us0.length = k * 4 ∧ vs.drop k = v :: vs.drop (k + 1) ∧ v ∈ vs ∧ RDv w B (askerDs v) us1
  | [], _, _, h, _ => by simp at h
  | v :: vs, us, 0, _, h => by
    obtain ⟨u1, u2, rfl, h1, h2⟩ := RDv.append_iff.1 h
    exact ⟨v, [], u1, u2, rfl, rfl, rfl, List.mem_cons_self, h1⟩
  | v :: vs, us, k + 1, hk, h => by
    obtain ⟨u1, u2, rfl, h1, h2⟩ := RDv.append_iff.1 h
    obtain ⟨x, a0, a1, a2, rfl, hl, hd, hm, hx⟩ := askersDs_split k (by simpa using hk) h2
    refine ⟨x, u1 ++ a0, a1, a2, by simp, ?_, by simpa using hd, List.mem_cons_of_mem _ hm, hx⟩
    have := RDv.length_eq h1
    rw [askerDs_length] at this
    simp [this, hl]
    omega
/-- Round k of a walk over a row of 4-cell elements. -/
theorem row4_at {vs : List Asker} {A : Option Addr} {n c : Nat} (h : RD w B (.row 4 n (askersDs vs)) (.slice A n c)) (hn : n = vs.length) {k : Nat} (hk : k < n) :
    ∃ ad v c0 c1 c2 c3, A = some ad ∧ ad.block < B ∧ RDv w B (askerDs v) [c0, c1, c2, c3] ∧ v ∈ vs ∧ Hid (vs.drop k = v :: vs.drop (k + 1)) ∧
    w.cell? (ad.add (k * 4)) = some c0 ∧ w.cell? ⟨(ad.add (k * 4)).block, (ad.add (k * 4)).off + 1, none⟩ = some c1 ∧ w.cell? ⟨(ad.add (k * 4)).block, (ad.add (k * 4)).off + 2, none⟩ = some c2 ∧ w.cell? ⟨(ad.add (k * 4)).block, (ad.add (k * 4)).off + 3, none⟩ = some c3 := by
  obtain ⟨A', cap, us, e, _, _, ⟨hl, hr⟩, hv⟩ := h
  injection e with e1 e2 e3
  subst e1
  obtain ⟨ad, rfl, hb, hc⟩ := hr (by omega)
  obtain ⟨v, us0, us1, us2, rfl, hl0, hd, hm, hx⟩ := askersDs_split k (by omega) hv
  have h5 := RDv.length_eq hx
  rw [askerDs_length] at h5
  match us1, h5 with
  | [c0, c1, c2, c3], _ =>
    have g : ∀ j u, [c0, c1, c2, c3][j]? = some u → w.cell? (ad.add (k * 4 + j)) = some u := fun j u hj => hc _ u (by
      rw [List.getElem?_append_right (by omega), hl0, Nat.add_sub_cancel_left, List.getElem?_append_left (List.getElem?_eq_some_iff.1 hj).1]
      exact hj)
    refine ⟨ad, v, c0, c1, c2, c3, rfl, hb, hx, hm, hd, g 0 _ rfl, ?_, ?_, ?_⟩
    · rw [add_pos _ _ _ (by omega)]; exact g 1 _ rfl
    · rw [add_pos _ _ _ (by omega)]; exact g 2 _ rfl
    · rw [add_pos _ _ _ (by omega)]; exact g 3 _ rfl
theorem smallDs_mem_asker : ∀ {vs : List Asker} {v : Asker}, SmallDs (askersDs vs) → v ∈ vs → SmallDs (askerDs v)
  | [], _, _, h => by cases h
  | x :: vs, v, h, hm => by
    have h2 := smallDs_append.1 h
    rcases List.mem_cons.1 hm with rfl | hm
    · exact h2.1
    · exact smallDs_mem_asker h2.2 hm
end
end Go.Proofs.Ytppfgepoegicgaa
