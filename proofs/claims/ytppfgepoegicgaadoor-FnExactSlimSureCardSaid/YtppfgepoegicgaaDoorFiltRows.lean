import Derived.Test.YtppfgepoegicgaaDoorTo
namespace Go.Proofs.YtppfgepoegicgaaDoor
open Go Go.RowKit

inductive Filt where
  | mk (kind n : Int) (s : ByteArray) (v : Val) (kids : List Filt)
mutual
def filtDs : Filt → List Dat
  | .mk kind n s v kids => .int kind :: .int n :: .str s :: (valDs v ++ [.row 9 kids.length (filtsDs kids)])
def filtsDs : List Filt → List Dat
  | [] => []
  | v :: r => filtDs v ++ filtsDs r
end
theorem Filt.ind {P : Filt → Prop} (h : ∀ kind n s v kids, (∀ x ∈ kids, P x) → P (.mk kind n s v kids)) : ∀ x, P x := by
  intro v
  have := @Filt.rec (fun v => P v) (fun l => ∀ v ∈ l, P v) (fun kind n s v kids ih => h kind n s v kids ih) (fun _ hx => by cases hx) (fun v l h1 h2 x hx => by
    rcases List.mem_cons.1 hx with rfl | hx
    · exact h1
    · exact h2 x hx) v
  exact this
theorem filtDs_length (x : Filt) : (filtDs x).length = 9 := by
  obtain ⟨_, _, _, v, _⟩ := x
  simp [filtDs, valDs_length]
theorem filtDs_open {w : World} {B : Nat} {x : Filt} {us : List Value} (h : RDv w B (filtDs x) us) : ∃ kind n s v kids uv A c, x = .mk kind n s v kids ∧ us = .int .i64 kind :: .int .i64 n :: .string s :: (uv ++ [.slice A kids.length c]) ∧
    s.size ≤ 9223372036854775807 ∧ RDv w B (valDs v) uv ∧ RD w B (.row 9 kids.length (filtsDs kids)) (.slice A kids.length c) := by
  obtain ⟨kind, n, s, v, kids⟩ := x
  simp only [filtDs] at h
  obtain ⟨_, _, rfl, h0, _, _, rfl, h1, _, _, rfl, h2, h3⟩ := h
  obtain ⟨uv, u4, rfl, h4, h5⟩ := RDv.append_iff.1 h3
  obtain ⟨u5, _, rfl, h6, rfl⟩ := h5
  obtain ⟨A, c, us1, e1, r1⟩ := h6
  subst e1
  exact ⟨kind, n, s, v, kids, uv, A, c, rfl, by rw [show _ = _ from h0, show _ = _ from h1, show _ = _ from h2.1], h2.2, h4, A, c, us1, rfl, r1⟩
theorem filtDs_shape {w : World} {B : Nat} {x : Filt} {us : List Value} (h : RDv w B (filtDs x) us) : ∃ (a0 a1 : Int) (a2 : ByteArray) (a3 a4 : Int) (a5 : ByteArray) (A6 : Option Addr) (n6 q6 : Nat) (A7 : Option Addr) (n7 q7 : Nat) (A8 : Option Addr) (n8 q8 : Nat), us = [.int .i64 a0, .int .i64 a1, .string a2, .int .i64 a3, .int .i64 a4, .string a5, .slice A6 n6 q6, .slice A7 n7 q7, .slice A8 n8 q8] := by
  obtain ⟨kind, n, s, v, kids, uv, A, c, rfl, rfl, _, hv, _⟩ := filtDs_open h
  obtain ⟨a, b, s', A1, n1, c1, A2, n2, c2, rfl⟩ := valDs_shape hv
  exact ⟨_, _, _, _, _, _, _, _, _, _, _, _, _, _, _, rfl⟩
/-- All that a filter's cells are. -/
theorem filtDs_all {w : World} {B : Nat} {x : Filt} {us : List Value} (h : RDv w B (filtDs x) us) : ∃ (kind n : Int) (s : ByteArray) (v : Val) (kids : List Filt) (a3 a4 : Int) (a5 : ByteArray) (A6 : Option Addr) (n6 q6 : Nat) (A7 : Option Addr) (n7 q7 : Nat) (A8 : Option Addr) (q8 : Nat), x = .mk kind n s v kids ∧
    us = [.int .i64 kind, .int .i64 n, .string s, .int .i64 a3, .int .i64 a4, .string a5, .slice A6 n6 q6, .slice A7 n7 q7, .slice A8 kids.length q8] ∧ s.size ≤ 9223372036854775807 ∧
    RDv w B (valDs v) [.int .i64 a3, .int .i64 a4, .string a5, .slice A6 n6 q6, .slice A7 n7 q7] ∧ RD w B (.row 9 kids.length (filtsDs kids)) (.slice A8 kids.length q8) := by
  obtain ⟨kind, n, s, v, kids, uv, A, c, rfl, rfl, hs, hv, hk⟩ := filtDs_open h
  obtain ⟨a, b, s', A1, n1, c1, A2, n2, c2, rfl⟩ := valDs_shape hv
  exact ⟨_, _, _, _, _, _, _, _, _, _, _, _, _, _, _, _, rfl, rfl, hs, hv, hk⟩

section
variable {w w' : World} {B : Nat}
theorem filtsDs_append : ∀ a b : List Filt, filtsDs (a ++ b) = filtsDs a ++ filtsDs b
  | [], _ => rfl
  | s :: a, b => by simp [filtsDs, filtsDs_append a b]
theorem filtsDs_split : ∀ {vs : List Filt} {us : List Value} (k : Nat), k < vs.length → RDv w B (filtsDs vs) us → ∃ v us0 us1 us2, us = us0 ++ (us1 ++ us2) ∧ us0.length = k * 9 ∧ vs.drop k = v :: vs.drop (k + 1) ∧ v ∈ vs ∧ RDv w B (filtDs v) us1
  | [], _, _, h, _ => by simp at h
  | v :: vs, us, 0, _, h => by
    obtain ⟨u1, u2, rfl, h1, h2⟩ := RDv.append_iff.1 h
    exact ⟨v, [], u1, u2, rfl, rfl, rfl, List.mem_cons_self, h1⟩
  | v :: vs, us, k + 1, hk, h => by
    obtain ⟨u1, u2, rfl, h1, h2⟩ := RDv.append_iff.1 h
    obtain ⟨x, a0, a1, a2, rfl, hl, hd, hm, hx⟩ := filtsDs_split k (by simpa using hk) h2
    refine ⟨x, u1 ++ a0, a1, a2, by simp, ?_, by simpa using hd, List.mem_cons_of_mem _ hm, hx⟩
    have := RDv.length_eq h1
    rw [filtDs_length] at this
    simp [this, hl]
    omega
/-- Round k of a walk over a row of 9-cell elements. -/
theorem row9_at {vs : List Filt} {A : Option Addr} {n c : Nat} (h : RD w B (.row 9 n (filtsDs vs)) (.slice A n c)) (hn : n = vs.length) {k : Nat} (hk : k < n) :
    ∃ ad v c0 c1 c2 c3 c4 c5 c6 c7 c8, A = some ad ∧ ad.block < B ∧ RDv w B (filtDs v) [c0, c1, c2, c3, c4, c5, c6, c7, c8] ∧ v ∈ vs ∧ Hid (vs.drop k = v :: vs.drop (k + 1)) ∧
    w.cell? (ad.add (k * 9)) = some c0 ∧ w.cell? ⟨(ad.add (k * 9)).block, (ad.add (k * 9)).off + 1, none⟩ = some c1 ∧ w.cell? ⟨(ad.add (k * 9)).block, (ad.add (k * 9)).off + 2, none⟩ = some c2 ∧ w.cell? ⟨(ad.add (k * 9)).block, (ad.add (k * 9)).off + 3, none⟩ = some c3 ∧ w.cell? ⟨(ad.add (k * 9)).block, (ad.add (k * 9)).off + 4, none⟩ = some c4 ∧ w.cell? ⟨(ad.add (k * 9)).block, (ad.add (k * 9)).off + 5, none⟩ = some c5 ∧ w.cell? ⟨(ad.add (k * 9)).block, (ad.add (k * 9)).off + 6, none⟩ = some c6 ∧ w.cell? ⟨(ad.add (k * 9)).block, (ad.add (k * 9)).off + 7, none⟩ = some c7 ∧ w.cell? ⟨(ad.add (k * 9)).block, (ad.add (k * 9)).off + 8, none⟩ = some c8 := by
  obtain ⟨A', cap, us, e, _, _, ⟨hl, hr⟩, hv⟩ := h
  injection e with e1 e2 e3
  subst e1
  obtain ⟨ad, rfl, hb, hc⟩ := hr (by omega)
  obtain ⟨v, us0, us1, us2, rfl, hl0, hd, hm, hx⟩ := filtsDs_split k (by omega) hv
  have h5 := RDv.length_eq hx
  rw [filtDs_length] at h5
  match us1, h5 with
  | [c0, c1, c2, c3, c4, c5, c6, c7, c8], _ =>
    have g : ∀ j u, [c0, c1, c2, c3, c4, c5, c6, c7, c8][j]? = some u → w.cell? (ad.add (k * 9 + j)) = some u := fun j u hj => hc _ u (by
      rw [List.getElem?_append_right (by omega), hl0, Nat.add_sub_cancel_left, List.getElem?_append_left (List.getElem?_eq_some_iff.1 hj).1]
      exact hj)
    refine ⟨ad, v, c0, c1, c2, c3, c4, c5, c6, c7, c8, rfl, hb, hx, hm, hd, g 0 _ rfl, ?_, ?_, ?_, ?_, ?_, ?_, ?_, ?_⟩
    · rw [add_pos _ _ _ (by omega)]; exact g 1 _ rfl
    · rw [add_pos _ _ _ (by omega)]; exact g 2 _ rfl
    · rw [add_pos _ _ _ (by omega)]; exact g 3 _ rfl
    · rw [add_pos _ _ _ (by omega)]; exact g 4 _ rfl
    · rw [add_pos _ _ _ (by omega)]; exact g 5 _ rfl
    · rw [add_pos _ _ _ (by omega)]; exact g 6 _ rfl
    · rw [add_pos _ _ _ (by omega)]; exact g 7 _ rfl
    · rw [add_pos _ _ _ (by omega)]; exact g 8 _ rfl
theorem smallDs_mem_filt : ∀ {vs : List Filt} {v : Filt}, SmallDs (filtsDs vs) → v ∈ vs → SmallDs (filtDs v)
  | [], _, _, h => by cases h
  | x :: vs, v, h, hm => by
    have h2 := smallDs_append.1 h
    rcases List.mem_cons.1 hm with rfl | hm
    · exact h2.1
    · exact smallDs_mem_filt h2.2 hm
end
end Go.Proofs.YtppfgepoegicgaaDoor
