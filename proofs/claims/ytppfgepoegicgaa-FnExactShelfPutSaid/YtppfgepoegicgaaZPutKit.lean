/- A tree is written into a row of trees of one's own. -/
import Derived.Test.YtppfgepoegicgaaZPutDef
import Derived.Test.YtppfgepoegicgaaZDelK
namespace Go.Proofs.Ytppfgepoegicgaa
open Go Go.RowKit
theorem own_blk {w : World} {base n sz : Nat} {e : TypeId} {sl : Value} {us : List Value} (ho : w.ownsRow base e sz sl n us) (hn : 0 < n) : ∃ g c sp, sl = .slice (some ⟨g, 0, none⟩) n c ∧ base ≤ g ∧ n ≤ c ∧ c ≤ maxLen ∧ Blk w g e (us ++ sp) ∧ (us ++ sp).length = c * sz := by
  obtain ⟨hl, h⟩ := ho
  rcases h with ⟨_, rfl⟩ | ⟨g, cap, cur, rfl, hb, hg, hn, hm, hs, ht⟩
  · omega
  · refine ⟨g, cap, cur.toList.drop (n * sz), rfl, hb, hn, hm, ?_, ?_⟩
    · rw [← ht, List.take_append_drop]
      simpa [Blk] using hg
    · rw [← ht, List.take_append_drop]
      simpa using hs
theorem blk_own {w : World} {base n sz g c : Nat} {e : TypeId} {us sp : List Value} (hl : us.length = n * sz) (hb : base ≤ g) (hn : n ≤ c) (hc : c ≤ maxLen) (h : Blk w g e (us ++ sp)) (hs : (us ++ sp).length = c * sz) : w.ownsRow base e sz (.slice (some ⟨g, 0, none⟩) n c) n us :=
  ⟨hl, .inr ⟨g, c, (us ++ sp).toArray, rfl, hb, h, hn, hc, by simpa using hs, by rw [← hl]; simp⟩⟩
/-- The tree of the element at r is stored anew. -/
theorem own_put {w : World} {base n r : Nat} {e : TypeId} {sl : Value} {us uv : List Value} (ho : w.ownsRow base e 6 sl n us) (hr : r < n) (hv : uv.length = 5) : ∃ g c, sl = .slice (some ⟨g, 0, none⟩) n c ∧ base ≤ g ∧ g < w.heap.size ∧ (∀ j, j < 6 → ∃ u, w.cell? ⟨g, r * 6 + j, none⟩ = some u) ∧ (∀ i, w.frozen? ⟨g, i, none⟩ = false) ∧
    ∀ nm, us[r * 6]? = some (.string nm) → (setAll w g (r * 6 + 1) uv).ownsRow base e 6 sl n (putCells us nm uv r) := by
  have hl := ho.1
  obtain ⟨g, c, sp, rfl, hb, hn, hc, hB, hs⟩ := own_blk ho (by omega)
  refine ⟨g, c, rfl, hb, hB.lt, fun j hj => ⟨(us ++ sp)[r * 6 + j]'(by simp only [List.length_append]; omega), ?_⟩, fun i => hB.frozen i, fun nm h0 => ?_⟩
  · rw [hB.cell, List.getElem?_eq_getElem]
  · have e0 : us = (us.take (r * 6) ++ [.string nm]) ++ ((us.drop (r * 6 + 1)).take 5 ++ us.drop (r * 6 + 6)) := by
      rw [show us.drop (r * 6 + 6) = (us.drop (r * 6 + 1)).drop 5 by rw [List.drop_drop], List.take_append_drop, show [Value.string nm] = us[r * 6]?.toList by rw [h0]; rfl, ← List.take_add_one, List.take_append_drop]
    have hB2 : Blk w g e ((us.take (r * 6) ++ [.string nm]) ++ ((us.drop (r * 6 + 1)).take 5 ++ (us.drop (r * 6 + 6) ++ sp))) := by
      have h1 := hB
      rw [e0] at h1
      simpa only [List.append_assoc] using h1
    have hlen : (us.take (r * 6) ++ [Value.string nm]).length = r * 6 + 1 := by
      rw [List.length_append, List.length_take, Nat.min_eq_left (by omega)]; rfl
    have hB3 := Blk.setAll uv (by rw [List.length_take, List.length_drop]; omega) hB2
    rw [hlen] at hB3
    have ep : putCells us nm uv r = us.take (r * 6) ++ ((.string nm :: uv) ++ us.drop (r * 6 + 6)) := by
      unfold putCells
      rw [if_neg (by omega), Int.toNat_natCast]
    have e1 : (us.take (r * 6) ++ [Value.string nm]) ++ (uv ++ (us.drop (r * 6 + 6) ++ sp)) = putCells us nm uv r ++ sp := by
      rw [ep]
      simp
    rw [e1] at hB3
    have hlp : (putCells us nm uv r).length = n * 6 := by rw [putCells_length hl hv (by omega), if_neg (by omega)]
    refine blk_own hlp hb hn hc hB3 ?_
    rw [List.length_append, hlp]
    rw [List.length_append, hl] at hs
    exact hs
end Go.Proofs.Ytppfgepoegicgaa
