/- ShelfPut: what it tells, and how a tree comes into a row of trees. -/
import Derived.Test.YtppfgepoegicgaaZDropDef
namespace Go.Proofs.Ytppfgepoegicgaa
open Go Go.RowKit

def putAt (l : List Kept) (nm : ByteArray) (v : Val) (r : Int) : List Kept := if r < 0 then l ++ [⟨nm, v⟩] else l.set r.toNat ⟨nm, v⟩
def putCells (us : List Value) (nm : ByteArray) (uv : List Value) (r : Int) : List Value := if r < 0 then us ++ (.string nm :: uv) else us.take (r.toNat * 6) ++ ((.string nm :: uv) ++ us.drop (r.toNat * 6 + 6))
def withTrees (a : Asker) (l : List Kept) : Asker := ⟨a.name, a.most, a.fuel, l⟩
def Fits (a : Asker) (l : List Kept) : Prop := l.length ≤ 4 ∧ (keptsCnt l : Int) ≤ a.most
def PutIs (x : Shelf) (who nm : ByteArray) (v : Val) (y : Shelf) (c : Int) : Prop :=
  (¬ SOk x ∧ y = ⟨[]⟩ ∧ c = 5) ∨ (SOk x ∧ ((who ∉ x.askers.map (·.name) ∧ y = x ∧ c = 1) ∨ ∃ (k : Nat) (a : Asker), x.askers.drop k = a :: x.askers.drop (k + 1) ∧ First (x.askers.map (·.name)) who k ∧
    ((¬ (NameOk nm ∧ ValOk v) ∧ y = x ∧ c = 3) ∨ ((NameOk nm ∧ ValOk v) ∧ ∃ r : Int, First (a.trees.map (·.name)) nm r ∧
      ((¬ Fits a (putAt a.trees nm v r) ∧ y = x ∧ c = 2) ∨ (Fits a (putAt a.trees nm v r) ∧ y = ⟨x.askers.set k (withTrees a (putAt a.trees nm v r))⟩ ∧ c = 0))))))
theorem PutIs.det {x : Shelf} {who nm : ByteArray} {v : Val} {y y' : Shelf} {c c' : Int} (h : PutIs x who nm v y c) (h' : PutIs x who nm v y' c') : y = y' ∧ c = c' := by
  rcases h with ⟨h1, rfl, rfl⟩ | ⟨h1, h⟩
  · rcases h' with ⟨g1, rfl, rfl⟩ | ⟨g1, _⟩
    · exact ⟨rfl, rfl⟩
    · exact absurd g1 h1
  · rcases h' with ⟨g1, _⟩ | ⟨_, h'⟩
    · exact absurd h1 g1
    · rcases h with ⟨a1, rfl, rfl⟩ | ⟨k, a, a1, a2, h⟩
      · rcases h' with ⟨b1, rfl, rfl⟩ | ⟨k', a', b1, b2, _⟩
        · exact ⟨rfl, rfl⟩
        · exact absurd (first_notin b2) a1
      · rcases h' with ⟨b1, _⟩ | ⟨k', a', b1, b2, h'⟩
        · exact absurd (first_notin a2) b1
        · obtain rfl := drop_det (a2.det b2) a1 b1
          obtain rfl : k = k' := by have := a2.det b2; omega
          rcases h with ⟨c1, rfl, rfl⟩ | ⟨c1, r, c2, h⟩
          · rcases h' with ⟨d1, rfl, rfl⟩ | ⟨d1, _⟩
            · exact ⟨rfl, rfl⟩
            · exact absurd d1 c1
          · rcases h' with ⟨d1, _⟩ | ⟨_, r', d2, h'⟩
            · exact absurd c1 d1
            · obtain rfl := c2.det d2
              rcases h with ⟨e1, rfl, rfl⟩ | ⟨e1, rfl, rfl⟩
              · rcases h' with ⟨_, rfl, rfl⟩ | ⟨f1, _⟩
                · exact ⟨rfl, rfl⟩
                · exact absurd f1 e1
              · rcases h' with ⟨f1, _⟩ | ⟨_, rfl, rfl⟩
                · exact absurd e1 f1
                · exact ⟨rfl, rfl⟩
theorem keptDs_own {w : World} {nm : ByteArray} {v : Val} {uv : List Value} {fv : List Nat} (hn : nm.size ≤ 9223372036854775807) (h : ODv w (valDs v) uv fv) : ODv w (keptDs ⟨nm, v⟩) (.string nm :: uv) fv :=
  ⟨_, _, [], fv, rfl, rfl, ⟨rfl, hn, rfl⟩, h⟩
/-- A tree comes into a row of trees, its cells into the row's cells. -/
theorem kept_put {w : World} {l : List Kept} {us uv : List Value} {f fv : List Nat} {nm : ByteArray} {v : Val} {r : Int} (hn : nm.size ≤ 9223372036854775807) (hr : r < l.length) (h : ODv w (keptsDs l) us f) (hf : f.Nodup) (hv : ODv w (valDs v) uv fv) (hfv : fv.Nodup) (hd : ∀ b ∈ f, b ∉ fv) :
    ∃ f', ODv w (keptsDs (putAt l nm v r)) (putCells us nm uv r) f' ∧ f'.Nodup ∧ ∀ b ∈ f', b ∈ f ∨ b ∈ fv := by
  have hx := keptDs_own hn hv
  unfold putAt putCells
  by_cases h0 : r < 0
  · rw [if_pos h0, if_pos h0]
    refine ⟨f ++ fv, ?_, List.nodup_append.2 ⟨hf, hfv, fun a ha b hb e => hd a ha (e ▸ hb)⟩, fun b hb => List.mem_append.1 hb⟩
    rw [keptsDs_append]
    refine ODv.append h ?_
    simpa [keptsDs] using hx
  · rw [if_neg h0, if_neg h0]
    obtain ⟨m, rfl⟩ : ∃ m : Nat, r = m := ⟨r.toNat, by omega⟩
    have hm : m < l.length := by omega
    rw [keptsDs_at (List.getElem?_eq_getElem hm)] at h
    obtain ⟨u0, ur, f0, fr, rfl, rfl, k0, kr⟩ := h.split
    obtain ⟨ue, u2, fe, f2, rfl, rfl, ke, k2⟩ := kr.split
    have l0 := k0.length_eq
    have le := ke.length_eq
    rw [keptsDs_length, List.length_take, Nat.min_eq_left (by omega)] at l0
    rw [keptDs_length] at le
    obtain ⟨p1, p2, p3⟩ := List.nodup_append.1 hf
    obtain ⟨q1, q2, q3⟩ := List.nodup_append.1 p2
    refine ⟨f0 ++ (fv ++ f2), ?_, List.nodup_append.2 ⟨p1, List.nodup_append.2 ⟨hfv, q2, fun a ha b hb e => hd b (by simp [hb]) (e ▸ ha)⟩, fun a ha b hb e => ?_⟩, fun b hb => ?_⟩
    · have e1 : (u0 ++ (ue ++ u2)).take (m * 6) = u0 := by rw [← l0]; simp
      have e2 : (u0 ++ (ue ++ u2)).drop (m * 6 + 6) = u2 := by
        rw [← List.append_assoc, List.drop_left' (by simp only [List.length_append]; omega)]
      rw [Int.toNat_natCast, e1, e2, List.set_eq_take_append_cons_drop, if_pos hm, keptsDs_append]
      exact ODv.append k0 (ODv.append hx k2)
    · subst e
      rcases List.mem_append.1 hb with hb | hb
      · exact hd a (by simp [ha]) hb
      · exact p3 a ha a (by simp [hb]) rfl
    · rcases List.mem_append.1 hb with hb | hb
      · exact .inl (by simp [hb])
      · rcases List.mem_append.1 hb with hb | hb
        · exact .inr hb
        · exact .inl (by simp [hb])
theorem putAt_length (l : List Kept) (nm : ByteArray) (v : Val) (r : Int) : (putAt l nm v r).length = if r < 0 then l.length + 1 else l.length := by
  unfold putAt
  split <;> simp
theorem putCells_length {us uv : List Value} {nm : ByteArray} {r : Int} {n : Nat} (hu : us.length = n * 6) (hv : uv.length = 5) (hr : r < n) : (putCells us nm uv r).length = (if r < 0 then n + 1 else n) * 6 := by
  unfold putCells
  split
  · simp; omega
  · simp; omega
theorem putAt_mem {l : List Kept} {nm : ByteArray} {v : Val} {r : Int} {y : Kept} (h : y ∈ putAt l nm v r) : y ∈ l ∨ y = ⟨nm, v⟩ := by
  unfold putAt at h
  split at h
  · simpa using h
  · exact List.mem_or_eq_of_mem_set h
end Go.Proofs.Ytppfgepoegicgaa
