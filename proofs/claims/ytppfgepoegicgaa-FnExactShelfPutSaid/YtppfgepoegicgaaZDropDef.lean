/- ShelfDrop: what it tells, and how what is left is put together. -/
import Derived.Test.YtppfgepoegicgaaZJoin
import Derived.Test.YtppfgepoegicgaaZGet
import Derived.Test.YtppfgepoegicgaaZSwap
namespace Go.Proofs.Ytppfgepoegicgaa
open Go Go.RowKit

def without (a : Asker) (m : Nat) : Asker := ⟨a.name, a.most, a.fuel, a.trees.eraseIdx m⟩
def DropIs (x : Shelf) (who nm : ByteArray) (y : Shelf) (c : Int) : Prop :=
  (¬ SOk x ∧ y = ⟨[]⟩ ∧ c = 5) ∨ (SOk x ∧ ((who ∉ x.askers.map (·.name) ∧ y = x ∧ c = 1) ∨ ∃ (k : Nat) (a : Asker), x.askers.drop k = a :: x.askers.drop (k + 1) ∧ First (x.askers.map (·.name)) who k ∧
    ((nm ∉ a.trees.map (·.name) ∧ y = x ∧ c = 1) ∨ ∃ m : Nat, First (a.trees.map (·.name)) nm m ∧ y = ⟨x.askers.set k (without a m)⟩ ∧ c = 0)))
theorem DropIs.det {x : Shelf} {who nm : ByteArray} {y y' : Shelf} {c c' : Int} (h : DropIs x who nm y c) (h' : DropIs x who nm y' c') : y = y' ∧ c = c' := by
  rcases h with ⟨h1, rfl, rfl⟩ | ⟨h1, h⟩
  · rcases h' with ⟨g1, rfl, rfl⟩ | ⟨g1, _⟩
    · exact ⟨rfl, rfl⟩
    · exact absurd g1 h1
  · rcases h' with ⟨g1, _⟩ | ⟨_, h'⟩
    · exact absurd h1 g1
    · rcases h with ⟨a1, rfl, rfl⟩ | ⟨k, a, a1, a2, h⟩
      · rcases h' with ⟨b1, rfl, rfl⟩ | ⟨k', a', b1, b2, _⟩
        · exact ⟨rfl, rfl⟩
        · exact absurd (first_notin b2) a1
      · rcases h' with ⟨b1, _⟩ | ⟨k', a', b1, b2, h'⟩
        · exact absurd (first_notin a2) b1
        · obtain rfl := drop_det (a2.det b2) a1 b1
          obtain rfl : k = k' := by have := a2.det b2; omega
          rcases h with ⟨c1, rfl, rfl⟩ | ⟨m, c2, rfl, rfl⟩
          · rcases h' with ⟨d1, rfl, rfl⟩ | ⟨m', d2, _⟩
            · exact ⟨rfl, rfl⟩
            · exact absurd (first_notin d2) c1
          · rcases h' with ⟨d1, _⟩ | ⟨m', d2, rfl, rfl⟩
            · exact absurd (first_notin c2) d1
            · obtain rfl : m = m' := by have := c2.det d2; omega
              exact ⟨rfl, rfl⟩
theorem od_shape {w : World} {sz n : Nat} {ds : List Dat} {v : Value} {f : List Nat} (h : OD w (.row sz n ds) v f) : ∃ A c, v = .slice A n c := by
  obtain ⟨us, f0, f1, _, hS, _⟩ := h
  rcases hS with ⟨A, c, rfl, _⟩ | ⟨g, cap, t, cs, rfl, _⟩
  · exact ⟨_, _, rfl⟩
  · exact ⟨_, _, rfl⟩
theorem drop_get {α : Type} {l : List α} {k : Nat} {a : α} (h : l.drop k = a :: l.drop (k + 1)) : l[k]? = some a := by
  have := congrArg (fun l => l[0]?) h
  simpa using this
theorem owns_far {w : World} {base sz n : Nat} {e : TypeId} {v : Value} {us : List Value} (h : w.ownsRow base e sz v n us) {p : Addr} (hp : p.block < base) (u : Value) : (w.setCell p u).ownsRow base e sz v n us := by
  obtain ⟨a1, a2⟩ := h
  refine ⟨a1, ?_⟩
  rcases a2 with a2 | ⟨g, cap, cur, e1, e2, e3, r⟩
  · exact .inl a2
  · refine .inr ⟨g, cap, cur, e1, e2, ?_, r⟩
    rw [Below.heap_setCell w p u g (by omega)]
    exact e3
/-- The asker at k has lost its tree at m: v6 is its new row, laid into its last cell. -/
theorem drop_own {w4 w5 w6 : World} {x : Shelf} {k m : Nat} {a : Asker} {A : Option Addr} {c g : Nat} {t0 : TypeId} {us0 us2 news : List Value} {T : Option Addr} {ct : Nat} {f2 fe fk : List Nat} {e : TypeId} {v6 : Value} {g' : Nat}
    (hclose : ∀ (W : World) (a' : Asker) (ue' : List Value) (f' : List Nat), Blk W g t0 (us0 ++ (ue' ++ us2)) → ODv W (askerDs a') ue' f' → f'.Nodup → (∀ b ∈ f', b ∈ fe ∨ w4.heap.size ≤ b) → (∀ b, b < w4.heap.size → b ∉ fe → b ≠ g → W.heap[b]? = w4.heap[b]?) →
        ∃ fp', OD W (.row 4 x.askers.length (askersDs (x.askers.set k a'))) (.slice A x.askers.length c) fp' ∧ fp'.Nodup ∧ ∀ b ∈ fp', b ∈ f2 ∨ w4.heap.size ≤ b)
    (hB : Blk w4 g t0 (us0 ++ ([.string a.name, .int .i64 a.most, .int .i64 a.fuel, .slice T a.trees.length ct] ++ us2))) (h0 : us0.length = k * 4) (hg : g ∉ fe) (hg' : g' ∈ fe) (hns : a.name.size ≤ 9223372036854775807)
    (hu : Upd [g'] w4 w5) (hv : ODv w4 (keptsDs (a.trees.eraseIdx m)) news fk) (hfk : fk.Nodup) (hin : ∀ b ∈ fk, b ∈ fe ∧ b ≠ g') (hfe : ∀ b ∈ fe, b < w4.heap.size)
    (hb : Below w5.heap.size w5 w6) (ho : w6.ownsRow w5.heap.size e 6 v6 (a.trees.eraseIdx m).length news) :
    ∃ fp', OD (w6.setCell ⟨g, k * 4 + 3, none⟩ v6) (.row 4 x.askers.length (askersDs (x.askers.set k (without a m)))) (.slice A x.askers.length c) fp' ∧ fp'.Nodup ∧ ∀ b ∈ fp', b ∈ f2 ∨ w4.heap.size ≤ b := by
  have hz := hu.size
  have hz6 := hb.size
  have hgl := hB.lt
  have hne : g ≠ g' := fun e => hg (e ▸ hg')
  have hB5 : Blk w5 g t0 _ := hu.blk (by simpa using hne) hB
  have hB6 := (hB5.below hb).set_mid h0 3 (by simp) v6
  have same : ∀ b, b < w4.heap.size → b ≠ g' → b ≠ g → (w6.setCell ⟨g, k * 4 + 3, none⟩ v6).heap[b]? = w4.heap[b]? := fun b h1 h2 h3 =>
    (Below.heap_setCell w6 ⟨g, k * 4 + 3, none⟩ v6 b h3).trans ((hb.block b (by omega)).trans (hu.block b h1 (by simpa using h2)))
  obtain ⟨f', k1, k2, k3⟩ := row_own (W := w6.setCell ⟨g, k * 4 + 3, none⟩ v6) hv (fun b hm => same b (hfe b (hin b hm).1) (hin b hm).2 (fun e => hg (e ▸ (hin b hm).1))) (owns_far ho (by show g < _; omega) v6) (fun b hm => by have := hfe b (hin b hm).1; omega) hfk
  refine hclose _ (without a m) _ f' hB6 ⟨_, _, [], f', rfl, rfl, ⟨rfl, hns, rfl⟩, _, _, [], f', rfl, rfl, ⟨rfl, rfl⟩, _, _, [], f', rfl, rfl, ⟨rfl, rfl⟩, _, _, f', [], rfl, by simp, k1, rfl, rfl⟩ k2 (fun b hm => ?_) (fun b h1 h2 h3 => same b h1 (fun e => h2 (e ▸ hg')) h3)
  rcases k3 b hm with h | h
  · exact .inl (hin b h).1
  · exact .inr (by omega)
end Go.Proofs.Ytppfgepoegicgaa
