/- ShelfPut: the asker is laid back with its new row of trees. -/
import Derived.Test.YtppfgepoegicgaaZKeepS
import Derived.Test.YtppfgepoegicgaaZPutDef
import Derived.Test.YtppfgepoegicgaaZSwap
namespace Go.Proofs.Ytppfgepoegicgaa
open Go Go.RowKit

theorem keepIs_shape {a : Asker} {nm : ByteArray} {v : Val} {T : Option Addr} {n ct : Nat} {f fv : List Nat} {w w' : World} {sl : Value} {c : Int} (h : KeepIs a nm v (.slice T n ct) f fv w w' sl c) : ∃ (A : Option Addr) (n c : Nat), sl = .slice A n c := by
  obtain ⟨r, _, ⟨_, rfl, _⟩ | ⟨_, _, f', h, _⟩⟩ := h
  · exact ⟨_, _, _, rfl⟩
  · obtain ⟨A, c, rfl⟩ := od_shape h
    exact ⟨_, _, _, rfl⟩
/-- How the row of askers is closed behind a write at k. -/
def Closes (w5 : World) (x : Shelf) (k g : Nat) (t0 : TypeId) (us0 us2 : List Value) (A : Option Addr) (c : Nat) (f2 fe : List Nat) : Prop :=
  ∀ (W : World) (a' : Asker) (ue' : List Value) (f' : List Nat), Blk W g t0 (us0 ++ (ue' ++ us2)) → ODv W (askerDs a') ue' f' → f'.Nodup → (∀ b ∈ f', b ∈ fe ∨ w5.heap.size ≤ b) → (∀ b, b < w5.heap.size → b ∉ fe → b ≠ g → W.heap[b]? = w5.heap[b]?) →
    ∃ fp', OD W (.row 4 x.askers.length (askersDs (x.askers.set k a'))) (.slice A x.askers.length c) fp' ∧ fp'.Nodup ∧ ∀ b ∈ fp', b ∈ f2 ∨ w5.heap.size ≤ b
theorem asker_own {w : World} {a : Asker} {n : ByteArray} {m q : Int} {l : List Kept} {sl : Value} {f : List Nat} (hn : n.size ≤ 9223372036854775807) (h : OD w (.row 6 l.length (keptsDs l)) sl f) : ODv w (askerDs ⟨n, m, q, l⟩) [.string n, .int .i64 m, .int .i64 q, sl] f :=
  ⟨_, _, [], f, rfl, rfl, ⟨rfl, hn, rfl⟩, _, _, [], f, rfl, rfl, ⟨rfl, rfl⟩, _, _, [], f, rfl, rfl, ⟨rfl, rfl⟩, _, _, f, [], rfl, by simp, h, rfl, rfl⟩
/-- The program's: the row has been laid into the asker's last cell by the call. -/
theorem put_close {w5 W : World} {x : Shelf} {k g : Nat} {a : Asker} {l : List Kept} {t0 : TypeId} {us0 us2 : List Value} {A : Option Addr} {c : Nat} {f2 fe f' : List Nat} {sl : Value} (hc : Closes w5 x k g t0 us0 us2 A c f2 fe) (hns : a.name.size ≤ 9223372036854775807)
    (hB : Blk W g t0 (us0 ++ ([.string a.name, .int .i64 a.most, .int .i64 a.fuel, sl] ++ us2))) (ho : OD W (.row 6 l.length (keptsDs l)) sl f') (hn : f'.Nodup) (hf : ∀ b ∈ f', b ∈ fe ∨ w5.heap.size ≤ b) (hu : Upd [g] w5 W) :
    ∃ fp', OD W (.row 4 x.askers.length (askersDs (x.askers.set k (withTrees a l)))) (.slice A x.askers.length c) fp' ∧ fp'.Nodup ∧ ∀ b ∈ fp', b ∈ f2 ∨ w5.heap.size ≤ b :=
  hc W (withTrees a l) _ f' hB (asker_own (a := a) hns ho) hn hf fun b h1 _ h3 => hu.block b h1 (by simpa using h3)
/-- The reference's: the asker's four cells are written anew. -/
theorem put_close4 {w5 W : World} {x : Shelf} {k g : Nat} {a : Asker} {l : List Kept} {t0 : TypeId} {us0 us2 old : List Value} {A : Option Addr} {c : Nat} {f2 fe f' : List Nat} {sl : Value} (hc : Closes w5 x k g t0 us0 us2 A c f2 fe) (hns : a.name.size ≤ 9223372036854775807) (h0 : us0.length = k * 4) (hg : g < w5.heap.size) (hgf : g ∉ fe)
    (hB : Blk w5 g t0 (us0 ++ (old ++ us2))) (hol : old.length = 4) (hb : Below w5.heap.size w5 W) (ho : OD W (.row 6 l.length (keptsDs l)) sl f') (hn : f'.Nodup) (hf : ∀ b ∈ f', b ∈ fe ∨ w5.heap.size ≤ b) :
    ∃ fp', OD (setAll W g (k * 4) [.string a.name, .int .i64 a.most, .int .i64 a.fuel, sl]) (.row 4 x.askers.length (askersDs (x.askers.set k (withTrees a l)))) (.slice A x.askers.length c) fp' ∧ fp'.Nodup ∧ ∀ b ∈ fp', b ∈ f2 ∨ w5.heap.size ≤ b := by
  have hB1 := Blk.setAll [Value.string a.name, .int .i64 a.most, .int .i64 a.fuel, sl] (by rw [hol]; rfl) (hB.below hb)
  rw [h0] at hB1
  refine put_close hc hns hB1 (OD.keep _ _ _ (fun b hm => setAll_other _ _ _ _ _ ?_) ho) hn hf ?_
  · rcases hf b hm with h | h
    · exact fun e => hgf (e ▸ h)
    · omega
  · refine ⟨?_, ?_, ?_, ?_, fun b h1 h2 => ?_⟩
    · exact hb.os
    · exact hb.tape
    · exact hb.output
    · rw [setAll_size]; exact hb.size
    · rw [setAll_other _ _ _ _ _ (by simpa using h2)]
      exact hb.block b h1
theorem set_same {α : Type} {l : List α} {k : Nat} {a : α} (h : l[k]? = some a) : l.set k a = l := by
  obtain ⟨h1, rfl⟩ := List.getElem?_eq_some_iff.1 h
  exact List.set_getElem_self h1
theorem put_end4 {w5 W : World} {x : Shelf} {who nm : ByteArray} {v : Val} {k g : Nat} {a : Asker} {t0 : TypeId} {us0 us2 old : List Value} {A T : Option Addr} {c ct : Nat} {f2 fe : List Nat} {sl : Value} {cc : Int} (hc : Closes w5 x k g t0 us0 us2 A c f2 fe) (hns : a.name.size ≤ 9223372036854775807) (h0 : us0.length = k * 4) (hg : g < w5.heap.size) (hgf : g ∉ fe)
    (hB : Blk w5 g t0 (us0 ++ (old ++ us2))) (hol : old.length = 4) (hb : Below w5.heap.size w5 W) (hT : OD w5 (.row 6 a.trees.length (keptsDs a.trees)) (.slice T a.trees.length ct) fe) (hfe : fe.Nodup) (hx : SOk x) (hdk : x.askers.drop k = a :: x.askers.drop (k + 1)) (hfk : First (x.askers.map (·.name)) who k) (hok : NameOk nm ∧ ValOk v)
    (hk : KeepIs a nm v (.slice T a.trees.length ct) fe [] w5 W sl cc) :
    ∃ y fp', PutIs x who nm v y cc ∧ OD (setAll W g (k * 4) [.string a.name, .int .i64 a.most, .int .i64 a.fuel, sl]) (.row 4 y.askers.length (askersDs y.askers)) (.slice A x.askers.length c) fp' ∧ fp'.Nodup ∧ ∀ b ∈ fp', b ∈ f2 ∨ w5.heap.size ≤ b := by
  have hlt := OD.lt _ _ _ hT
  obtain ⟨r, hr, ⟨hnf, rfl, rfl⟩ | ⟨hfi, rfl, f', ho, hn, hi⟩⟩ := hk
  · obtain ⟨fp', h1, h2, h3⟩ := put_close4 (l := a.trees) hc hns h0 hg hgf hB hol hb (OD.keep _ _ _ (fun b hm => hb.block b (hlt b hm)) hT) hfe fun b hm => .inl hm
    rw [show withTrees a a.trees = a from rfl, set_same (drop_get hdk)] at h1
    exact ⟨x, fp', .inr ⟨hx, .inr ⟨k, a, hdk, hfk, .inr ⟨hok, r, hr, .inl ⟨hnf, rfl, rfl⟩⟩⟩⟩, h1, h2, h3⟩
  · obtain ⟨fp', h1, h2, h3⟩ := put_close4 (l := putAt a.trees nm v r) hc hns h0 hg hgf hB hol hb ho hn fun b hm => by
      rcases hi b hm with h | h | h
      · exact .inl h
      · cases h
      · exact .inr h
    exact ⟨⟨x.askers.set k (withTrees a (putAt a.trees nm v r))⟩, fp', .inr ⟨hx, .inr ⟨k, a, hdk, hfk, .inr ⟨hok, r, hr, .inr ⟨hfi, rfl, rfl⟩⟩⟩⟩, by rw [List.length_set]; exact h1, h2, h3⟩
end Go.Proofs.Ytppfgepoegicgaa
