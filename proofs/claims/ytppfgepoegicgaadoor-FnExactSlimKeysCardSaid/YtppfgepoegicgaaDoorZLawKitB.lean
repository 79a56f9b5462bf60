/- Words for the laws' walks: what one owns, and the law's own variables, behind a call that only makes, or that writes listed blocks. -/
import Derived.Test.YtppfgepoegicgaaDoorGf
namespace Go.Proofs.YtppfgepoegicgaaDoor
open Go Go.RowKit
theorem ODv.below {w w' : World} {ds : List Dat} {us : List Value} {fp : List Nat} (h : ODv w ds us fp) (hb : Below w.heap.size w w') : ODv w' ds us fp := ODv.keep _ _ _ (fun b hm => hb.block b (ODv.lt _ _ _ h b hm)) h
theorem ODv.upd {w w' : World} {ds : List Dat} {us : List Value} {fp fx : List Nat} (h : ODv w ds us fp) (hu : Upd fx w w') (hd : ∀ b ∈ fp, b ∉ fx) : ODv w' ds us fp := ODv.keep _ _ _ (fun b hm => hu.block b (ODv.lt _ _ _ h b hm) (hd b hm)) h
theorem Has.upd {l : List (Nat × List Value)} {w w' : World} {fx : List Nat} (h : Has l w) (hu : Upd fx w w') (hd : ∀ p ∈ l, p.1 ∉ fx) : Has l w' := fun p hp => by
  have h1 := h p hp
  have hb := hu.block p.1 h1.1 (hd p hp)
  refine ⟨Nat.lt_of_lt_of_le h1.1 hu.size, fun i u hi => ?_⟩
  rw [← h1.2 i u hi]
  exact World.cell?_of_block (w := w) (a := ⟨p.1, i, none⟩) hb
theorem OD.below {w w' : World} {d : Dat} {c : Value} {fp : List Nat} (h : OD w d c fp) (hb : Below w.heap.size w w') : OD w' d c fp := OD.keep _ _ _ (fun b hm => hb.block b (OD.lt _ _ _ h b hm)) h
theorem OD.upd {w w' : World} {d : Dat} {c : Value} {fp fx : List Nat} (h : OD w d c fp) (hu : Upd fx w w') (hd : ∀ b ∈ fp, b ∉ fx) : OD w' d c fp := OD.keep _ _ _ (fun b hm => hu.block b (OD.lt _ _ _ h b hm) (hd b hm)) h
end Go.Proofs.YtppfgepoegicgaaDoor
