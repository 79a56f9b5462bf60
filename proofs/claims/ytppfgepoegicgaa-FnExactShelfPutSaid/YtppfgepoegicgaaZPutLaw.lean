/- ShelfPut's law: what a statement 'a, b := ShelfPut(..)' leaves, in whatever order its memory was made. -/
import Derived.Test.YtppfgepoegicgaaZPutS
import Derived.Test.YtppfgepoegicgaaZPutI
import Derived.Test.YtppfgepoegicgaaGh
import Derived.Test.YtppfgepoegicgaaGb
namespace Go.Proofs.Ytppfgepoegicgaa
open Go Go.RowKit

/-- The two variables that the statement lays: a shelf in block b, and a number. -/
def CutPut (x : Shelf) (s1 s2 : ByteArray) (v : Val) (W : World) (K : List (Nat × List Value)) (s10 s11 : Value) (wx : World) : Prop :=
  ∃ (y : Shelf) (c : Int) (b : Nat) (A : Option Addr) (n q : Nat) (f : List Nat), s10 = .pointer (some ⟨b, 0, none⟩) ∧ s11 = .int .i64 c ∧ Hid (PutIs x s1 s2 v y c) ∧ Hid (Has ((b, [.slice A n q]) :: K) wx) ∧ Hid (ODv wx (shelfDs y) [.slice A n q] f) ∧ Hid (f.Nodup ∧ ∀ p ∈ f, W.heap.size ≤ p ∧ p < wx.heap.size ∧ p ≠ b) ∧ Hid (Below W.heap.size W wx) ∧ W.heap.size ≤ b ∧ b < wx.heap.size
theorem cutPut_of {x y : Shelf} {s1 s2 : ByteArray} {v : Val} {W W2 wC Wf : World} {K : List (Nat × List Value)} {c : Int} {b : Nat} {A : Option Addr} {n q : Nat} {f : List Nat} {t : TypeId} (hR : PutIs x s1 s2 v y c) (hK : Has K W) (hB : Below W.heap.size W Wf) (hx : Blk Wf b t [.slice A n q]) (ho : ODv wC (shelfDs y) [.slice A n q] f) (hf : Fresh W2 wC f)
    (hW : W.heap.size ≤ W2.heap.size) (hb : W.heap.size ≤ b) (hne : b < W2.heap.size ∨ wC.heap.size ≤ b) (hs : ∀ p, p < wC.heap.size → p ≠ b → Wf.heap[p]? = wC.heap[p]?) (hz : wC.heap.size ≤ Wf.heap.size) : CutPut x s1 s2 v W K (.pointer (some ⟨b, 0, none⟩)) (.int .i64 c) Wf := by
  have hf2 : ∀ p ∈ f, p ≠ b := fun p hp => by have := hf.2 p hp; omega
  exact ⟨y, c, b, A, n, q, f, rfl, rfl, hR, Has.cons hx.lt (fun i u hu => (hx.cell i).trans hu) (hK.below hB), ODv.keep _ _ _ (fun p hp => hs p (hf.2 p hp).2 (hf2 p hp)) ho, ⟨hf.1, fun p hp => ⟨by have := (hf.2 p hp).1; omega, by have := (hf.2 p hp).2; omega, hf2 p hp⟩⟩, hB, hb, hx.lt⟩
theorem toShelf_at {x : Shelf} {us : List Value} {B : Nat} {W W1 : World} (hB : B ≤ W.heap.size) (h : RDv W B (shelfDs x) us) (hs : SmallDs (shelfDs x)) (hW : Below W.heap.size W W1) :
    Calls Try.prog 12 #[.agg us.toArray] W1 fun e w' => ∃ q f, e = .returned (.agg q.toArray) ∧ ODv w' (shelfDs x) q f ∧ Fresh W1 w' f ∧ Below W1.heap.size W1 w' :=
  toShelf_calls x us W1 B (Nat.le_trans hB hW.size) (h.below (hW.mono hB)) hs
theorem toVal_at {x : Val} {us : List Value} {B : Nat} {W W1 : World} (hB : B ≤ W.heap.size) (h : RDv W B (valDs x) us) (hs : SmallDs (valDs x)) (hW : Below W.heap.size W W1) :
    Calls Try.prog 32 #[.agg us.toArray] W1 fun e w' => ∃ q f, e = .returned (.agg q.toArray) ∧ ODv w' (valDs x) q f ∧ Fresh W1 w' f ∧ Below W1.heap.size W1 w' :=
  toVal_calls x us W1 B (Nat.le_trans hB hW.size) (h.below (hW.mono hB)) hs
theorem sPut_at {x : Shelf} {v : Val} {us uv : List Value} {f fv : List Nat} {s1 s2 : ByteArray} {wA wB W2 : World} (hx : ODv wA (shelfDs x) us f) (hAB : Below wA.heap.size wA wB) (hv : ODv wB (valDs v) uv fv) (hW : Below wB.heap.size wB W2) (hsm : SmallDs (shelfDs x)) (hsv : SmallDs (valDs v)) (hC : ∀ a ∈ x.askers, ∀ y ∈ a.trees, valCnt y.v ≤ 1099511627776) (hCv : valCnt v ≤ 1099511627776) (hnm : s2.size ≤ 9223372036854775807) :
    Calls Try.prog 31 #[.agg us.toArray, .string s1, .string s2, .agg uv.toArray] W2 (PRes (PutIs x s1 s2 v) W2) :=
  sPut_calls x us s1 s2 v uv W2 wB.heap.size hW.size ((hx.rd'.upto hAB hAB.size).below hW) (hv.rd'.below hW) hsm hsv hC hCv hnm
theorem iPut_at {x : Shelf} {v : Val} {us uv : List Value} {f fv : List Nat} {s1 s2 : ByteArray} {wA wB W2 : World} (hx : ODv wA (shelfDs x) us f) (hAB : Below wA.heap.size wA wB) (hv : ODv wB (valDs v) uv fv) (hW : Below wB.heap.size wB W2) (hsm : SmallDs (shelfDs x)) (hsv : SmallDs (valDs v)) (hnm : s2.size ≤ 9223372036854775807) :
    Calls Try.prog 33 #[.agg us.toArray, .string s1, .string s2, .agg uv.toArray] W2 (PRes (PutIs x s1 s2 v) W2) :=
  iPut_calls x us s1 s2 v uv W2 wB.heap.size hW.size ((hx.rd'.upto hAB hAB.size).below hW) (hv.rd'.below hW) hsm hsv hnm
end Go.Proofs.Ytppfgepoegicgaa
