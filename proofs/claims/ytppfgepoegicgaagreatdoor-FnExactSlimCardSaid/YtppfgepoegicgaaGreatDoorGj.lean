/- Reads that a world has from a poorer one: what is read without one block. -/
import Derived.Test.YtppfgepoegicgaaGreatDoorGf
namespace Go.Proofs.YtppfgepoegicgaaGreatDoor
open Go Go.RowKit

/-- All cells of w below block B are there in w', too. -/
def Sub (B : Nat) (w w' : World) : Prop := ∀ p u, p.block < B → w.cell? p = some u → w'.cell? p = some u
theorem Sub.refl (B : Nat) (w : World) : Sub B w w := fun _ _ _ h => h
theorem Sub.trans {B : Nat} {a b c : World} (h : Sub B a b) (h2 : Sub B b c) : Sub B a c := fun p u hp hc => h2 p u hp (h p u hp hc)
theorem Sub.of_below {B : Nat} {w w' : World} (h : Below B w w') : Sub B w w' := fun _ _ hp hc => (h.cell hp).trans hc
theorem Sub.mono {B B' : Nat} {a b : World} (h : Sub B a b) (hB : B' ≤ B) : Sub B' a b := fun p u hp hc => h p u (by omega) hc
theorem Reads.grow {w w' : World} {B B' sz n : Nat} {A : Option Addr} {xs : List Value} (hB : B ≤ B') (hk : Sub B w w') (h : Reads w B sz A n xs) : Reads w' B' sz A n xs :=
  ⟨h.1, fun hn => by
    obtain ⟨ad, e, hb, hc⟩ := h.2 hn
    exact ⟨ad, e, by omega, fun j u hu => hk _ _ (by rw [block_of_add]; exact hb) (hc j u hu)⟩⟩
mutual
theorem RD.grow {w w' : World} {B B' : Nat} (hB : B ≤ B') (hk : Sub B w w') : ∀ (d : Dat) (c : Value), RD w B d c → RD w' B' d c
  | .int _, _, h => h
  | .str _, _, h => h
  | .row _ _ cells, _, h => by
    obtain ⟨A, cap, us, h1, h2, h0, h3, h4⟩ := h
    exact ⟨A, cap, us, h1, h2, h0, h3.grow hB hk, RDv.grow hB hk cells us h4⟩
theorem RDv.grow {w w' : World} {B B' : Nat} (hB : B ≤ B') (hk : Sub B w w') : ∀ (ds : List Dat) (us : List Value), RDv w B ds us → RDv w' B' ds us
  | [], _, h => h
  | d :: ds, _, h => by
    obtain ⟨u, us', h1, h2, h3⟩ := h
    exact ⟨u, us', h1, RD.grow hB hk d u h2, RDv.grow hB hk ds us' h3⟩
end
/-- The world with block o emptied. -/
def bare (w : World) (o : Nat) : World := { w with heap := w.heap.setIfInBounds o (.cells #[] 0) }
theorem bare_size (w : World) (o : Nat) : (bare w o).heap.size = w.heap.size := by simp [bare]
theorem bare_block (w : World) {o b : Nat} (h : b ≠ o) : (bare w o).heap[b]? = w.heap[b]? := by
  simp only [bare, Array.getElem?_setIfInBounds]
  rw [if_neg (fun e => h e.symm)]
theorem bare_cell (w : World) {o : Nat} {p : Addr} (h : p.block ≠ o) : (bare w o).cell? p = w.cell? p := World.cell?_of_block (bare_block w h)
theorem bare_some {w : World} {o : Nat} {p : Addr} {u : Value} (h : (bare w o).cell? p = some u) : p.block ≠ o := fun e => by
  by_cases hlt : o < w.heap.size
  · have e2 : (bare w o).heap[p.block]? = some (.cells #[] 0) := by
      rw [e]
      simp only [bare, Array.getElem?_setIfInBounds, if_true]
      rw [if_pos hlt]
    rw [World.cell?, e2] at h
    simp at h
  · have e2 : (bare w o).heap[p.block]? = none := by
      rw [e]
      exact Array.getElem?_eq_none (by rw [bare_size]; omega)
    rw [World.cell?, e2] at h
    simp at h
theorem bare_sub (B : Nat) (w : World) (o : Nat) : Sub B (bare w o) w := fun _ _ _ h => (bare_cell w (bare_some h)).symm.trans h
theorem bare_to {B : Nat} {w w' : World} {o : Nat} (h : ∀ b, b < B → b ≠ o → w'.heap[b]? = w.heap[b]?) : Sub B (bare w o) (bare w' o) := fun p u hp hc => by
  have hne := bare_some hc
  rw [bare_cell w hne] at hc
  rw [bare_cell w' hne]
  exact (World.cell?_of_block (h p.block hp hne)).trans hc
theorem sub_bare {B : Nat} {w w' : World} {o : Nat} (ho : B ≤ o) (h : Sub B w w') : Sub B w (bare w' o) := fun p u hp hc => by
  rw [bare_cell w' (by omega)]
  exact h p u hp hc
end Go.Proofs.YtppfgepoegicgaaGreatDoor
namespace Go.Proofs.YtppfgepoegicgaaGreatDoor
open Go Go.RowKit

open Classical in
/-- The world w with all blocks emptied but those of S. -/
noncomputable def thin (S : Nat → Prop) (w : World) : World := { w with heap := Array.ofFn (n := w.heap.size) fun i => if S i then w.heap[i] else .cells #[] 0 }
theorem thin_size (S : Nat → Prop) (w : World) : (thin S w).heap.size = w.heap.size := by simp [thin]
theorem thin_in {S : Nat → Prop} {w : World} {b : Nat} (h : S b) : (thin S w).heap[b]? = w.heap[b]? := by
  by_cases hb : b < w.heap.size
  · rw [Array.getElem?_eq_getElem (by rw [thin_size]; exact hb), Array.getElem?_eq_getElem hb]
    simp [thin, h]
  · rw [Array.getElem?_eq_none (by rw [thin_size]; omega), Array.getElem?_eq_none (by omega)]
theorem thin_out {S : Nat → Prop} {w : World} {p : Addr} {u : Value} (h : (thin S w).cell? p = some u) : S p.block := by
  apply Classical.byContradiction
  intro hn
  by_cases hb : p.block < w.heap.size
  · have e : (thin S w).heap[p.block]? = some (.cells #[] 0) := by
      rw [Array.getElem?_eq_getElem (by rw [thin_size]; exact hb)]
      simp [thin, hn]
    rw [World.cell?, e] at h
    simp at h
  · have e : (thin S w).heap[p.block]? = none := Array.getElem?_eq_none (by rw [thin_size]; omega)
    rw [World.cell?, e] at h
    simp at h
theorem thin_cell {S : Nat → Prop} {w : World} {p : Addr} (h : S p.block) : (thin S w).cell? p = w.cell? p := World.cell?_of_block (thin_in h)
theorem thin_sub (B : Nat) (S : Nat → Prop) (w : World) : Sub B (thin S w) w := fun _ _ _ h => (thin_cell (thin_out h)).symm.trans h
theorem thin_to {B : Nat} {S S' : Nat → Prop} {w w' : World} (h : ∀ b, b < B → S b → S' b ∧ w'.heap[b]? = w.heap[b]?) : Sub B (thin S w) (thin S' w') := fun p u hp hc => by
  obtain ⟨h1, h2⟩ := h p.block hp (thin_out hc)
  rw [thin_cell h1, World.cell?_of_block h2, ← thin_cell (S := S) (thin_out hc)]
  exact hc
/-- What is read at w is read of the blocks of S. -/
def RT (S : Nat → Prop) (w : World) (ds : List Dat) (us : List Value) : Prop := RDv (thin S w) w.heap.size ds us
theorem RT.rd {S : Nat → Prop} {w : World} {ds : List Dat} {us : List Value} (h : RT S w ds us) : RDv w w.heap.size ds us := RDv.grow (Nat.le_refl _) (thin_sub _ _ _) _ _ h
theorem RT.to {S S' : Nat → Prop} {w w' : World} {ds : List Dat} {us : List Value} (h : RT S w ds us) (hz : w.heap.size ≤ w'.heap.size) (hb : ∀ b, b < w.heap.size → S b → S' b ∧ w'.heap[b]? = w.heap[b]?) : RT S' w' ds us := RDv.grow hz (thin_to hb) _ _ h
theorem RT.below {S : Nat → Prop} {w w' : World} {ds : List Dat} {us : List Value} (h : RT S w ds us) (hb : Below w.heap.size w w') : RT S w' ds us := h.to hb.size fun b hlt hs => ⟨hs, hb.block b hlt⟩
theorem RT.of_rd {S : Nat → Prop} {w w' : World} {B : Nat} {ds : List Dat} {us : List Value} (h : RDv w B ds us) (hB : B ≤ w.heap.size) (hw : Below B w w') (hS : ∀ b, b < B → S b) : RT S w' ds us :=
  RDv.grow (Nat.le_trans hB hw.size) (fun p u hp hc => (thin_cell (hS _ hp)).trans ((hw.cell hp).trans hc)) _ _ h
theorem RT.of_od {S : Nat → Prop} {w : World} {ds : List Dat} {us : List Value} {fp : List Nat} (h : ODv w ds us fp) (hS : ∀ b ∈ fp, S b) : RT S w ds us := by
  have h2 := (ODv.keep (w' := thin S w) _ _ _ (fun b hb => thin_in (hS b hb)) h).rd'
  rw [thin_size] at h2
  exact h2
end Go.Proofs.YtppfgepoegicgaaGreatDoor
