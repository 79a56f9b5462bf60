/- The keys of a filter, in order; a row of texts that a walk goes on writing. -/
import Derived.Test.YtppfgepoegicgaaDoorGf
import Derived.Test.YtppfgepoegicgaaDoorZFOkDef
namespace Go.Proofs.YtppfgepoegicgaaDoor
open Go Go.RowKit

def oneKey (kind : Int) (s : ByteArray) : List ByteArray := if kind = 3 ∨ kind = 21 then [s] else []
mutual
def fks : Filt → List ByteArray
  | .mk kind _ s _ kids => oneKey kind s ++ fkss kids
def fkss : List Filt → List ByteArray
  | [] => []
  | x :: r => fks x ++ fkss r
end
theorem fkss_append : ∀ a b : List Filt, fkss (a ++ b) = fkss a ++ fkss b
  | [], _ => rfl
  | x :: a, b => by simp [fkss, fkss_append a b]
theorem oneKey_le (kind : Int) (s : ByteArray) : (oneKey kind s).length ≤ 1 := by unfold oneKey; split <;> simp
mutual
theorem fks_le : ∀ x : Filt, (fks x).length ≤ filtCnt x
  | .mk kind n s v kids => by
    have h1 := oneKey_le kind s
    have h2 := fkss_le kids
    simp only [fks, filtCnt, List.length_append]
    omega
theorem fkss_le : ∀ l : List Filt, (fkss l).length ≤ filtsCnt l
  | [] => by simp [fkss]
  | x :: r => by
    have h1 := fks_le x
    have h2 := fkss_le r
    simp only [fkss, filtsCnt, List.length_append]
    omega
end
theorem filtsCnt_len_k : ∀ l : List Filt, l.length ≤ filtsCnt l
  | [] => by simp
  | .mk _ _ _ _ kids :: r => by
    have := filtsCnt_len_k r
    simp only [filtsCnt, filtCnt, List.length_cons]
    omega
theorem filtsCnt_app_k : ∀ a b : List Filt, filtsCnt (a ++ b) = filtsCnt a + filtsCnt b
  | [], b => by simp [filtsCnt]
  | x :: a, b => by simp only [List.cons_append, filtsCnt, filtsCnt_app_k a b]; omega
def strVs (l : List ByteArray) : List Value := l.map Value.string
theorem strVs_append (a b : List ByteArray) : strVs (a ++ b) = strVs a ++ strVs b := by simp [strVs]
theorem strVs_length (l : List ByteArray) : (strVs l).length = l.length := by simp [strVs]
theorem strVs_one (l : List ByteArray) : ∀ u ∈ strVs l, u.oneCell' = true := fun u hu => by
  obtain ⟨s, _, rfl⟩ := List.mem_map.1 hu
  rfl
/-- Old blocks but the row's own are as they were; the new row lies in the old one's block or in a new one. -/
structure Grew (w w' : World) (o o' : Option Nat) : Prop where
  os : w'.os = w.os
  tape : w'.tape = w.tape
  output : w'.output = w.output
  size : w.heap.size ≤ w'.heap.size
  block : ∀ b, b < w.heap.size → o ≠ some b → w'.heap[b]? = w.heap[b]?
  own : ∀ k, o' = some k → o = some k ∨ w.heap.size ≤ k
section
variable {w w1 w2 w' : World} {o o1 o2 : Option Nat}
theorem Grew.trans (h : Grew w w1 o o1) (k : Grew w1 w2 o1 o2) : Grew w w2 o o2 :=
  ⟨k.os.trans h.os, k.tape.trans h.tape, k.output.trans h.output, Nat.le_trans h.size k.size, fun b hb hn => (k.block b (Nat.lt_of_lt_of_le hb h.size) (fun e => by
    rcases h.own b e with h1 | h1
    · exact hn h1
    · omega)).trans (h.block b hb hn), fun q hq => by
    rcases k.own q hq with h1 | h1
    · exact h.own q h1
    · exact .inr (Nat.le_trans h.size h1)⟩
theorem Grew.of_below (h : Below w.heap.size w w') (o : Option Nat) : Grew w w' o o := ⟨h.os, h.tape, h.output, h.size, fun b hb _ => h.block b hb, fun _ hk => .inl hk⟩
theorem Grew.of_grown {v : Value} (h : w.grownBy w' v.ownBlock) (ho : o1 = v.ownBlock ∨ o1 = some w.heap.size) : Grew w w' v.ownBlock o1 :=
  ⟨h.os, h.tape, h.output, h.size, fun b hb hn => h.block b hb (fun e => hn e.symm), fun k hk => by
    rcases ho with e | e
    · exact .inl (e.symm.trans hk)
    · rw [e] at hk
      injection hk with hk
      exact .inr (by omega)⟩
theorem Grew.blk {g : Nat} {t : TypeId} {cs : List Value} (h : Grew w w' o o1) (hg : o ≠ some g) (k : Blk w g t cs) : Blk w' g t cs := k.same (h.block g k.lt hg)
theorem Grew.below {B : Nat} (h : Grew w w' o o1) (hB : B ≤ w.heap.size) (ho : ∀ k, o = some k → B ≤ k) : Below B w w' :=
  ⟨h.os, h.tape, h.output, h.size, fun b hb => h.block b (by omega) (fun e => by have := ho b e; omega)⟩
end
/-- A row of texts of one's own, from base on. -/
def StrRow (base : Nat) (w : World) (A : Option Addr) (c : Nat) (l : List ByteArray) : Prop := w.ownsRow base 9 1 (.slice A l.length c) l.length (strVs l)
theorem StrRow.lt {base : Nat} {w : World} {A : Option Addr} {c : Nat} {l : List ByteArray} (h : StrRow base w A c l) : ∀ k, (Value.slice A l.length c).ownBlock = some k → base ≤ k ∧ k < w.heap.size := World.ownsRow.lt h
theorem StrRow.grew {base : Nat} {w w' : World} {A : Option Addr} {c : Nat} {l : List ByteArray} (h : StrRow base w A c l) (hb : Below w.heap.size w w') : StrRow base w' A c l :=
  World.ownsRow.kept (w := w) (w' := w') h (show w.grownBy w' none from ⟨hb.os, hb.tape, hb.output, hb.size, fun k hk _ => hb.block k hk⟩) (by cases hv : (Value.slice A l.length c).ownBlock <;> simp)
theorem StrRow.of_owns {base : Nat} {w : World} {v : Value} {l : List ByteArray} {n : Nat} {us : List Value} (h : w.ownsRow base 9 1 v n us) (hn : n = l.length) (hu : us = strVs l) : ∃ A c, v = .slice A l.length c ∧ StrRow base w A c l := by
  subst hn hu
  have h0 := h
  obtain ⟨_, ⟨rfl, h1⟩ | ⟨g, cap, cur, rfl, _⟩⟩ := h
  · have e : Value.slice none l.length 0 = .slice none 0 0 := by rw [h1]
    exact ⟨none, 0, e.symm, by unfold StrRow; rw [e]; exact h0⟩
  · exact ⟨_, _, rfl, h0⟩
/-- How much room there is in round k. -/
theorem keys_room {kids : List Filt} {k : Nat} {y : Filt} {l lk : List ByteArray} {kind n : Int} {s : ByteArray} {v : Val} (hd : kids.drop k = y :: kids.drop (k + 1)) (hl : lk = (l ++ oneKey kind s) ++ fkss (kids.take k)) (hC : l.length + filtCnt (.mk kind n s v kids) ≤ 100) : lk.length + filtCnt y ≤ 100 := by
  have h1 := List.take_append_drop k kids
  have h2 := fkss_le (kids.take k)
  have h3 := oneKey_le kind s
  rw [hd] at h1
  rw [hl]
  simp only [List.length_append]
  simp only [filtCnt] at hC
  rw [← h1, filtsCnt_app_k] at hC
  simp only [filtsCnt] at hC
  omega
theorem keys_next {kids : List Filt} {k : Nat} {y : Filt} {l2 lk lk' : List ByteArray} (hd : kids.drop k = y :: kids.drop (k + 1)) (hl : lk = l2 ++ fkss (kids.take k)) (hl' : lk' = lk ++ fks y) : lk' = l2 ++ fkss (kids.take (k + 1)) := by
  rw [hl', hl, take_of_drop hd, fkss_append]
  simp [fkss]
/-- The contract of a walk that adds a filter's keys behind a row. -/
def KeysC (f : Nat) (x : Filt) : Prop := ∀ (us : List Value) (w : World) (B base : Nat) (A : Option Addr) (c : Nat) (l : List ByteArray), B ≤ base → base ≤ w.heap.size → RDv w B (filtDs x) us → StrRow base w A c l → l.length + filtCnt x ≤ 100 →
  Calls Tryd.prog f #[.agg us.toArray, .slice A l.length c] w fun e w' => ∃ A' c' l', e = .returned (.slice A' l'.length c') ∧ Hid (l' = l ++ fks x) ∧ Hid (StrRow base w' A' c' l') ∧ Hid (Grew w w' (Value.slice A l.length c).ownBlock (Value.slice A' l'.length c').ownBlock)
end Go.Proofs.YtppfgepoegicgaaDoor
