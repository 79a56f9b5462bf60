/- Parts of the proof: FOkDef. -/
import Derived.Test.YtppfgepoegicgaaGreatDoorGb
import Derived.Test.YtppfgepoegicgaaGreatDoorGc
namespace Go.Proofs.YtppfgepoegicgaaGreatDoor
open Go Go.RowKit

def kidsOf (k : Int) : Int := if k < 1 ∨ 21 < k then -1 else ([0, 0, 0, 0, 0, 0, 2, 2, 3, 2, 2, 2, 1, 0, 0, 0, 2, 1, 0, 0, 2, 1] : List Int).getD k.toNat 0
mutual
/-- What a walk down the parts tells: for a kind that the table does not have, false; else whether it tells true of each part that the table names. -/
def ev (tab : Int → Option (List Nat)) : Filt → Bool
  | .mk kind _ _ _ kids => match tab kind with
    | none => false
    | some is => is.all fun i => evAt tab kids i
def evAt (tab : Int → Option (List Nat)) : List Filt → Nat → Bool
  | [], _ => false
  | x :: _, 0 => ev tab x
  | _ :: r, i + 1 => evAt tab r i
end
theorem evAt_drop (tab : Int → Option (List Nat)) : ∀ {kids : List Filt} {i : Nat} {x : Filt}, kids.drop i = x :: kids.drop (i + 1) → evAt tab kids i = ev tab x
  | [], i, x, h => by simp at h
  | y :: r, 0, x, h => by
    simp at h
    rw [h]; simp [evAt]
  | y :: r, i + 1, x, h => by
    simp only [List.drop_succ_cons] at h
    simp only [evAt]
    exact evAt_drop tab h
def tabLooks (k : Int) : Option (List Nat) := if k = 1 ∨ k = 3 ∨ k = 4 ∨ k = 5 ∨ k = 18 then some [] else if k = 6 ∨ k = 7 then some [0, 1] else if k = 8 then some [1, 2] else none
def tabSure (k : Int) : Option (List Nat) := if k = 1 ∨ k = 2 ∨ k = 18 ∨ k = 15 ∨ k = 17 then some [] else if k = 7 ∨ k = 6 ∨ k = 10 ∨ k = 11 then some [0, 1] else if k = 16 then some [1] else if k = 8 then some [0, 1, 2] else none

def zeroVal : Val := .mk 0 0 ⟨#[]⟩ [] []
def FClean (kind n : Int) (s : ByteArray) (v : Val) : Prop := (kind = 4 ∨ n = 0) ∧ ((kind = 3 ∨ kind = 21) ∨ s = ⟨#[]⟩) ∧ (kind = 2 ∨ v = zeroVal)
def FHead (kind n : Int) (s : ByteArray) (v : Val) (kids : List Filt) : Prop :=
  kidsOf kind = kids.length ∧ FClean kind n s v ∧ TextOk s ∧ (-60 ≤ n ∧ n < 60) ∧ ValOk v
def FForm : Nat → Filt → Prop
  | 0, _ => False
  | d + 1, .mk kind n s v kids => FHead kind n s v kids ∧ (∀ x ∈ kids, FForm d x) ∧ (kind = 20 → evAt tabLooks kids 0 = true)
theorem fform_pos {d : Nat} {x : Filt} (h : FForm d x) : d ≠ 0 := by
  rintro rfl
  exact h
theorem fform_iff {d : Nat} (hd : d ≠ 0) {kind n : Int} {s : ByteArray} {v : Val} {kids : List Filt} : FForm d (.mk kind n s v kids) ↔ FHead kind n s v kids ∧ (∀ x ∈ kids, FForm (d - 1) x) ∧ (kind = 20 → evAt tabLooks kids 0 = true) := by
  obtain ⟨m, rfl⟩ : ∃ m, d = m + 1 := ⟨d - 1, by omega⟩
  simp only [FForm, Nat.add_sub_cancel]
theorem kidsOf_range {k : Int} (h : 0 ≤ kidsOf k) : 1 ≤ k ∧ k ≤ 21 := by
  unfold kidsOf at h
  split at h
  · omega
  · omega
mutual
def filtCnt : Filt → Nat
  | .mk _ _ _ _ kids => 1 + filtsCnt kids
def filtsCnt : List Filt → Nat
  | [] => 0
  | v :: r => filtCnt v + filtsCnt r
end
def FOk (x : Filt) : Prop := FForm 7 x ∧ filtCnt x ≤ 16
/-- The contract of a walk down the parts of a filter that is one. -/
def EvC (f : Nat) (tab : Int → Option (List Nat)) (x : Filt) : Prop := ∀ (us : List Value) (w : World) (B d : Nat), B ≤ w.heap.size → RDv w B (filtDs x) us → FForm d x →
  Calls Tryz.prog f #[.agg us.toArray] w (PBool (ev tab x = true) w)
end Go.Proofs.YtppfgepoegicgaaGreatDoor
