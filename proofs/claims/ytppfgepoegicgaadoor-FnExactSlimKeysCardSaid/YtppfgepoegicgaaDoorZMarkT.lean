/- The marks: the text of a mark; trees, marked from a number on. -/
import Derived.Test.YtppfgepoegicgaaDoorGf
namespace Go.Proofs.YtppfgepoegicgaaDoor
open Go Go.RowKit

def digs (n : Nat) : List UInt8 := if n = 0 then [] else digs (n / 10) ++ [48 + UInt8.ofNat (n % 10)]
termination_by n
decreasing_by omega
theorem digs_zero : digs 0 = [] := by rw [digs]; simp
theorem digs_pos {n : Nat} (h : 0 < n) : digs n = digs (n / 10) ++ [48 + UInt8.ofNat (n % 10)] := by rw [digs]; rw [if_neg (by omega)]
theorem digs_length : ∀ (n : Nat), (digs n).length ≤ n := fun n => by
  induction n using Nat.strongRecOn with
  | _ n ih =>
    rcases Nat.eq_zero_or_pos n with rfl | h
    · rw [digs_zero]; simp
    · rw [digs_pos h]
      have := ih (n / 10) (by omega)
      simp
      omega
/-- The text of mark k. -/
def markT (k : Int) : ByteArray := if k ≤ 0 then ⟨#[109, 48]⟩ else ⟨(109 :: digs k.toNat).toArray⟩
theorem markT_size {k : Int} (h : k ≤ 4611686018427387904) : (markT k).size ≤ 9223372036854775807 := by
  unfold markT
  split
  · show (2 : Nat) ≤ _
    omega
  · have := digs_length k.toNat
    show (109 :: digs k.toNat).toArray.size ≤ _
    simp
    omega

def mStrs : List ByteArray → Int → List ByteArray
  | [], _ => []
  | _ :: r, k => markT k :: mStrs r (k + 1)
theorem mStrs_length : ∀ (l : List ByteArray) (k : Int), (mStrs l k).length = l.length
  | [], _ => rfl
  | _ :: r, k => by simp [mStrs, mStrs_length r]
theorem mStrs_append : ∀ (a b : List ByteArray) (k : Int), mStrs (a ++ b) k = mStrs a k ++ mStrs b (k + a.length)
  | [], _, _ => by simp [mStrs]
  | _ :: a, b, k => by
    simp only [List.cons_append, mStrs, mStrs_append a b, List.length_cons]
    congr 3
    omega
mutual
/-- How many marks a tree of a row takes. -/
def vCnt : Val → Nat
  | .mk _ _ _ keys list => 3 + keys.length + vsCnt list
def vsCnt : List Val → Nat
  | [] => 0
  | v :: r => vCnt v + vsCnt r
end
mutual
def mVal : Val → Int → Val
  | .mk _ _ _ keys list, k => .mk k (k + 1) (markT (k + 1 + 1)) (mStrs keys (k + 1 + 1 + 1)) (mVals list (k + 1 + 1 + 1 + keys.length))
def mVals : List Val → Int → List Val
  | [], _ => []
  | v :: r, k => mVal v k :: mVals r (k + vCnt v)
end
theorem vsCnt_append : ∀ a b : List Val, vsCnt (a ++ b) = vsCnt a + vsCnt b
  | [], _ => by simp [vsCnt]
  | _ :: a, b => by simp [vsCnt, vsCnt_append a b, Nat.add_assoc]
theorem mVals_length : ∀ (l : List Val) (k : Int), (mVals l k).length = l.length
  | [], _ => by simp [mVals]
  | _ :: r, k => by simp [mVals, mVals_length r]
theorem mVals_append : ∀ (a b : List Val) (k : Int), mVals (a ++ b) k = mVals a k ++ mVals b (k + vsCnt a)
  | [], _, _ => by simp [mVals, vsCnt]
  | v :: a, b, k => by
    simp only [List.cons_append, mVals, mVals_append a b, vsCnt]
    congr 3
    omega
theorem vsCnt_mem : ∀ {l : List Val} {v : Val}, v ∈ l → vCnt v ≤ vsCnt l
  | [], _, h => by cases h
  | x :: r, v, h => by
    rcases List.mem_cons.1 h with rfl | h
    · simp [vsCnt]
    · have := vsCnt_mem h
      simp only [vsCnt]
      omega
end Go.Proofs.YtppfgepoegicgaaDoor
