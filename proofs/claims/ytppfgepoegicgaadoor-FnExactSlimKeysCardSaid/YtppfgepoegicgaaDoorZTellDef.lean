/- What SlimTell tells of a filter: plain numbers. -/
import Derived.Test.YtppfgepoegicgaaDoorZFOkDef
namespace Go.Proofs.YtppfgepoegicgaaDoor
open Go Go.RowKit

def tlK (kind : Int) (n : List Int) : Int :=
  if kind = 5 then -1 else if kind = 18 ∨ kind = 19 then 0 else if kind = 12 ∨ kind = 20 then 1 else if kind = 17 ∨ kind = 21 then n.getD 0 0
  else if ∃ t ∈ n, t < 0 then -1
  else if kind = 6 ∨ kind = 9 ∨ kind = 10 ∨ kind = 11 then n.getD 0 0 * n.getD 1 0
  else if kind = 7 then n.getD 0 0 + n.getD 1 0
  else if kind = 8 then n.getD 0 0 * max (n.getD 1 0) (n.getD 2 0)
  else if kind = 16 then max (n.getD 0 0) (n.getD 1 0) else 1
mutual
def tl : Filt → Int
  | .mk kind _ _ _ kids => tlK kind (tls kids)
def tls : List Filt → List Int
  | [] => []
  | x :: r => tl x :: tls r
end
theorem tls_eq : ∀ l : List Filt, tls l = l.map tl
  | [] => rfl
  | x :: r => by simp [tls, tls_eq r]
theorem tls_length (l : List Filt) : (tls l).length = l.length := by rw [tls_eq]; simp
theorem filtsCnt_mem : ∀ {l : List Filt} {x : Filt}, x ∈ l → filtCnt x ≤ filtsCnt l
  | [], _, h => by cases h
  | y :: r, x, h => by
    rcases List.mem_cons.1 h with rfl | h
    · simp [filtsCnt]
    · have := filtsCnt_mem h
      simp only [filtsCnt]
      omega
theorem pow2_pos (n : Nat) : (1 : Int) ≤ 2 ^ n := by
  have : 0 < 2 ^ n := Nat.pow_pos (by omega)
  exact_mod_cast this
theorem pow2_le {a b : Nat} (h : a ≤ b) : (2 : Int) ^ a ≤ 2 ^ b := by
  have := Nat.pow_le_pow_right (n := 2) (by omega) h
  exact_mod_cast this
/-- A value among the kids', read by its place. -/
theorem tls_at (l : List Filt) (ih : ∀ x ∈ l, -1 ≤ tl x ∧ tl x ≤ 2 ^ filtCnt x) (i : Nat) : -1 ≤ (tls l).getD i 0 ∧ (tls l).getD i 0 ≤ 2 ^ filtsCnt l := by
  rw [tls_eq]
  rcases Nat.lt_or_ge i l.length with h | h
  · have hm : l[i] ∈ l := List.getElem_mem h
    have := ih _ hm
    rw [List.getD_eq_getElem?_getD, List.getElem?_map, List.getElem?_eq_getElem h]
    simp only [Option.map_some, Option.getD_some]
    exact ⟨this.1, Int.le_trans this.2 (pow2_le (filtsCnt_mem hm))⟩
  · rw [List.getD_eq_getElem?_getD, List.getElem?_eq_none (by simpa using h)]
    have := pow2_pos (filtsCnt l)
    simp
    omega
theorem tls_two (l : List Filt) (ih : ∀ x ∈ l, -1 ≤ tl x ∧ tl x ≤ 2 ^ filtCnt x) (hn : ¬ ∃ t ∈ tls l, t < 0) (i j : Nat) (hij : i ≠ j) :
    0 ≤ (tls l).getD i 0 ∧ 0 ≤ (tls l).getD j 0 ∧ (tls l).getD i 0 * (tls l).getD j 0 ≤ 2 ^ filtsCnt l ∧ (tls l).getD i 0 + (tls l).getD j 0 ≤ 2 ^ (1 + filtsCnt l) := by
  have nn : ∀ i, 0 ≤ (tls l).getD i 0 := fun i => by
    rw [List.getD_eq_getElem?_getD]
    cases h : (tls l)[i]? with
    | none => simp
    | some t =>
      have hm := List.mem_of_getElem? h
      simp only [Option.getD_some]
      exact Classical.byContradiction fun h2 => hn ⟨t, hm, by omega⟩
  have h1 := tls_at l ih i
  have h2 := tls_at l ih j
  refine ⟨nn i, nn j, ?_, ?_⟩
  · have key : ∀ (l : List Filt), (∀ x ∈ l, -1 ≤ tl x ∧ tl x ≤ 2 ^ filtCnt x) → (∀ t ∈ tls l, 0 ≤ t) → ∀ i j, i < j → (tls l).getD i 0 * (tls l).getD j 0 ≤ 2 ^ filtsCnt l := by
      intro l
      induction l with
      | nil => intro _ _ i j _; simp [tls, filtsCnt]
      | cons x r ihl =>
        intro hx ht i j hij
        obtain ⟨j, rfl⟩ : ∃ m, j = m + 1 := ⟨j - 1, by omega⟩
        have hr : ∀ y ∈ r, -1 ≤ tl y ∧ tl y ≤ 2 ^ filtCnt y := fun y hy => hx y (List.mem_cons_of_mem _ hy)
        have hb := tls_at r hr j
        have h0 := hx x List.mem_cons_self
        have hp : ∀ t ∈ tls r, 0 ≤ t := fun t hm => ht t (by simp [tls, hm])
        have hx0 : 0 ≤ tl x := ht _ (by simp [tls])
        have hj0 : 0 ≤ (tls r).getD j 0 := by
          rw [List.getD_eq_getElem?_getD]
          cases h : (tls r)[j]? with
          | none => simp
          | some t => exact hp t (List.mem_of_getElem? h)
        cases i with
        | zero =>
          simp only [tls, List.getD_cons_zero, List.getD_cons_succ, filtsCnt]
          rw [Int.pow_add]
          exact Int.mul_le_mul h0.2 hb.2 hj0 (by have := pow2_pos (filtCnt x); omega)
        | succ i =>
          simp only [tls, List.getD_cons_succ, filtsCnt]
          exact Int.le_trans (ihl hr hp i j (by omega)) (pow2_le (by omega))
    have hp : ∀ t ∈ tls l, 0 ≤ t := fun t hm => Classical.byContradiction fun h => hn ⟨t, hm, by omega⟩
    rcases Nat.lt_or_gt_of_ne hij with h | h
    · exact key l ih hp i j h
    · rw [Int.mul_comm]
      exact key l ih hp j i h
  · rw [Int.pow_add]
    omega
theorem tl_range : ∀ x, -1 ≤ tl x ∧ tl x ≤ 2 ^ filtCnt x := Filt.ind fun kind n s v kids ih => by
  have hp := pow2_pos (filtCnt (.mk kind n s v kids))
  have hc : filtCnt (.mk kind n s v kids) = 1 + filtsCnt kids := by simp [filtCnt]
  have hle := pow2_le (show filtsCnt kids ≤ 1 + filtsCnt kids by omega)
  have a0 := tls_at kids ih 0
  have a1 := tls_at kids ih 1
  have a2 := tls_at kids ih 2
  simp only [tl, tlK]
  rw [hc] at hp ⊢
  split
  · omega
  split
  · omega
  split
  · omega
  split
  · omega
  split
  · omega
  next hn =>
    have b01 := tls_two kids ih hn 0 1 (by omega)
    have b02 := tls_two kids ih hn 0 2 (by omega)
    split
    · have := Int.mul_nonneg b01.1 b01.2.1
      omega
    split
    · omega
    split
    · rcases Int.le_total ((tls kids).getD 1 0) ((tls kids).getD 2 0) with h | h
      · rw [Int.max_eq_right h]
        have := Int.mul_nonneg b02.1 b02.2.1
        omega
      · rw [Int.max_eq_left h]
        have := Int.mul_nonneg b01.1 b01.2.1
        omega
    split
    · omega
    · omega
theorem tl_small {x : Filt} (h : filtCnt x ≤ 16) : -1 ≤ tl x ∧ tl x ≤ 65536 := by
  have h1 := tl_range x
  have h2 := pow2_le h
  have : (2 : Int) ^ 16 = 65536 := by decide
  omega
end Go.Proofs.YtppfgepoegicgaaDoor
