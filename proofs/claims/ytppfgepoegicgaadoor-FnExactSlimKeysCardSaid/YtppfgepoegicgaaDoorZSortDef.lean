/- Rows of texts in order, each text once: what SlimKeys answers, whatever the road. -/
import Derived.Test.YtppfgepoegicgaaDoorGc
import Derived.Sort.Walk0
import Derived.Lib.SlicesCompact
import Derived.Lib.RowBridge
namespace Go.Proofs.YtppfgepoegicgaaDoor
open Go Go.RowKit

def Strict (l : List ByteArray) : Prop := l.Pairwise fun a b => Op.bytesLess a.toList b.toList = true
theorem strict_head {a b : ByteArray} {r1 r2 : List ByteArray} (h1 : Strict (a :: r1)) (h2 : Strict (b :: r2)) (hm : ∀ s, s ∈ a :: r1 ↔ s ∈ b :: r2) : a = b := by
  have k1 := (List.pairwise_cons.1 h1).1
  have k2 := (List.pairwise_cons.1 h2).1
  rcases List.mem_cons.1 ((hm a).1 List.mem_cons_self) with e | e
  · exact e
  · rcases List.mem_cons.1 ((hm b).2 List.mem_cons_self) with e' | e'
    · exact e'.symm
    · have := bl_asymm (k1 b e')
      rw [k2 a e] at this
      cases this
theorem strict_ext : ∀ {l1 l2 : List ByteArray}, Strict l1 → Strict l2 → (∀ s, s ∈ l1 ↔ s ∈ l2) → l1 = l2
  | [], [], _, _, _ => rfl
  | [], b :: _, _, _, h => by have := (h b).2 List.mem_cons_self; cases this
  | a :: _, [], _, _, h => by have := (h a).1 List.mem_cons_self; cases this
  | a :: r1, b :: r2, h1, h2, h => by
    obtain rfl := strict_head h1 h2 h
    have k1 := (List.pairwise_cons.1 h1).1
    have k2 := (List.pairwise_cons.1 h2).1
    rw [strict_ext (List.pairwise_cons.1 h1).2 (List.pairwise_cons.1 h2).2 fun s => ⟨fun hs => ?_, fun hs => ?_⟩]
    · rcases List.mem_cons.1 ((h s).1 (List.mem_cons_of_mem _ hs)) with rfl | e
      · have := k1 s hs
        rw [bl_irrefl] at this
        cases this
      · exact e
    · rcases List.mem_cons.1 ((h s).2 (List.mem_cons_of_mem _ hs)) with rfl | e
      · have := k2 s hs
        rw [bl_irrefl] at this
        cases this
      · exact e

/-! ### by insertion -/
def insS : List ByteArray → ByteArray → List ByteArray
  | [], s => [s]
  | x :: r, s => if Op.bytesLess x.toList s.toList = true then x :: insS r s else if x = s then x :: r else s :: x :: r
theorem insS_mem (t s : ByteArray) : ∀ l : List ByteArray, t ∈ insS l s ↔ t = s ∨ t ∈ l
  | [] => by simp [insS]
  | x :: r => by
    unfold insS
    split
    · rw [List.mem_cons, insS_mem t s r, List.mem_cons]
      exact ⟨fun h => by rcases h with h | h | h <;> simp [h], fun h => by rcases h with h | h | h <;> simp [h]⟩
    · split
      · next e => subst e; simp
      · simp
theorem insS_strict (s : ByteArray) : ∀ l : List ByteArray, Strict l → Strict (insS l s)
  | [], _ => by simp [insS, Strict]
  | x :: r, h => by
    have k := List.pairwise_cons.1 h
    unfold insS
    split
    · next e =>
      refine List.pairwise_cons.2 ⟨fun y hy => ?_, insS_strict s r k.2⟩
      rcases (insS_mem y s r).1 hy with rfl | hy
      · exact e
      · exact k.1 y hy
    · next e =>
      split
      · exact h
      · next e2 =>
        have hs : Op.bytesLess s.toList x.toList = true := by
          rcases bl_tri x.toList s.toList with h1 | h1 | h1
          · exact absurd h1 e
          · exact absurd (str_inj h1) e2
          · exact h1
        refine List.pairwise_cons.2 ⟨fun y hy => ?_, h⟩
        rcases List.mem_cons.1 hy with rfl | hy
        · exact hs
        · exact bl_trans _ _ _ hs (k.1 y hy)
/-- The place k: all texts ahead of it are less. -/
theorem insS_at (s : ByteArray) : ∀ (l : List ByteArray) (k : Nat), (∀ t ∈ l.take k, Op.bytesLess t.toList s.toList = true) → k ≤ l.length → (∀ t, l[k]? = some t → Op.bytesLess t.toList s.toList = false) →
    insS l s = if l[k]? = some s then l else l.take k ++ (s :: l.drop k)
  | [], k, _, hk, _ => by
    obtain rfl : k = 0 := by simpa using hk
    simp [insS]
  | x :: r, 0, _, _, h => by
    have h0 := h x rfl
    unfold insS
    rw [if_neg (by rw [h0]; simp)]
    simp only [List.getElem?_cons_zero, Option.some.injEq, List.take_zero, List.nil_append, List.drop_zero]
  | x :: r, k + 1, ht, hk, h => by
    have h0 := ht x (by simp)
    unfold insS
    rw [if_pos h0, insS_at s r k (fun t hm => ht t (by simp [hm])) (by simpa using hk) (fun t hm => h t (by simpa using hm))]
    simp only [List.getElem?_cons_succ, List.take_succ_cons, List.drop_succ_cons, List.cons_append]
    split <;> rfl
def insAll : List ByteArray → List ByteArray → List ByteArray
  | l, [] => l
  | l, s :: r => insAll (insS l s) r
theorem insAll_append : ∀ (a b l : List ByteArray), insAll l (a ++ b) = insAll (insAll l a) b
  | [], _, _ => rfl
  | s :: a, b, l => insAll_append a b (insS l s)
theorem insAll_mem (t : ByteArray) : ∀ (a l : List ByteArray), t ∈ insAll l a ↔ t ∈ a ∨ t ∈ l
  | [], l => by simp [insAll]
  | s :: a, l => by
    rw [insAll, insAll_mem t a, insS_mem, List.mem_cons]
    exact ⟨fun h => by rcases h with h | h | h <;> simp [h], fun h => by rcases h with (h | h) | h <;> simp [h]⟩
theorem insAll_strict : ∀ (a l : List ByteArray), Strict l → Strict (insAll l a)
  | [], _, h => h
  | s :: a, l, h => insAll_strict a _ (insS_strict s l h)

/-! ### by a sort, and what is twice left out -/
theorem le_bl {x y : List UInt8} : decide (x ≤ y) = true ↔ Op.bytesLess y x = false := by
  rw [bytesLess_eq, decide_eq_true_eq, decide_eq_false_iff_not]
  exact List.not_lt.symm
theorem le_trans_ {x y z : List UInt8} (h1 : decide (x ≤ y) = true) (h2 : decide (y ≤ z) = true) : decide (x ≤ z) = true := by
  rw [le_bl] at h1 h2 ⊢
  rcases Bool.eq_false_or_eq_true (Op.bytesLess z x) with h | h
  · rcases bl_tri y x with h3 | h3 | h3
    · rw [h3] at h1; cases h1
    · rw [h3, h] at h2; cases h2
    · have := bl_trans _ _ _ h h3
      rw [this] at h2
      cases h2
  · exact h
theorem le_total_ (x y : List UInt8) : (decide (x ≤ y) || decide (y ≤ x)) = true := by
  rw [Bool.or_eq_true, le_bl, le_bl]
  rcases Bool.eq_false_or_eq_true (Op.bytesLess y x) with h | h
  · exact .inr (bl_asymm h)
  · exact .inl h
theorem compactUpTo_facts (d : Array (List UInt8)) (hs : ∀ i j, i ≤ j → j < d.size → Op.bytesLess d[j]! d[i]! = false) : ∀ m, m ≤ d.size →
    (∀ x, x ∈ Lib.compactUpTo d m ↔ ∃ j, j < m ∧ d[j]! = x) ∧ (Lib.compactUpTo d m).Pairwise fun a b => Op.bytesLess a b = true
  | 0, _ => by simp [Lib.compactUpTo]
  | m + 1, hm => by
    obtain ⟨h1, h2⟩ := compactUpTo_facts d hs m (by omega)
    rw [Lib.compactUpTo_succ]
    by_cases hk : m = 0 ∨ d[m]! ≠ d[m - 1]!
    · have e : Lib.keeps d m = true := by unfold Lib.keeps; exact decide_eq_true hk
      rw [e, if_pos rfl]
      refine ⟨fun x => ?_, List.pairwise_append.2 ⟨h2, by simp, fun a ha b hb => ?_⟩⟩
      · rw [List.mem_append, h1, List.mem_singleton]
        constructor
        · rintro (⟨j, hj, rfl⟩ | rfl)
          · exact ⟨j, by omega, rfl⟩
          · exact ⟨m, by omega, rfl⟩
        · rintro ⟨j, hj, rfl⟩
          rcases Nat.lt_or_ge j m with h | h
          · exact .inl ⟨j, h, rfl⟩
          · obtain rfl : j = m := by omega
            exact .inr rfl
      · rw [List.mem_singleton.1 hb]
        obtain ⟨j, hj, rfl⟩ := (h1 a).1 ha
        rcases hk with hk | hk
        · omega
        have a1 := hs j (m - 1) (by omega) (by omega)
        have a2 := hs (m - 1) m (by omega) (by omega)
        have a3 : Op.bytesLess d[m - 1]! d[m]! = true := by
          rcases bl_tri d[m - 1]! d[m]! with h | h | h
          · exact h
          · exact absurd h.symm hk
          · rw [h] at a2; cases a2
        rcases bl_tri d[j]! d[m - 1]! with h | h | h
        · exact bl_trans _ _ _ h a3
        · rw [h]; exact a3
        · rw [h] at a1; cases a1
    · have e : Lib.keeps d m = false := by unfold Lib.keeps; exact decide_eq_false hk
      rw [e]
      simp only [Bool.false_eq_true, if_false, List.append_nil]
      refine ⟨fun x => ?_, h2⟩
      rw [h1]
      constructor
      · rintro ⟨j, hj, rfl⟩
        exact ⟨j, by omega, rfl⟩
      · rintro ⟨j, hj, rfl⟩
        rcases Nat.lt_or_ge j m with h | h
        · exact ⟨j, h, rfl⟩
        · obtain rfl : j = m := by omega
          have hk2 : ¬ j = 0 ∧ d[j]! = d[j - 1]! := by
            constructor
            · exact fun h => hk (.inl h)
            · exact Classical.byContradiction fun h => hk (.inr h)
          exact ⟨j - 1, by omega, hk2.2.symm⟩
/-- The bytes of the texts, sorted, each once. -/
def sortKeys (l : List ByteArray) : List (List UInt8) := (l.map (·.data.toList)).mergeSort fun x y => decide (x ≤ y)
def outKeys (l : List ByteArray) : List ByteArray := (Lib.compact (sortKeys l)).map fun b => ⟨b.toArray⟩
theorem toList_mk (b : List UInt8) : (⟨b.toArray⟩ : ByteArray).toList = b := by rw [Lib.toList_data]
theorem sortKeys_at (l : List ByteArray) : ∀ i j, i ≤ j → j < (sortKeys l).toArray.size → Op.bytesLess (sortKeys l).toArray[j]! (sortKeys l).toArray[i]! = false := by
  have hp : (sortKeys l).Pairwise fun a b => decide (a ≤ b) = true := List.pairwise_mergeSort (le := fun x y : List UInt8 => decide (x ≤ y)) (fun _ _ _ => le_trans_) le_total_ _
  intro i j hij hj
  have hj' : j < (sortKeys l).length := by simpa using hj
  have e1 : (sortKeys l).toArray[j]! = (sortKeys l)[j] := by rw [getElem!_pos _ j hj]; simp
  have e2 : (sortKeys l).toArray[i]! = (sortKeys l)[i]'(by omega) := by rw [getElem!_pos _ i (by simp; omega)]; simp
  rw [e1, e2]
  rcases Nat.lt_or_ge i j with h | h
  · exact le_bl.1 (List.pairwise_iff_getElem.1 hp i j (by omega) hj' h)
  · obtain rfl : i = j := by omega
    exact bl_irrefl _
theorem outKeys_facts (l : List ByteArray) : Strict (outKeys l) ∧ ∀ s, s ∈ outKeys l ↔ s ∈ l := by
  obtain ⟨h1, h2⟩ := compactUpTo_facts (sortKeys l).toArray (sortKeys_at l) (sortKeys l).length (by simp)
  refine ⟨?_, fun s => ?_⟩
  · unfold Strict outKeys
    rw [List.pairwise_map]
    refine List.Pairwise.imp ?_ h2
    intro a b h
    rw [toList_mk, toList_mk]
    exact h
  · unfold outKeys
    rw [List.mem_map]
    constructor
    · rintro ⟨b, hb, rfl⟩
      obtain ⟨j, hj, rfl⟩ := (h1 b).1 hb
      have e1 : (sortKeys l).toArray[j]! = (sortKeys l)[j] := by rw [getElem!_pos _ j (by simpa using hj)]; simp
      rw [e1]
      have hm : (sortKeys l)[j] ∈ l.map (·.data.toList) := List.mem_mergeSort.1 (List.getElem_mem hj)
      obtain ⟨t, ht, et⟩ := List.mem_map.1 hm
      rw [← et]
      simpa using ht
    · intro hs
      have hm : s.data.toList ∈ sortKeys l := List.mem_mergeSort.2 (List.mem_map.2 ⟨s, hs, rfl⟩)
      obtain ⟨j, hj, ej⟩ := List.getElem_of_mem hm
      refine ⟨s.data.toList, (h1 _).2 ⟨j, hj, ?_⟩, by simp⟩
      rw [getElem!_pos _ j (by simpa using hj)]
      simpa using ej
theorem outKeys_ins (l : List ByteArray) : outKeys l = insAll [] l := by
  obtain ⟨h1, h2⟩ := outKeys_facts l
  refine strict_ext h1 (insAll_strict l [] List.Pairwise.nil) fun s => ?_
  rw [h2, insAll_mem]
  simp
end Go.Proofs.YtppfgepoegicgaaDoor
