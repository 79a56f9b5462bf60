/- Two trees made one: what the walks tell; a tree that is told if it is ok. -/
import Derived.Test.YtppfgepoegicgaaGreatDoorGi
import Derived.Test.YtppfgepoegicgaaGreatDoorZCopyV
import Derived.Test.YtppfgepoegicgaaGreatDoorGe
import Derived.Test.YtppfgepoegicgaaGreatDoorGc
import Derived.Sort.Walk0
import Derived.Lib.SlicesCompact
import Derived.Lib.RowBridge
import Derived.Test.YtppfgepoegicgaaGreatDoorGf
import Derived.Test.YtppfgepoegicgaaGreatDoorGj
namespace Go.Proofs.YtppfgepoegicgaaGreatDoor
open Go Go.RowKit

def zeroCells : List Value := [.int .i64 0, .int .i64 0, .string ⟨#[]⟩, .slice none 0 0, .slice none 0 0]
/-- A tree of one's own, or none: and whether there is one. -/
def PTwo (r : Option Val) (w : World) (e : Ending) (w' : World) : Prop :=
  (∃ v vs fp, r = some v ∧ e = .returned (.tuple #[.agg vs.toArray, .bool true]) ∧ ODv w' (valDs v) vs fp ∧ Fresh w w' fp ∧ Below w.heap.size w w') ∨
  (r = none ∧ e = .returned (.tuple #[.agg zeroCells.toArray, .bool false]) ∧ Below w.heap.size w w')
theorem PTwo.yes {r : Option Val} {v : Val} {vs : List Value} {fp : List Nat} {w w' : World} (h : r = some v) (ho : ODv w' (valDs v) vs fp) (hf : Fresh w w' fp) (hb : Below w.heap.size w w') : PTwo r w (.returned (.tuple #[.agg vs.toArray, .bool true])) w' := .inl ⟨v, vs, fp, h, rfl, ho, hf, hb⟩
theorem PTwo.no {r : Option Val} {w w' : World} (h : r = none) (hb : Below w.heap.size w w') : PTwo r w (.returned (.tuple #[.agg #[.int .i64 0, .int .i64 0, .string ⟨#[]⟩, .slice none 0 0, .slice none 0 0], .bool false])) w' := .inr ⟨h, rfl, hb⟩
theorem PTwo.from {r : Option Val} {w0 w w' : World} {e : Ending} (h : PTwo r w e w') (hb : Below w0.heap.size w0 w) : PTwo r w0 e w' := by
  rcases h with ⟨v, vs, fp, h1, h2, h3, h4, h5⟩ | ⟨h1, h2, h3⟩
  · exact .inl ⟨v, vs, fp, h1, h2, h3, h4.from_ hb.size, hb.trans (h5.mono hb.size)⟩
  · exact .inr ⟨h1, h2, hb.trans (h3.mono hb.size)⟩

/-- The answer having been laid into the result's block r. -/
theorem PTwo.laid {r : Option Val} {v : Val} {vs : List Value} {fp : List Nat} {w w1 w' : World} {g o : Nat} (h : r = some v) (ho : ODv w' (valDs v) vs fp) (hf : Fresh w1 w' fp) (hb : Below w.heap.size w w') (hg : w.heap.size ≤ g) (hg1 : g < w1.heap.size) : PTwo r w (.returned (.tuple #[.agg vs.toArray, .bool true])) (setAll w' g o vs) := by
  refine PTwo.yes h (ODv.keep _ _ _ (fun b hb => setAll_other _ _ _ _ _ (by have := (hf.2 b hb).1; omega)) ho) ⟨hf.1, fun b hb => ?_⟩ (setAll_below vs hg hb)
  have := hf.2 b hb
  rw [setAll_size]
  omega
theorem PTwo.none_laid {r : Option Val} {w w' : World} {g o : Nat} (h : r = none) (hb : Below w.heap.size w w') (hg : w.heap.size ≤ g) : PTwo r w (.returned (.tuple #[.agg #[.int .i64 0, .int .i64 0, .string ⟨#[]⟩, .slice none 0 0, .slice none 0 0], .bool false])) (setAll w' g o zeroCells) := PTwo.no h (setAll_below zeroCells hg hb)
theorem strDs_small : ∀ ks : List ByteArray, (∀ s ∈ ks, TextOk s) → SmallDs (strDs ks)
  | [], _ => trivial
  | s :: r, h => ⟨by have := (h s List.mem_cons_self).2; simp only [SmallD] <;> omega, strDs_small r fun t ht => h t (List.mem_cons_of_mem _ ht)⟩
theorem valsDs_small : ∀ l : List Val, (∀ v ∈ l, SmallDs (valDs v)) → SmallDs (valsDs l)
  | [], _ => trivial
  | v :: r, h => smallDs_append.2 ⟨h v List.mem_cons_self, valsDs_small r fun t ht => h t (List.mem_cons_of_mem _ ht)⟩
theorem valsCnt_len : ∀ l : List Val, l.length ≤ valsCnt l
  | [] => by simp
  | .mk _ _ _ _ _ :: r => by
    have := valsCnt_len r
    simp only [valsCnt, valCnt, List.length_cons]
    omega
theorem small_of_form : ∀ (v : Val) (d : Nat), Form d v → valCnt v ≤ 60 → SmallDs (valDs v) := Val.ind fun kind n s keys list ih d h hc => by
  obtain ⟨m, rfl⟩ : ∃ m, d = m + 1 := by
    cases d with
    | zero => exact h.elim
    | succ m => exact ⟨m, rfl⟩
  obtain ⟨⟨hcl, _, _, ht, hk⟩, hl⟩ := h
  have h1 := valsCnt_len list
  simp only [valCnt] at hc
  have hkl : keys.length ≤ 60 ∧ ∀ k ∈ keys, TextOk k := by
    by_cases h6 : kind = 6
    · obtain ⟨h2, h3⟩ := hk h6
      exact ⟨by omega, h3.1⟩
    · rw [hcl.2.2.1 h6]
      exact ⟨by simp, fun k hk => by cases hk⟩
  have h3 := ht.2
  refine ⟨trivial, trivial, ?_, ⟨by omega, strDs_small keys hkl.2⟩, ⟨by omega, valsDs_small list fun v hv => ih v hv m (hl v hv) ?_⟩, trivial⟩
  · simp only [SmallD]; omega
  · have := valsCnt_mem hv
    omega
theorem small_of_ok {v : Val} (h : ValOk v) : SmallDs (valDs v) := small_of_form v 6 h.1 h.2
theorem toldV_yes {v : Val} (h : ValOk v) : toldV (some v) = some v := by unfold toldV; simp only []; rw [if_pos h]
theorem toldV_no {v : Val} (h : ¬ ValOk v) : toldV (some v) = none := by unfold toldV; simp only []; rw [if_neg h]

set_option maxRecDepth 100000 in
set_option maxHeartbeats 4000000 in
theorem iTold_calls (v : Val) (us : List Value) (w : World) (B : Nat) (hB : B ≤ w.heap.size) (h : RDv w B (valDs v) us) :
    Calls Tryz.prog 77 #[.agg us.toArray, .bool true] w (PTwo (toldV (some v)) w) := by
  obtain ⟨a0, a1, a2, A3, n3, q3, A4, n4, q4, rfl⟩ := valDs_shape h
  have H := Lib.hid h
  clear h
  have hbx := fun o1 o2 => below_box2 w o1 o2
  go_enter Tryz.func77, Tryz.ntmps77
  go_wp2_with fail
  refine (iValOk_calls v [_, _, _, _, _] _ B (Nat.le_trans hB (hbx _ _).size) (H.out.below ((hbx _ _).mono hB))).mono ?_
  rintro e w1 ⟨r1, rfl, hr1, hb1⟩
  have HR := Lib.hid hr1
  obtain ⟨hb, hz, bP, bR⟩ := boxes2 (P := [_, _, _, _, _]) (R := [_, _, _, _, _]) (boxes2_of hb1)
  obtain ⟨cP, fP⟩ := blk_rules bP
  obtain ⟨cR, fR⟩ := blk_rules bR
  have HRb := Lib.hid bR
  clear hr1 hb1 bP bR hbx
  cases r1 with
  | false =>
    have HN := Lib.hid (toldV_no (v := v) (fun h => absurd (HR.out.2 h) (by simp)))
    go_wp2
    refine bodyPost_ret (v := .tuple #[.agg #[.int .i64 0, .int .i64 0, .string ⟨#[]⟩, .slice none 0 0, .slice none 0 0], .bool false]) (by simp [results, Tryz.results77, go_sem, cR]) rfl ?_
    exact PTwo.none_laid (g := w.heap.size + 1) (o := 0) HN.out hb (by omega)
  | true =>
    have HOK := Lib.hid (HR.out.1 rfl)
    have HN := Lib.hid (toldV_yes HOK.out)
    go_wp2_with fail
    refine (clone_calls v [_, _, _, _, _] _ B (by omega) (H.out.below (hb.mono hB)) (small_of_ok HOK.out)).mono ?_
    rintro e w2 ⟨vs, fp, rfl, hO, hF, hb2⟩
    obtain ⟨d0, d1, d2, A7, n7, c7, A8, n8, c8, rfl⟩ := valDs_shape hO.rd'
    have HO := Lib.hid hO
    have HF := Lib.hid hF
    have HR2 := Lib.hid (HRb.out.below hb2)
    have hb3 := hb.trans (hb2.mono (by omega))
    clear hO hF hb2 cP fP cR fR
    obtain ⟨cR, fR⟩ := blk_rules HR2.out
    go_wp2
    refine bodyPost_ret (v := .tuple #[.agg #[.int .i64 d0, .int .i64 d1, .string d2, .slice A7 n7 c7, .slice A8 n8 c8], .bool true]) (by simp [results, Tryz.results77, go_sem, cR]) rfl ?_
    exact PTwo.laid (vs := [.int .i64 d0, .int .i64 d1, .string d2, .slice A7 n7 c7, .slice A8 n8 c8]) (g := w.heap.size + 1) (o := 0) HN.out HO.out HF.out hb3 (by omega) (by omega)

set_option maxRecDepth 100000 in
set_option maxHeartbeats 4000000 in
theorem sTold_calls (v : Val) (us : List Value) (w : World) (B : Nat) (hB : B ≤ w.heap.size) (h : RDv w B (valDs v) us) (hC : valCnt v ≤ 1099511627776) :
    Calls Tryz.prog 95 #[.agg us.toArray] w (PTwo (toldV (some v)) w) := by
  obtain ⟨a0, a1, a2, A3, n3, q3, A4, n4, q4, rfl⟩ := valDs_shape h
  have H := Lib.hid h
  clear h
  have hbx := fun o1 o2 => below_box2 w o1 o2
  go_enter Tryz.func95, Tryz.ntmps95
  go_wp2_with fail
  refine (sValOk_calls v [_, _, _, _, _] _ B (Nat.le_trans hB (hbx _ _).size) (H.out.below ((hbx _ _).mono hB)) hC).mono ?_
  rintro e w1 ⟨r1, rfl, hr1, hb1⟩
  have HR := Lib.hid hr1
  obtain ⟨hb, hz, bP, bR⟩ := boxes2 (P := [_, _, _, _, _]) (R := [_, _, _, _, _]) (boxes2_of hb1)
  obtain ⟨cP, fP⟩ := blk_rules bP
  obtain ⟨cR, fR⟩ := blk_rules bR
  have HRb := Lib.hid bR
  clear hr1 hb1 bP bR hbx
  cases r1 with
  | false =>
    have HN := Lib.hid (toldV_no (v := v) (fun h => absurd (HR.out.2 h) (by simp)))
    go_wp2
    refine bodyPost_ret (v := .tuple #[.agg #[.int .i64 0, .int .i64 0, .string ⟨#[]⟩, .slice none 0 0, .slice none 0 0], .bool false]) (by simp [results, Tryz.results95, go_sem, cR]) rfl ?_
    exact PTwo.none_laid (g := w.heap.size + 1) (o := 0) HN.out hb (by omega)
  | true =>
    have HOK := Lib.hid (HR.out.1 rfl)
    have HN := Lib.hid (toldV_yes HOK.out)
    go_wp2_with fail
    refine (copy_calls v [_, _, _, _, _] _ B (by omega) (H.out.below (hb.mono hB)) (small_of_ok HOK.out)).mono ?_
    rintro e w2 ⟨vs, fp, rfl, hO, hF, hb2⟩
    obtain ⟨d0, d1, d2, A7, n7, c7, A8, n8, c8, rfl⟩ := valDs_shape hO.rd'
    have HO := Lib.hid hO
    have HF := Lib.hid hF
    have HR2 := Lib.hid (HRb.out.below hb2)
    have hb3 := hb.trans (hb2.mono (by omega))
    clear hO hF hb2 cP fP cR fR
    obtain ⟨cR, fR⟩ := blk_rules HR2.out
    go_wp2
    refine bodyPost_ret (v := .tuple #[.agg #[.int .i64 d0, .int .i64 d1, .string d2, .slice A7 n7 c7, .slice A8 n8 c8], .bool true]) (by simp [results, Tryz.results95, go_sem, cR]) rfl ?_
    exact PTwo.laid (vs := [.int .i64 d0, .int .i64 d1, .string d2, .slice A7 n7 c7, .slice A8 n8 c8]) (g := w.heap.size + 1) (o := 0) HN.out HO.out HF.out hb3 (by omega) (by omega)
end Go.Proofs.YtppfgepoegicgaaGreatDoor
namespace Go.Proofs.YtppfgepoegicgaaGreatDoor
open Go Go.RowKit

def Strict (l : List ByteArray) : Prop := l.Pairwise fun a b => Op.bytesLess a.toList b.toList = true
theorem strict_head {a b : ByteArray} {r1 r2 : List ByteArray} (h1 : Strict (a :: r1)) (h2 : Strict (b :: r2)) (hm : ∀ s, s ∈ a :: r1 ↔ s ∈ b :: r2) : a = b := by
  have k1 := (List.pairwise_cons.1 h1).1
  have k2 := (List.pairwise_cons.1 h2).1
  rcases List.mem_cons.1 ((hm a).1 List.mem_cons_self) with e | e
  · exact e
  · rcases List.mem_cons.1 ((hm b).2 List.mem_cons_self) with e' | e'
    · exact e'.symm
    · have := bl_asymm (k1 b e')
      rw [k2 a e] at this
      cases this
theorem strict_ext : ∀ {l1 l2 : List ByteArray}, Strict l1 → Strict l2 → (∀ s, s ∈ l1 ↔ s ∈ l2) → l1 = l2
  | [], [], _, _, _ => rfl
  | [], b :: _, _, _, h => by have := (h b).2 List.mem_cons_self; cases this
  | a :: _, [], _, _, h => by have := (h a).1 List.mem_cons_self; cases this
  | a :: r1, b :: r2, h1, h2, h => by
    obtain rfl := strict_head h1 h2 h
    have k1 := (List.pairwise_cons.1 h1).1
    have k2 := (List.pairwise_cons.1 h2).1
    rw [strict_ext (List.pairwise_cons.1 h1).2 (List.pairwise_cons.1 h2).2 fun s => ⟨fun hs => ?_, fun hs => ?_⟩]
    · rcases List.mem_cons.1 ((h s).1 (List.mem_cons_of_mem _ hs)) with rfl | e
      · have := k1 s hs
        rw [bl_irrefl] at this
        cases this
      · exact e
    · rcases List.mem_cons.1 ((h s).2 (List.mem_cons_of_mem _ hs)) with rfl | e
      · have := k2 s hs
        rw [bl_irrefl] at this
        cases this
      · exact e

/-! ### by insertion -/
def insS : List ByteArray → ByteArray → List ByteArray
  | [], s => [s]
  | x :: r, s => if Op.bytesLess x.toList s.toList = true then x :: insS r s else if x = s then x :: r else s :: x :: r
theorem insS_mem (t s : ByteArray) : ∀ l : List ByteArray, t ∈ insS l s ↔ t = s ∨ t ∈ l
  | [] => by simp [insS]
  | x :: r => by
    unfold insS
    split
    · rw [List.mem_cons, insS_mem t s r, List.mem_cons]
      exact ⟨fun h => by rcases h with h | h | h <;> simp [h], fun h => by rcases h with h | h | h <;> simp [h]⟩
    · split
      · next e => subst e; simp
      · simp
theorem insS_strict (s : ByteArray) : ∀ l : List ByteArray, Strict l → Strict (insS l s)
  | [], _ => by simp [insS, Strict]
  | x :: r, h => by
    have k := List.pairwise_cons.1 h
    unfold insS
    split
    · next e =>
      refine List.pairwise_cons.2 ⟨fun y hy => ?_, insS_strict s r k.2⟩
      rcases (insS_mem y s r).1 hy with rfl | hy
      · exact e
      · exact k.1 y hy
    · next e =>
      split
      · exact h
      · next e2 =>
        have hs : Op.bytesLess s.toList x.toList = true := by
          rcases bl_tri x.toList s.toList with h1 | h1 | h1
          · exact absurd h1 e
          · exact absurd (str_inj h1) e2
          · exact h1
        refine List.pairwise_cons.2 ⟨fun y hy => ?_, h⟩
        rcases List.mem_cons.1 hy with rfl | hy
        · exact hs
        · exact bl_trans _ _ _ hs (k.1 y hy)
/-- The place k: all texts ahead of it are less. -/
theorem insS_at (s : ByteArray) : ∀ (l : List ByteArray) (k : Nat), (∀ t ∈ l.take k, Op.bytesLess t.toList s.toList = true) → k ≤ l.length → (∀ t, l[k]? = some t → Op.bytesLess t.toList s.toList = false) →
    insS l s = if l[k]? = some s then l else l.take k ++ (s :: l.drop k)
  | [], k, _, hk, _ => by
    obtain rfl : k = 0 := by simpa using hk
    simp [insS]
  | x :: r, 0, _, _, h => by
    have h0 := h x rfl
    unfold insS
    rw [if_neg (by rw [h0]; simp)]
    simp only [List.getElem?_cons_zero, Option.some.injEq, List.take_zero, List.nil_append, List.drop_zero]
  | x :: r, k + 1, ht, hk, h => by
    have h0 := ht x (by simp)
    unfold insS
    rw [if_pos h0, insS_at s r k (fun t hm => ht t (by simp [hm])) (by simpa using hk) (fun t hm => h t (by simpa using hm))]
    simp only [List.getElem?_cons_succ, List.take_succ_cons, List.drop_succ_cons, List.cons_append]
    split <;> rfl
def insAll : List ByteArray → List ByteArray → List ByteArray
  | l, [] => l
  | l, s :: r => insAll (insS l s) r
theorem insAll_append : ∀ (a b l : List ByteArray), insAll l (a ++ b) = insAll (insAll l a) b
  | [], _, _ => rfl
  | s :: a, b, l => insAll_append a b (insS l s)
theorem insAll_mem (t : ByteArray) : ∀ (a l : List ByteArray), t ∈ insAll l a ↔ t ∈ a ∨ t ∈ l
  | [], l => by simp [insAll]
  | s :: a, l => by
    rw [insAll, insAll_mem t a, insS_mem, List.mem_cons]
    exact ⟨fun h => by rcases h with h | h | h <;> simp [h], fun h => by rcases h with (h | h) | h <;> simp [h]⟩
theorem insAll_strict : ∀ (a l : List ByteArray), Strict l → Strict (insAll l a)
  | [], _, h => h
  | s :: a, l, h => insAll_strict a _ (insS_strict s l h)

/-! ### by a sort, and what is twice left out -/
theorem le_bl {x y : List UInt8} : decide (x ≤ y) = true ↔ Op.bytesLess y x = false := by
  rw [bytesLess_eq, decide_eq_true_eq, decide_eq_false_iff_not]
  exact List.not_lt.symm
theorem le_trans_ {x y z : List UInt8} (h1 : decide (x ≤ y) = true) (h2 : decide (y ≤ z) = true) : decide (x ≤ z) = true := by
  rw [le_bl] at h1 h2 ⊢
  rcases Bool.eq_false_or_eq_true (Op.bytesLess z x) with h | h
  · rcases bl_tri y x with h3 | h3 | h3
    · rw [h3] at h1; cases h1
    · rw [h3, h] at h2; cases h2
    · have := bl_trans _ _ _ h h3
      rw [this] at h2
      cases h2
  · exact h
theorem le_total_ (x y : List UInt8) : (decide (x ≤ y) || decide (y ≤ x)) = true := by
  rw [Bool.or_eq_true, le_bl, le_bl]
  rcases Bool.eq_false_or_eq_true (Op.bytesLess y x) with h | h
  · exact .inr (bl_asymm h)
  · exact .inl h
theorem compactUpTo_facts (d : Array (List UInt8)) (hs : ∀ i j, i ≤ j → j < d.size → Op.bytesLess d[j]! d[i]! = false) : ∀ m, m ≤ d.size →
    (∀ x, x ∈ Lib.compactUpTo d m ↔ ∃ j, j < m ∧ d[j]! = x) ∧ (Lib.compactUpTo d m).Pairwise fun a b => Op.bytesLess a b = true
  | 0, _ => by simp [Lib.compactUpTo]
  | m + 1, hm => by
    obtain ⟨h1, h2⟩ := compactUpTo_facts d hs m (by omega)
    rw [Lib.compactUpTo_succ]
    by_cases hk : m = 0 ∨ d[m]! ≠ d[m - 1]!
    · have e : Lib.keeps d m = true := by unfold Lib.keeps; exact decide_eq_true hk
      rw [e, if_pos rfl]
      refine ⟨fun x => ?_, List.pairwise_append.2 ⟨h2, by simp, fun a ha b hb => ?_⟩⟩
      · rw [List.mem_append, h1, List.mem_singleton]
        constructor
        · rintro (⟨j, hj, rfl⟩ | rfl)
          · exact ⟨j, by omega, rfl⟩
          · exact ⟨m, by omega, rfl⟩
        · rintro ⟨j, hj, rfl⟩
          rcases Nat.lt_or_ge j m with h | h
          · exact .inl ⟨j, h, rfl⟩
          · obtain rfl : j = m := by omega
            exact .inr rfl
      · rw [List.mem_singleton.1 hb]
        obtain ⟨j, hj, rfl⟩ := (h1 a).1 ha
        rcases hk with hk | hk
        · omega
        have a1 := hs j (m - 1) (by omega) (by omega)
        have a2 := hs (m - 1) m (by omega) (by omega)
        have a3 : Op.bytesLess d[m - 1]! d[m]! = true := by
          rcases bl_tri d[m - 1]! d[m]! with h | h | h
          · exact h
          · exact absurd h.symm hk
          · rw [h] at a2; cases a2
        rcases bl_tri d[j]! d[m - 1]! with h | h | h
        · exact bl_trans _ _ _ h a3
        · rw [h]; exact a3
        · rw [h] at a1; cases a1
    · have e : Lib.keeps d m = false := by unfold Lib.keeps; exact decide_eq_false hk
      rw [e]
      simp only [Bool.false_eq_true, if_false, List.append_nil]
      refine ⟨fun x => ?_, h2⟩
      rw [h1]
      constructor
      · rintro ⟨j, hj, rfl⟩
        exact ⟨j, by omega, rfl⟩
      · rintro ⟨j, hj, rfl⟩
        rcases Nat.lt_or_ge j m with h | h
        · exact ⟨j, h, rfl⟩
        · obtain rfl : j = m := by omega
          have hk2 : ¬ j = 0 ∧ d[j]! = d[j - 1]! := by
            constructor
            · exact fun h => hk (.inl h)
            · exact Classical.byContradiction fun h => hk (.inr h)
          exact ⟨j - 1, by omega, hk2.2.symm⟩
/-- The bytes of the texts, sorted, each once. -/
def sortKeys (l : List ByteArray) : List (List UInt8) := (l.map (·.data.toList)).mergeSort fun x y => decide (x ≤ y)
def outKeys (l : List ByteArray) : List ByteArray := (Lib.compact (sortKeys l)).map fun b => ⟨b.toArray⟩
theorem toList_mk (b : List UInt8) : (⟨b.toArray⟩ : ByteArray).toList = b := by rw [Lib.toList_data]
theorem sortKeys_at (l : List ByteArray) : ∀ i j, i ≤ j → j < (sortKeys l).toArray.size → Op.bytesLess (sortKeys l).toArray[j]! (sortKeys l).toArray[i]! = false := by
  have hp : (sortKeys l).Pairwise fun a b => decide (a ≤ b) = true := List.pairwise_mergeSort (le := fun x y : List UInt8 => decide (x ≤ y)) (fun _ _ _ => le_trans_) le_total_ _
  intro i j hij hj
  have hj' : j < (sortKeys l).length := by simpa using hj
  have e1 : (sortKeys l).toArray[j]! = (sortKeys l)[j] := by rw [getElem!_pos _ j hj]; simp
  have e2 : (sortKeys l).toArray[i]! = (sortKeys l)[i]'(by omega) := by rw [getElem!_pos _ i (by simp; omega)]; simp
  rw [e1, e2]
  rcases Nat.lt_or_ge i j with h | h
  · exact le_bl.1 (List.pairwise_iff_getElem.1 hp i j (by omega) hj' h)
  · obtain rfl : i = j := by omega
    exact bl_irrefl _
theorem outKeys_facts (l : List ByteArray) : Strict (outKeys l) ∧ ∀ s, s ∈ outKeys l ↔ s ∈ l := by
  obtain ⟨h1, h2⟩ := compactUpTo_facts (sortKeys l).toArray (sortKeys_at l) (sortKeys l).length (by simp)
  refine ⟨?_, fun s => ?_⟩
  · unfold Strict outKeys
    rw [List.pairwise_map]
    refine List.Pairwise.imp ?_ h2
    intro a b h
    rw [toList_mk, toList_mk]
    exact h
  · unfold outKeys
    rw [List.mem_map]
    constructor
    · rintro ⟨b, hb, rfl⟩
      obtain ⟨j, hj, rfl⟩ := (h1 b).1 hb
      have e1 : (sortKeys l).toArray[j]! = (sortKeys l)[j] := by rw [getElem!_pos _ j (by simpa using hj)]; simp
      rw [e1]
      have hm : (sortKeys l)[j] ∈ l.map (·.data.toList) := List.mem_mergeSort.1 (List.getElem_mem hj)
      obtain ⟨t, ht, et⟩ := List.mem_map.1 hm
      rw [← et]
      simpa using ht
    · intro hs
      have hm : s.data.toList ∈ sortKeys l := List.mem_mergeSort.2 (List.mem_map.2 ⟨s, hs, rfl⟩)
      obtain ⟨j, hj, ej⟩ := List.getElem_of_mem hm
      refine ⟨s.data.toList, (h1 _).2 ⟨j, hj, ?_⟩, by simp⟩
      rw [getElem!_pos _ j (by simpa using hj)]
      simpa using ej
theorem outKeys_ins (l : List ByteArray) : outKeys l = insAll [] l := by
  obtain ⟨h1, h2⟩ := outKeys_facts l
  refine strict_ext h1 (insAll_strict l [] List.Pairwise.nil) fun s => ?_
  rw [h2, insAll_mem]
  simp
end Go.Proofs.YtppfgepoegicgaaGreatDoor
namespace Go.Proofs.YtppfgepoegicgaaGreatDoor
open Go Go.RowKit

theorem strict_of_keys {ks : List ByteArray} (h : KeysOk ks) : Strict ks := by
  have hadj : ∀ i (h1 : i + 1 < ks.length), Op.bytesLess (ks[i]'(by omega)).toList ks[i + 1].toList = true := fun i h1 => by
    have := h.2 i h1
    rwa [List.getD_eq_getElem?_getD, List.getElem?_eq_getElem (by omega), List.getD_eq_getElem?_getD, List.getElem?_eq_getElem h1] at this
  refine List.pairwise_iff_getElem.2 fun i j hi hj hij => ?_
  obtain ⟨d, rfl⟩ : ∃ d, j = i + 1 + d := ⟨j - i - 1, by omega⟩
  clear hij
  induction d with
  | zero => exact hadj i hj
  | succ d ih => exact bl_trans _ _ _ (ih (by omega)) (hadj (i + 1 + d) hj)
/-- What has been put together so far: 'rest' is still to come. -/
def PutTo (l : List (ByteArray × Val)) (key : ByteArray) (x : Val) (done : Bool) (acc rest : List (ByteArray × Val)) : Prop :=
  Strict (rest.map (·.1)) ∧ if done = true then (acc ++ rest = putP l key x ∧ ∀ p ∈ rest, p.1 ≠ key) else acc ++ putP rest key x = putP l key x
theorem PutTo.start {l : List (ByteArray × Val)} {key : ByteArray} {x : Val} (h : Strict (l.map (·.1))) : PutTo l key x false [] l := ⟨h, by simp⟩
theorem strict_tail {k : ByteArray} {l : List ByteArray} (h : Strict (k :: l)) : Strict l ∧ ∀ t ∈ l, Op.bytesLess k.toList t.toList = true := ⟨(List.pairwise_cons.1 h).2, (List.pairwise_cons.1 h).1⟩
theorem PutTo.later {l acc r : List (ByteArray × Val)} {key k' : ByteArray} {x x' : Val} (h : PutTo l key x false acc ((k', x') :: r)) (hk : Op.bytesLess k'.toList key.toList = true) : PutTo l key x false (acc ++ [(k', x')]) r := by
  obtain ⟨h1, h2⟩ := h
  refine ⟨(strict_tail h1).1, ?_⟩
  simp only [Bool.false_eq_true, if_false] at h2 ⊢
  rw [← h2, putP, if_pos hk]
  simp
theorem PutTo.hit {l acc r : List (ByteArray × Val)} {key : ByteArray} {x x' : Val} (h : PutTo l key x false acc ((key, x') :: r)) : PutTo l key x true (acc ++ [(key, x)]) r := by
  obtain ⟨h1, h2⟩ := h
  refine ⟨(strict_tail h1).1, ?_⟩
  simp only [Bool.false_eq_true, if_false, if_true] at h2 ⊢
  rw [← h2, putP, if_neg (by rw [bl_irrefl]; simp), if_pos rfl]
  refine ⟨by simp, fun p hp e => ?_⟩
  have := (strict_tail h1).2 p.1 (List.mem_map.2 ⟨p, hp, rfl⟩)
  rw [e, bl_irrefl] at this
  cases this
theorem PutTo.ahead {l acc r : List (ByteArray × Val)} {key k' : ByteArray} {x x' : Val} (h : PutTo l key x false acc ((k', x') :: r)) (hk : Op.bytesLess k'.toList key.toList = false) (hne : k' ≠ key) : PutTo l key x true (acc ++ [(key, x)] ++ [(k', x')]) r := by
  obtain ⟨h1, h2⟩ := h
  refine ⟨(strict_tail h1).1, ?_⟩
  simp only [Bool.false_eq_true, if_false, if_true] at h2 ⊢
  rw [← h2, putP, if_neg (by rw [hk]; simp), if_neg hne]
  refine ⟨by simp, fun p hp e => ?_⟩
  have h3 := (strict_tail h1).2 p.1 (List.mem_map.2 ⟨p, hp, rfl⟩)
  rw [e] at h3
  rw [h3] at hk
  cases hk
theorem PutTo.behind {l acc r : List (ByteArray × Val)} {key k' : ByteArray} {x x' : Val} (h : PutTo l key x true acc ((k', x') :: r)) : PutTo l key x true (acc ++ [(k', x')]) r ∧ k' ≠ key := by
  obtain ⟨h1, h2⟩ := h
  simp only [if_true] at h2
  refine ⟨⟨(strict_tail h1).1, ?_⟩, h2.2 (k', x') List.mem_cons_self⟩
  simp only [if_true]
  exact ⟨by rw [← h2.1]; simp, fun p hp => h2.2 p (List.mem_cons_of_mem _ hp)⟩
theorem PutTo.end_ {l acc : List (ByteArray × Val)} {key : ByteArray} {x : Val} : (PutTo l key x true acc [] → acc = putP l key x) ∧ (PutTo l key x false acc [] → acc ++ [(key, x)] = putP l key x) :=
  ⟨fun h => by have := h.2; simpa using this, fun h => by have := h.2; simpa [putP] using this⟩
/-- A row of texts whose cells are one's own. -/
def StrRow (base : Nat) (w : World) (A : Option Addr) (c : Nat) (l : List ByteArray) : Prop := w.ownsRow base 9 1 (.slice A l.length c) l.length (l.map Value.string)
/-- A row of trees whose cells are one's own, the trees being read. -/
def ValRow (base : Nat) (w0 : World) (B : Nat) (w : World) (A : Option Addr) (c : Nat) (l : List Val) : Prop := ∃ us, w.ownsRow base 32 5 (.slice A l.length c) l.length us ∧ RDv w0 B (valsDs l) us
end Go.Proofs.YtppfgepoegicgaaGreatDoor
namespace Go.Proofs.YtppfgepoegicgaaGreatDoor
open Go Go.RowKit

theorem owns_set {w : World} {base sz n : Nat} {e : TypeId} {v : Value} {us : List Value} (h : w.ownsRow base e sz v n us) {p : Addr} (hp : p.block < base) {u : Value} : (w.setCell p u).ownsRow base e sz v n us := by
  obtain ⟨a1, a2⟩ := h
  refine ⟨a1, ?_⟩
  rcases a2 with a2 | ⟨g, cap, cur, e1, e2, e3, r⟩
  · exact .inl a2
  · refine .inr ⟨g, cap, cur, e1, e2, ?_, r⟩
    rw [Below.heap_setCell w p u g (by omega)]
    exact e3
structure PInv (w G : World) (B : Nat) (vc xc : List Value) (ka : List ByteArray) (va : List Val) (Ak : Option Addr) (ck : Nat) (Al : Option Addr) (cl : Nat) (wr : World) : Prop where
  bel : Below w.heap.size w wr
  size : w.heap.size + 4 ≤ wr.heap.size
  bv : Blk wr w.heap.size 32 vc
  bx : Blk wr (w.heap.size + 1) 32 xc
  br : Blk wr (w.heap.size + 1 + 1) 32 zeroCells
  bo : Blk wr (w.heap.size + 1 + 1 + 1) 32 [.int .i64 6, .int .i64 0, .string ⟨#[]⟩, .slice Ak ka.length ck, .slice Al va.length cl]
  rk : StrRow (w.heap.size + 4) wr Ak ck ka
  rv : ValRow (w.heap.size + 4) G B wr Al cl va
  ne : ∀ q, (Value.slice Ak ka.length ck).ownBlock = some q → (Value.slice Al va.length cl).ownBlock ≠ some q

section
variable {w G : World} {B : Nat} {vc xc : List Value} {ka : List ByteArray} {va : List Val} {Ak Al : Option Addr} {ck cl : Nat} {wr : World}
theorem PInv.drew (h : PInv w G B vc xc ka va Ak ck Al cl wr) : PInv w G B vc xc ka va Ak ck Al cl wr.drew :=
  ⟨h.bel.drew, h.size, h.bv.drew, h.bx.drew, h.br.drew, h.bo.drew, h.rk, h.rv, h.ne⟩
theorem slice_of_owns {base sz n : Nat} {e : TypeId} {v : Value} {us : List Value} {w : World} (h : w.ownsRow base e sz v n us) : ∃ A c, v = .slice A n c := by
  obtain ⟨_, ⟨h1, h2⟩ | ⟨g, cap, cur, h1, _⟩⟩ := h
  · exact ⟨none, 0, by rw [h1, h2]⟩
  · exact ⟨_, _, h1⟩
/-- A text has come behind the keys: in world w2 the row, behind the store the whole. -/
theorem PInv.key (h : PInv w G B vc xc ka va Ak ck Al cl wr) {key : ByteArray} {o : Obj} {v2 : Value} {w2 : World} (ho : w2.ownsRow (w.heap.size + 4) 9 1 v2 (ka.length + 1) (ka.map Value.string ++ [.string key])) (hg : (wr.alloc o).grownBy w2 (Value.slice Ak ka.length ck).ownBlock) (ha : v2.ownBlock = (Value.slice Ak ka.length ck).ownBlock ∨ v2.ownBlock = some (wr.alloc o).heap.size) :
    ∃ A c, v2 = .slice A (ka ++ [key]).length c ∧ Blk w2 (w.heap.size + 1 + 1 + 1) 32 [.int .i64 6, .int .i64 0, .string ⟨#[]⟩, .slice Ak ka.length ck, .slice Al va.length cl] ∧
      PInv w G B vc xc (ka ++ [key]) va A c Al cl (w2.setCell ⟨w.heap.size + 1 + 1 + 1, 3, none⟩ (.slice A (ka ++ [key]).length c)) := by
  obtain ⟨A, c, rfl⟩ := slice_of_owns ho
  have hlen : (ka ++ [key]).length = ka.length + 1 := by simp
  have hz := h.size
  have hz2 := hg.size
  simp at hz2
  have hlk : ∀ q, (Value.slice Ak ka.length ck).ownBlock = some q → w.heap.size + 4 ≤ q ∧ q < wr.heap.size := fun q hq => World.ownsRow.lt h.rk q hq
  have same : ∀ b, b < wr.heap.size → (Value.slice Ak ka.length ck).ownBlock ≠ some b → w2.heap[b]? = wr.heap[b]? := fun b hb hn => (hg.block b (by simp; omega) (fun e => hn e.symm)).trans (Below.heap_alloc _ _ _ hb)
  have low : ∀ b, b < w.heap.size + 4 → w2.heap[b]? = wr.heap[b]? := fun b hb => same b (by omega) (fun e => by have := hlk b e; omega)
  have hb2 : Below w.heap.size w w2 := ⟨hg.os.trans h.bel.os, hg.tape.trans h.bel.tape, hg.output.trans h.bel.output, by have := h.bel.size; omega, fun b hb => (low b (by omega)).trans (h.bel.block b hb)⟩
  have hbo := h.bo.same (low _ (by omega))
  refine ⟨A, c, by rw [hlen], hbo, ?_⟩
  obtain ⟨us, hu1, hu2⟩ := h.rv
  have hne : ∀ q, (Value.slice Al va.length cl).ownBlock = some q → w.heap.size + 4 ≤ q ∧ q < wr.heap.size := fun q hq => hu1.lt q hq
  have hv2 : w2.ownsRow (w.heap.size + 4) 32 5 (.slice Al va.length cl) va.length us := (hu1.alloc o).kept hg (Classical.or_iff_not_imp_left.2 fun hn e => by
    obtain ⟨q, hq⟩ := Option.ne_none_iff_exists'.1 hn
    exact h.ne q (e ▸ hq) hq)
  have hf : ∀ g, g ≠ w.heap.size + 1 + 1 + 1 → (w2.setCell ⟨w.heap.size + 1 + 1 + 1, 3, none⟩ (.slice A (ka ++ [key]).length c)).heap[g]? = w2.heap[g]? := fun g hgn => Below.heap_setCell _ _ _ _ hgn
  refine ⟨hb2.setCell (by show w.heap.size ≤ w.heap.size + 1 + 1 + 1; omega) _, by simp [World.setCell]; omega, (h.bv.same (low _ (by omega))).same (hf _ (by omega)), (h.bx.same (low _ (by omega))).same (hf _ (by omega)), (h.br.same (low _ (by omega))).same (hf _ (by omega)), hbo.set_ 3 _, ?_, ⟨us, owns_set hv2 (by show w.heap.size + 1 + 1 + 1 < _; omega), hu2⟩, fun q hq hl => ?_⟩
  · unfold StrRow
    rw [hlen, List.map_append]
    exact owns_set ho (by show w.heap.size + 1 + 1 + 1 < _; omega)
  · rw [hlen] at hq
    have := hne q hl
    rcases ha with ha | ha
    · rw [ha] at hq
      exact h.ne q hq hl
    · rw [ha] at hq
      injection hq with hq
      simp at hq
      omega
theorem valsDs_one (l : List Val) (x : Val) : valsDs (l ++ [x]) = valsDs l ++ valDs x := by
  induction l with
  | nil => simp [valsDs]
  | cons y r ih => simp [valsDs, ih]
/-- A tree has come behind the trees. -/
theorem PInv.val (h : PInv w G B vc xc ka va Ak ck Al cl wr) {us : List Value} (hu : wr.ownsRow (w.heap.size + 4) 32 5 (.slice Al va.length cl) va.length us) (hr : RDv G B (valsDs va) us) {x : Val} {xs : List Value} (hx : RDv G B (valDs x) xs) {o : Obj} {v2 : Value} {w2 : World} (ho : w2.ownsRow (w.heap.size + 4) 32 5 v2 (va.length + 1) (us ++ xs)) (hg : (wr.alloc o).grownBy w2 (Value.slice Al va.length cl).ownBlock) (ha : v2.ownBlock = (Value.slice Al va.length cl).ownBlock ∨ v2.ownBlock = some (wr.alloc o).heap.size) :
    ∃ A c, v2 = .slice A (va ++ [x]).length c ∧ Blk w2 (w.heap.size + 1 + 1 + 1) 32 [.int .i64 6, .int .i64 0, .string ⟨#[]⟩, .slice Ak ka.length ck, .slice Al va.length cl] ∧
      PInv w G B vc xc ka (va ++ [x]) Ak ck A c (w2.setCell ⟨w.heap.size + 1 + 1 + 1, 4, none⟩ (.slice A (va ++ [x]).length c)) := by
  obtain ⟨A, c, rfl⟩ := slice_of_owns ho
  have hlen : (va ++ [x]).length = va.length + 1 := by simp
  have hz := h.size
  have hz2 := hg.size
  simp at hz2
  have hlk : ∀ q, (Value.slice Al va.length cl).ownBlock = some q → w.heap.size + 4 ≤ q ∧ q < wr.heap.size := fun q hq => hu.lt q hq
  have hkk : ∀ q, (Value.slice Ak ka.length ck).ownBlock = some q → w.heap.size + 4 ≤ q ∧ q < wr.heap.size := fun q hq => World.ownsRow.lt h.rk q hq
  have same : ∀ b, b < wr.heap.size → (Value.slice Al va.length cl).ownBlock ≠ some b → w2.heap[b]? = wr.heap[b]? := fun b hb hn => (hg.block b (by simp; omega) (fun e => hn e.symm)).trans (Below.heap_alloc _ _ _ hb)
  have low : ∀ b, b < w.heap.size + 4 → w2.heap[b]? = wr.heap[b]? := fun b hb => same b (by omega) (fun e => by have := hlk b e; omega)
  have hb2 : Below w.heap.size w w2 := ⟨hg.os.trans h.bel.os, hg.tape.trans h.bel.tape, hg.output.trans h.bel.output, by have := h.bel.size; omega, fun b hb => (low b (by omega)).trans (h.bel.block b hb)⟩
  have hbo := h.bo.same (low _ (by omega))
  refine ⟨A, c, by rw [hlen], hbo, ?_⟩
  have hk2 : w2.ownsRow (w.heap.size + 4) 9 1 (.slice Ak ka.length ck) ka.length (ka.map Value.string) := (World.ownsRow.alloc h.rk o).kept hg (Classical.or_iff_not_imp_left.2 fun hn e => by
    obtain ⟨q, hq⟩ := Option.ne_none_iff_exists'.1 hn
    exact h.ne q hq (e ▸ hq))
  have hf : ∀ g, g ≠ w.heap.size + 1 + 1 + 1 → (w2.setCell ⟨w.heap.size + 1 + 1 + 1, 4, none⟩ (.slice A (va ++ [x]).length c)).heap[g]? = w2.heap[g]? := fun g hgn => Below.heap_setCell _ _ _ _ hgn
  refine ⟨hb2.setCell (by show w.heap.size ≤ w.heap.size + 1 + 1 + 1; omega) _, by simp [World.setCell]; omega, (h.bv.same (low _ (by omega))).same (hf _ (by omega)), (h.bx.same (low _ (by omega))).same (hf _ (by omega)), (h.br.same (low _ (by omega))).same (hf _ (by omega)), hbo.set_ 4 _, owns_set hk2 (by show w.heap.size + 1 + 1 + 1 < _; omega), ⟨us ++ xs, ?_, ?_⟩, fun q hq hl => ?_⟩
  · rw [hlen]
    exact owns_set ho (by show w.heap.size + 1 + 1 + 1 < _; omega)
  · rw [valsDs_one]
    exact RDv.append_iff.2 ⟨us, xs, rfl, hr, hx⟩
  · rw [hlen] at hl
    have := hkk q hq
    rcases ha with ha | ha
    · rw [ha] at hl
      exact h.ne q hq hl
    · rw [ha] at hl
      injection hl with hl
      simp at hl
      omega
theorem PInv.key' (h : PInv w G B vc xc ka va Ak ck Al cl wr) {key : ByteArray} {o : Obj} {v2 : Value} {w2 : World} (ho : w2.ownsRow (w.heap.size + 4) 9 1 v2 (ka.length + 1) (ka.map Value.string ++ [.string key])) (hg : (wr.alloc o).grownBy w2 (Value.slice Ak ka.length ck).ownBlock) (ha : v2.ownBlock = (Value.slice Ak ka.length ck).ownBlock ∨ v2.ownBlock = some (wr.alloc o).heap.size) :
    ∃ A c ka', v2 = .slice A ka'.length c ∧ Hid (ka' = ka ++ [key]) ∧ Hid (Blk w2 (w.heap.size + 1 + 1 + 1) 32 [.int .i64 6, .int .i64 0, .string ⟨#[]⟩, .slice Ak ka.length ck, .slice Al va.length cl]) ∧
      Hid (PInv w G B vc xc ka' va A c Al cl (w2.setCell ⟨w.heap.size + 1 + 1 + 1, 3, none⟩ (.slice A ka'.length c))) := by
  obtain ⟨A, c, h1, h2, h3⟩ := h.key ho hg ha
  exact ⟨A, c, ka ++ [key], h1, rfl, h2, h3⟩
theorem PInv.val' (h : PInv w G B vc xc ka va Ak ck Al cl wr) {us : List Value} (hu : wr.ownsRow (w.heap.size + 4) 32 5 (.slice Al va.length cl) va.length us) (hr : RDv G B (valsDs va) us) {x : Val} {xs : List Value} (hx : RDv G B (valDs x) xs) {o : Obj} {v2 : Value} {w2 : World} (ho : w2.ownsRow (w.heap.size + 4) 32 5 v2 (va.length + 1) (us ++ xs)) (hg : (wr.alloc o).grownBy w2 (Value.slice Al va.length cl).ownBlock) (ha : v2.ownBlock = (Value.slice Al va.length cl).ownBlock ∨ v2.ownBlock = some (wr.alloc o).heap.size) :
    ∃ A c va', v2 = .slice A va'.length c ∧ Hid (va' = va ++ [x]) ∧ Hid (Blk w2 (w.heap.size + 1 + 1 + 1) 32 [.int .i64 6, .int .i64 0, .string ⟨#[]⟩, .slice Ak ka.length ck, .slice Al va.length cl]) ∧
      Hid (PInv w G B vc xc ka va' Ak ck A c (w2.setCell ⟨w.heap.size + 1 + 1 + 1, 4, none⟩ (.slice A va'.length c))) := by
  obtain ⟨A, c, h1, h2, h3⟩ := h.val hu hr hx ho hg ha
  exact ⟨A, c, va ++ [x], h1, rfl, h2, h3⟩
/-- The boxed element of an append. -/
theorem boxed_reads (w : World) (t : TypeId) (cs : List Value) (n : Nat) (hn : cs.length = n) : Reads (w.alloc (.cells cs.toArray t)) (w.heap.size + 1) n (some ⟨w.heap.size, 0, none⟩) 1 cs :=
  ⟨by omega, fun _ => ⟨_, rfl, by show w.heap.size < _; omega, fun i u hi => by
    rw [show (⟨w.heap.size, 0, none⟩ : Addr).add i = ⟨w.heap.size, i, none⟩ by unfold Addr.add; split <;> simp_all, (Blk.new w t cs).cell]
    exact hi⟩⟩
theorem zip_snoc {α β : Type} {a : List α} {b : List β} (h : a.length = b.length) (x : α) (y : β) : (a ++ [x]).zip (b ++ [y]) = a.zip b ++ [(x, y)] := by
  rw [List.zip_append h]
  rfl
theorem zip_drop_at {α β : Type} {a : List α} {b : List β} {k : Nat} {x : α} {y : β} (ha : a.drop k = x :: a.drop (k + 1)) (hb : b.drop k = y :: b.drop (k + 1)) : (a.zip b).drop k = (x, y) :: (a.zip b).drop (k + 1) := by
  unfold List.zip
  rw [List.drop_zipWith, List.drop_zipWith, ha, hb]
  rfl
end
theorem putP_mem {p : ByteArray × Val} {k : ByteArray} {x : Val} : ∀ {l : List (ByteArray × Val)}, p ∈ putP l k x → p = (k, x) ∨ p ∈ l
  | [], h => .inl (by simpa [putP] using h)
  | (k', x') :: _, h => by
    rw [putP] at h
    split at h
    · rcases List.mem_cons.1 h with h | h
      · exact .inr (h ▸ List.mem_cons_self)
      · exact (putP_mem h).imp id (List.mem_cons_of_mem _)
    · split at h
      · rcases List.mem_cons.1 h with h | h
        · exact .inl h
        · exact .inr (List.mem_cons_of_mem _ h)
      · rcases List.mem_cons.1 h with h | h
        · exact .inl h
        · exact .inr h
theorem strDs_rd (w : World) (B : Nat) : ∀ {ks : List ByteArray}, (∀ s ∈ ks, s.size ≤ 9223372036854775807) → RDv w B (strDs ks) (ks.map Value.string)
  | [], _ => rfl
  | s :: _, h => ⟨_, _, rfl, ⟨rfl, h s List.mem_cons_self⟩, strDs_rd w B fun t ht => h t (List.mem_cons_of_mem _ ht)⟩
theorem rd_of_owns {w : World} {base sz n c : Nat} {e : TypeId} {A : Option Addr} {us : List Value} {ds : List Dat} (h : w.ownsRow base e sz (.slice A n c) n us) (hr : RDv w w.heap.size ds us) : RD w w.heap.size (.row sz n ds) (.slice A n c) := by
  obtain ⟨f0, h1, _, _⟩ := owns_osl h
  obtain ⟨A', c', h2, h3, h4, h5⟩ := h1.reads h1.lt
  injection h2 with e1 _ e2
  subst e1 e2
  rcases h3 with h3 | h3
  · exact ⟨_, _, us, rfl, h3, h4, h5, hr⟩
  · exact ⟨_, _, us, rfl, by omega, h4, h5, hr⟩
theorem owns_setAll {base sz n : Nat} {e : TypeId} {v : Value} {us : List Value} : ∀ (xs : List Value) {w : World} {g o : Nat}, w.ownsRow base e sz v n us → g < base → (setAll w g o xs).ownsRow base e sz v n us
  | [], _, _, _, h, _ => h
  | _ :: xs, _, _, _, h, hg => owns_setAll xs (owns_set h hg) hg
/-- What comes out. -/
theorem PInv.result {w G : World} {B : Nat} {vc xc : List Value} {ka : List ByteArray} {va : List Val} {Ak Al : Option Addr} {ck cl : Nat} {wr : World} {l : List (ByteArray × Val)} (h : PInv w G B vc xc ka va Ak ck Al cl wr) (hB : B ≤ w.heap.size) (hlen : ka.length = va.length) (hz : ka.zip va = l) (hs : ∀ p ∈ l, p.1.size ≤ 9223372036854775807) (P : Ending → World → Prop)
    (hP : ∀ vs W, (∀ W', Sub B G W' → (∀ b, w.heap.size ≤ b → b < W.heap.size → W'.heap[b]? = W.heap[b]?) → W'.heap.size = W.heap.size → RDv W' W'.heap.size (valDs (ofPairs l)) vs) → Below w.heap.size w W → P (.returned (.agg vs.toArray)) W) :
    P (.returned (.agg #[.int .i64 6, .int .i64 0, .string ⟨#[]⟩, .slice Ak ka.length ck, .slice Al va.length cl])) (setAll wr (w.heap.size + 1 + 1) 0 [.int .i64 6, .int .i64 0, .string ⟨#[]⟩, .slice Ak ka.length ck, .slice Al va.length cl]) := by
  have e1 : l.map (·.1) = ka := by rw [← hz]; exact List.map_fst_zip (by omega)
  have e2 : l.map (·.2) = va := by rw [← hz]; exact List.map_snd_zip (by omega)
  have hsz := h.size
  obtain ⟨us, hu1, hu2⟩ := h.rv
  refine hP [.int .i64 6, .int .i64 0, .string ⟨#[]⟩, .slice Ak ka.length ck, .slice Al va.length cl] _ (fun W' hG hW hZ => ?_) (setAll_below _ (by omega) h.bel)
  rw [setAll_size] at hZ hW
  have keep : ∀ {e : TypeId} {sz n : Nat} {v : Value} {xs : List Value}, wr.ownsRow (w.heap.size + 4) e sz v n xs → W'.ownsRow (w.heap.size + 4) e sz v n xs := fun {e sz n v xs} ho => by
    obtain ⟨a1, a2⟩ := owns_setAll (g := w.heap.size + 1 + 1) (o := 0) [.int .i64 6, .int .i64 0, .string ⟨#[]⟩, .slice Ak ka.length ck, .slice Al va.length cl] ho (by omega)
    refine ⟨a1, ?_⟩
    rcases a2 with a2 | ⟨g, cap, cur, e1, e2, e3, r⟩
    · exact .inl a2
    · refine .inr ⟨g, cap, cur, e1, e2, ?_, r⟩
      have hlt : g < wr.heap.size := by
        have h4 := (Array.getElem?_eq_some_iff.1 e3).1
        rwa [setAll_size] at h4
      rw [hW g (by omega) hlt]
      exact e3
  rw [ofPairs, valDs, e1, e2]
  refine ⟨_, _, rfl, rfl, _, _, rfl, rfl, _, _, rfl, ⟨rfl, by decide⟩, _, _, rfl, rd_of_owns (keep h.rk) (strDs_rd _ _ fun s hs' => ?_), _, _, rfl, rd_of_owns (keep hu1) (RDv.grow (by rw [hZ]; have := h.bel.size; omega) hG _ _ hu2), rfl⟩
  rw [← e1] at hs'
  obtain ⟨p, hp, rfl⟩ := List.mem_map.1 hs'
  exact hs p hp
end Go.Proofs.YtppfgepoegicgaaGreatDoor
namespace Go.Proofs.YtppfgepoegicgaaGreatDoor
open Go Go.RowKit

theorem putP_len (k : ByteArray) (x : Val) : ∀ l : List (ByteArray × Val), (putP l k x).length ≤ l.length + 1
  | [] => by simp [putP]
  | (k', x') :: r => by
    have := putP_len k x r
    rw [putP]
    split
    · simp; omega
    · split <;> simp
theorem putAll_snoc (p : ByteArray × Val) : ∀ (m l : List (ByteArray × Val)), putAll l (m ++ [p]) = putP (putAll l m) p.1 p.2
  | [], l => by obtain ⟨k, x⟩ := p; simp [putAll]
  | (k, x) :: r, l => by simp only [List.cons_append, putAll]; exact putAll_snoc p r _
theorem putP_low {k : ByteArray} {x : Val} {t : ByteArray} (h1 : Op.bytesLess t.toList k.toList = true) {l : List (ByteArray × Val)} (h : ∀ u ∈ l.map (·.1), Op.bytesLess t.toList u.toList = true) : ∀ u ∈ (putP l k x).map (·.1), Op.bytesLess t.toList u.toList = true := fun u hu => by
  obtain ⟨p, hp, rfl⟩ := List.mem_map.1 hu
  rcases putP_mem hp with rfl | hp
  · exact h1
  · exact h _ (List.mem_map.2 ⟨p, hp, rfl⟩)
theorem putP_strict (k : ByteArray) (x : Val) : ∀ {l : List (ByteArray × Val)}, Strict (l.map (·.1)) → Strict ((putP l k x).map (·.1))
  | [], _ => by simp [putP, Strict]
  | (k', x') :: r, h => by
    obtain ⟨h1, h2⟩ := strict_tail h
    rw [putP]
    split
    · next hk => exact List.pairwise_cons.2 ⟨putP_low hk h2, putP_strict k x h1⟩
    · next hk =>
      split
      · next he => subst he; exact List.pairwise_cons.2 ⟨h2, h1⟩
      · next hne =>
        have hlt : Op.bytesLess k.toList k'.toList = true := by
          rcases bl_tri k'.toList k.toList with h | h | h
          · exact absurd h hk
          · exact absurd (str_inj h) hne
          · exact h
        refine List.pairwise_cons.2 ⟨fun u hu => ?_, h⟩
        rcases List.mem_cons.1 hu with rfl | hu
        · exact hlt
        · exact bl_trans _ _ _ hlt (h2 u hu)
theorem putP_cnt (k : ByteArray) (x : Val) : ∀ l : List (ByteArray × Val), valsCnt ((putP l k x).map (·.2)) ≤ valsCnt (l.map (·.2)) + valCnt x
  | [] => by simp [putP, valsCnt]
  | (k', x') :: r => by
    have := putP_cnt k x r
    rw [putP]
    split
    · simp only [List.map_cons, valsCnt]; omega
    · split <;> simp only [List.map_cons, valsCnt] <;> omega
theorem ofPairs_pairs {ks : List ByteArray} {l : List Val} (h : ks.length = l.length) : ofPairs (ks.zip l) = .mk 6 0 ⟨#[]⟩ ks l := by
  rw [ofPairs, List.map_fst_zip (by omega), List.map_snd_zip (by omega)]
theorem pairs_of (l : List (ByteArray × Val)) : vPairs (ofPairs l) = l := by
  simp only [vPairs, ofPairs, vKeys, vList]
  induction l with
  | nil => rfl
  | cons p r ih => simp only [List.map_cons, List.zip_cons_cons, ih]
theorem addV_told {a b : Val} (h1 : vKind a ≠ 0) (h2 : vKind b ≠ 0) (h3 : vKind a = vKind b) : addV a b = toldV (addRaw a b) := by
  unfold addV
  rw [if_neg h1, if_neg h2, if_neg (fun h => h h3)]
/-- After so many puts. -/
def PutAt (a b : List (ByteArray × Val)) (k : Nat) (c : List (ByteArray × Val)) : Prop :=
  c = putAll a (b.take k) ∧ Strict (c.map (·.1)) ∧ c.length ≤ a.length + k ∧ valsCnt (c.map (·.2)) ≤ valsCnt (a.map (·.2)) + valsCnt ((b.take k).map (·.2))
theorem PutAt.start {a b : List (ByteArray × Val)} (h : Strict (a.map (·.1))) : PutAt a b 0 a := ⟨by simp [putAll], h, by omega, by simp [valsCnt]⟩
theorem valsCnt_app : ∀ l m : List Val, valsCnt (l ++ m) = valsCnt l + valsCnt m
  | [], m => by simp [valsCnt]
  | x :: r, m => by simp only [List.cons_append, valsCnt, valsCnt_app r m]; omega
theorem PutAt.step {a b c : List (ByteArray × Val)} {k : Nat} {p : ByteArray × Val} (h : PutAt a b k c) (hd : b.drop k = p :: b.drop (k + 1)) : PutAt a b (k + 1) (putP c p.1 p.2) := by
  obtain ⟨h1, h2, h3, h4⟩ := h
  have ht : b.take (k + 1) = b.take k ++ [p] := by
    have hg : b[k]? = some p := by
      have := congrArg (fun l => l[0]?) hd
      simpa [List.getElem?_drop] using this
    rw [List.take_add_one, hg]; rfl
  refine ⟨by rw [ht, putAll_snoc, h1], putP_strict _ _ h2, ?_, ?_⟩
  · have := putP_len p.1 p.2 c; omega
  · have := putP_cnt p.1 p.2 c
    rw [ht, List.map_append, valsCnt_app]
    simp only [List.map_cons, List.map_nil, valsCnt] at *
    omega
theorem PutAt.done {a b c : List (ByteArray × Val)} (h : PutAt a b b.length c) : c = putAll a b := by
  have := h.1
  rwa [List.take_length] at this
theorem owns_far {w : World} {base sz n : Nat} {e : TypeId} {v : Value} {us : List Value} (h : w.ownsRow base e sz v n us) {p : Addr} (hp : v.ownBlock ≠ some p.block) {u : Value} : (w.setCell p u).ownsRow base e sz v n us := by
  obtain ⟨a1, a2⟩ := h
  refine ⟨a1, ?_⟩
  rcases a2 with a2 | ⟨g, cap, cur, e1, e2, e3, r⟩
  · exact .inl a2
  · refine .inr ⟨g, cap, cur, e1, e2, ?_, r⟩
    rw [Below.heap_setCell w p u g (fun e => hp (by rw [e1, ← e]; rfl))]
    exact e3
theorem rdv_mk {w : World} {B : Nat} {kind n : Int} {s : ByteArray} {keys : List ByteArray} {list : List Val} {c3 c4 : Value} (hs : s.size ≤ 9223372036854775807) (hk : RD w B (.row 1 keys.length (strDs keys)) c3) (hl : RD w B (.row 5 list.length (valsDs list)) c4) :
    RDv w B (valDs (.mk kind n s keys list)) [.int .i64 kind, .int .i64 n, .string s, c3, c4] := ⟨_, _, rfl, rfl, _, _, rfl, rfl, _, _, rfl, ⟨rfl, hs⟩, _, _, rfl, hk, _, _, rfl, hl, rfl⟩
theorem PTwo.split {r : Option Val} {w w' : World} {e : Ending} (h : PTwo r w e w') :
    (∃ v d0 d1 d2 A3 n3 c3 A4 n4 c4 fp, r = some v ∧ e = .returned (.tuple #[.agg #[.int .i64 d0, .int .i64 d1, .string d2, .slice A3 n3 c3, .slice A4 n4 c4], .bool true]) ∧ Hid (ODv w' (valDs v) [.int .i64 d0, .int .i64 d1, .string d2, .slice A3 n3 c3, .slice A4 n4 c4] fp) ∧ Hid (Fresh w w' fp) ∧ Below w.heap.size w w') ∨
    (r = none ∧ e = .returned (.tuple #[.agg #[.int .i64 0, .int .i64 0, .string ⟨#[]⟩, .slice none 0 0, .slice none 0 0], .bool false]) ∧ Below w.heap.size w w') := by
  rcases h with ⟨v, vs, fp, h1, rfl, h3, h4, h5⟩ | h
  · obtain ⟨d0, d1, d2, A3, n3, c3, A4, n4, c4, rfl⟩ := valDs_shape h3.rd'
    exact .inl ⟨v, d0, d1, d2, A3, n3, c3, A4, n4, c4, fp, h1, rfl, h3, h4, h5⟩
  · exact .inr h
/-- What a copy is made of. -/
theorem copy_open {w w' : World} {kind n : Int} {s : ByteArray} {keys : List ByteArray} {list : List Val} {vs : List Value} {fp : List Nat} (ho : ODv w' (valDs (.mk kind n s keys list)) vs fp) (hr : CopyRow w w' (.mk kind n s keys list) vs) :
    ∃ A3 c3 A4 c4 x, vs = [.int .i64 kind, .int .i64 n, .string s, .slice A3 keys.length c3, .slice A4 list.length c4] ∧ RD w' w'.heap.size (.row 1 keys.length (strDs keys)) (.slice A3 keys.length c3) ∧ RD w' w'.heap.size (.row 5 list.length (valsDs list)) (.slice A4 list.length c4) ∧
    Acc x w.heap.size 32 5 w' (.slice A4 list.length c4) list.length (valsDs list) := by
  obtain ⟨_, _, _, _, _, A3, c3, A4, c4, ev, rfl, _, hk, hl⟩ := valDs_open ho.rd'
  injection ev with e1 e2 e3 e4 e5
  subst e1 e2 e3 e4 e5
  obtain ⟨x, _, _, _, _, _, _, A4', n4', c4', l, ev, ⟨_, ev2⟩, hA⟩ := hr
  injection ev2 with e1 e2 e3 e4 e5
  subst e5
  simp only [List.cons.injEq, Value.slice.injEq] at ev
  obtain ⟨-, -, -, -, ⟨rfl, rfl, rfl⟩, -⟩ := ev
  exact ⟨A3, c3, A4, _, x, rfl, hk, hl, hA⟩
theorem vpush (a b : List Val) : valsDs (a ++ b) = valsDs a ++ valsDs b := by
  induction a with
  | nil => rfl
  | cons x r ih => simp [valsDs, ih]
/-- Behind the append of a row that is read onto the copy's own. -/
theorem add_row {w w2 w3 w4 w5 : World} {o : Obj} {B n1 n2 c8 : Nat} {l1 l2 : List Val} {A8 : Option Addr} {us1 us2 : List Value} {f1 : List Nat} {v2 : Value} (e4 : w4 = w3.alloc o) (hW : Below w.heap.size w w4) (hw2 : w.heap.size ≤ w2.heap.size) (hw3 : w2.heap.size ≤ w3.heap.size) (hB : B ≤ w.heap.size)
    (how : w3.ownsRow w2.heap.size 32 5 (.slice A8 n1 c8) n1 us1) (hod : ODv w3 (valsDs l1) us1 f1) (hfp : ∀ b ∈ f1, w2.heap.size ≤ b ∧ b < w3.heap.size ∧ (Value.slice A8 n1 c8).ownBlock ≠ some b) (hr2 : RDv w B (valsDs l2) us2)
    (hown : w5.ownsRow w2.heap.size 32 5 v2 (n1 + n2) (us1 ++ us2)) (hg : w4.grownBy w5 (Value.slice A8 n1 c8).ownBlock) (hat : v2.ownBlock = (Value.slice A8 n1 c8).ownBlock ∨ v2.ownBlock = some w4.heap.size) :
    ∃ A c, v2 = .slice A (n1 + n2) c ∧ Below w.heap.size w w5 ∧ (∀ b, b < w4.heap.size → (b < w2.heap.size ∨ w3.heap.size ≤ b) → w5.heap[b]? = w4.heap[b]?) ∧
      ∀ i u, RD (w5.setCell ⟨w3.heap.size, i, none⟩ u) (w5.setCell ⟨w3.heap.size, i, none⟩ u).heap.size (.row 5 (n1 + n2) (valsDs (l1 ++ l2))) v2 := by
  have hz4 : w4.heap.size = w3.heap.size + 1 := by rw [e4]; simp
  have hlt := how.lt
  have hsame : ∀ b, b < w4.heap.size → (b < w2.heap.size ∨ w3.heap.size ≤ b) → w5.heap[b]? = w4.heap[b]? := fun b hb h => hg.block b hb fun e => by
    have := hlt b e.symm
    omega
  have hB5 : Below w.heap.size w w5 := ⟨hg.os.trans hW.os, hg.tape.trans hW.tape, hg.output.trans hW.output, Nat.le_trans hW.size hg.size, fun b hb => (hsame b (by omega) (.inl (by omega))).trans (hW.block b hb)⟩
  obtain ⟨A, c, rfl⟩ := slice_of_owns hown
  refine ⟨A, c, rfl, hB5, hsame, fun i u => rd_of_owns (owns_far hown fun e => ?_) ?_⟩
  · rcases hat with h | h
    · have := hlt _ (h.symm.trans e)
      exact absurd this.2 (by show ¬ w3.heap.size < w3.heap.size; omega)
    · rw [h] at e
      injection e with e
      have e' : w4.heap.size = w3.heap.size := e
      omega
  · rw [vpush]
    have hsz : (w5.setCell ⟨w3.heap.size, i, none⟩ u).heap.size = w5.heap.size := by simp [World.setCell]
    refine RDv.append_iff.2 ⟨us1, us2, rfl, ?_, ?_⟩
    · refine (ODv.keep _ _ _ (fun b hb => ?_) hod).rd'
      obtain ⟨h1, h2, h3⟩ := hfp b hb
      rw [Below.heap_setCell _ _ _ _ (by show b ≠ w3.heap.size; omega), hg.block b (by omega) (fun e => h3 e.symm), e4, Below.heap_alloc _ _ _ h2]
    · refine hr2.upto ((hB5.mono hB).setCell (by show B ≤ w3.heap.size; omega) _) ?_
      rw [hsz]
      have := hB5.size
      omega
/-- The sum of maps that grows in a variable of its own. -/
structure AddInv (w4 : World) (o : Nat) (c : List (ByteArray × Val)) (cells : List Value) (wr : World) : Prop where
  upd : Upd [o] w4 wr
  blk : Blk wr o 32 cells
  rd : RDv (bare wr o) wr.heap.size (valDs (ofPairs c)) cells
theorem AddInv.shape {w4 : World} {o : Nat} {c : List (ByteArray × Val)} {cells : List Value} {wr : World} (h : AddInv w4 o c cells wr) : ∃ A m q A' m' q', cells = [.int .i64 6, .int .i64 0, .string ⟨#[]⟩, .slice A m q, .slice A' m' q'] := by
  obtain ⟨_, _, _, _, _, A3, c3, A4, c4, ev, rfl, _⟩ := valDs_open h.rd
  injection ev with e1 e2 e3 e4 e5
  subst e1 e2 e3
  exact ⟨_, _, _, _, _, _, rfl⟩
theorem AddInv.start {w3 w4 : World} {c : List (ByteArray × Val)} {cells : List Value} (e4 : w4 = w3.alloc (.cells cells.toArray 32)) (h : RDv w3 w3.heap.size (valDs (ofPairs c)) cells) : AddInv w4 w3.heap.size c cells w4 := by
  refine ⟨Upd.refl _ _, by rw [e4]; exact Blk.new _ _ _, RDv.grow (by rw [e4]; simp) (sub_bare (Nat.le_refl _) (Sub.of_below (by rw [e4]; exact below_box _ _))) _ _ h⟩
theorem AddInv.step {w4 wr w5 : World} {o : Nat} {c c' : List (ByteArray × Val)} {cells cells' : List Value} (h : AddInv w4 o c cells wr) (hl : cells.length = cells'.length) (hb : Below wr.heap.size wr w5)
    (hr : ∀ W', Sub wr.heap.size (bare wr o) W' → (∀ b, wr.heap.size ≤ b → b < w5.heap.size → W'.heap[b]? = w5.heap[b]?) → W'.heap.size = w5.heap.size → RDv W' W'.heap.size (valDs (ofPairs c')) cells') : AddInv w4 o c' cells' (setAll w5 o 0 cells') := by
  have hlt := h.blk.lt
  refine ⟨(h.upd.trans (Upd.of_below hb)).trans ?_, ?_, ?_⟩
  · have : ∀ (us : List Value) (W : World) (i : Nat), Upd [o] W (setAll W o i us) := fun us => by
      induction us with
      | nil => exact fun W i => Upd.refl _ _
      | cons u r ih => exact fun W i => (Upd.setCell W (p := ⟨o, i, none⟩) (List.mem_singleton.2 rfl) u).trans (ih _ _)
    exact this _ _ _
  · have := Blk.setAll cells' (pre := []) (old := cells) (rest := []) hl (by simpa using h.blk.below hb)
    simpa using this
  · have h2 := hr (bare (setAll w5 o 0 cells') o) ?_ ?_ ?_
    · rwa [bare_size] at h2
    · exact bare_to fun b hb' hn => (setAll_other _ _ _ _ _ hn).trans (hb.block b hb')
    · exact fun b h1 _ => (bare_block _ (by omega)).trans (setAll_other _ _ _ _ _ (by omega))
    · rw [bare_size, setAll_size]
/-- A told tree, from the world ahead of what was laid out. -/
theorem clean_of {kind n : Int} {s : ByteArray} {keys : List ByteArray} {list : List Val} (h : ValOk (.mk kind n s keys list)) : Clean kind n s keys list ∧ (0 ≤ kind ∧ kind ≤ 6) ∧ (-1000000 ≤ n ∧ n ≤ 1000000) ∧ s.size ≤ 12 ∧ keys.length ≤ 60 ∧ list.length ≤ 60 ∧ (kind = 6 → keys.length = list.length ∧ Strict keys) := by
  obtain ⟨⟨⟨hc, hk, hn, hs, h6⟩, _⟩, hcnt⟩ := h
  have h1 := valsCnt_len list
  simp only [valCnt] at hcnt
  refine ⟨hc, hk, hn, hs.2, ?_, by omega, fun e => ⟨(h6 e).1, strict_of_keys (h6 e).2⟩⟩
  by_cases e : kind = 6
  · have := (h6 e).1
    omega
  · rw [hc.2.2.1 e]; simp
end Go.Proofs.YtppfgepoegicgaaGreatDoor
