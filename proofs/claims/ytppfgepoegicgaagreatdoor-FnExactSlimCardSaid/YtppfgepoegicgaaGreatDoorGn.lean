/- slices.Clone of a row of texts, and of trees: the cells in a row of one's own. -/
import Derived.Test.YtppfgepoegicgaaGreatDoorGf
import Derived.Test.YtppfgepoegicgaaGreatDoorZCopyV
import Derived.Lib.SliceRun
import Derived.Laws.CopyRow
import Derived.Lib.Overlaps
import Derived.Lib.AppendZerosOnto
import Derived.Lib.AppendZeros
import Derived.Shelf.Spec.SlicesInsert
import Derived.Test.YtppfgepoegicgaaGreatDoorGk
import Derived.Deep.LoopGhost
namespace Go.Proofs.YtppfgepoegicgaaGreatDoor
open Go Go.RowKit

set_option maxRecDepth 100000 in
set_option maxHeartbeats 2000000 in
theorem cloneStr_calls (T : Option Addr) (n ct : Nat) (us : List Value) (w : World) (B : Nat) (hB : B ≤ w.heap.size) (hr : Reads w B 1 T n us) (hone : ∀ u ∈ us, u.oneCell' = true) (hn : n ≤ 1048576) :
    Calls Tryz.prog 97 #[.slice T n ct] w fun e w' => ∃ (T' : Option Addr) (n' c' : Nat), e = .returned (.slice T' n' c') ∧ w'.ownsRow w.heap.size 9 1 (.slice T' n' c') n us ∧ Below w.heap.size w w' := by
  obtain ⟨iK, hiK, zK0, zK1, zK2⟩ := info_parts' Tryz.info_string
  have q : ∀ (w : World) (a : Option Addr) (n c n' c' : Nat), (binOp .eql 22 (.slice a n c) (.slice none n' c')).run Tryz.prog w = .ok (.bool a.isNone) w := fun w a n c n' c' => Lib.run_eql_slice_nil w _ _ a n c n' c' Tryz.underlying22
  have HR := Lib.hid hr
  have HONE := Lib.hid hone
  clear hr hone
  cases T with
  | none =>
    have h0 : n = 0 := Classical.byContradiction fun h => by
      obtain ⟨ad, e, _⟩ := HR.out.2 (by omega)
      cases e
    subst h0
    have HU := Lib.hid (show us = [] from List.eq_nil_of_length_eq_zero (by simpa using HR.out.1))
    go_enter Tryz.func97, Tryz.ntmps97
    go_wp2
    go_ret
    exact ⟨_, _, _, rfl, by rw [HU.out]; exact World.ownsRow_nil _ _ _ _, Below.refl _ _⟩
  | some ad =>
    have HO := Lib.hid (World.ownsRow_made (base := w.heap.size) (e := 9) (size := 1) w #[] 0 (Nat.le_refl _) (by unfold maxLen; omega) (by simp))
    have HRA := Lib.hid (show Reads (w.alloc (.cells #[] 9)) B 1 (some ad) n us from Reads.keep HR.out fun p hp => (below_box w _).cell (by omega))
    go_enter Tryz.func97, Tryz.ntmps97
    go_wp2_with (at_builtin; go_loud (refine wpList_append_reads _ rfl _ _ 22 rfl w.heap.size 9 iK _ 1 16 Tryz.underlying22 hiK zK0 zK1 zK2 rfl (by decide) _ 0 [] (by rfl) HO.out _ n ct B us (by rfl) HRA.out HONE.out (by unfold maxLen; omega) (by omega) (by simp <;> omega) ?_; intro v7 w7 hown7 hg7 hat7; obtain ⟨A7, n7, q7, rfl⟩ := owns_shape hown7; have HW7 := Lib.hid hown7; have HB7 := Lib.hid (grown_new hg7); clear hown7 hg7 hat7))
    go_wp2
    go_ret
    exact ⟨_, _, _, rfl, by simpa using HW7.out, HB7.out.1⟩
set_option maxRecDepth 100000 in
set_option maxHeartbeats 2000000 in
theorem cloneVal_calls (T : Option Addr) (n ct : Nat) (us : List Value) (w : World) (B : Nat) (hB : B ≤ w.heap.size) (hr : Reads w B 5 T n us) (hone : ∀ u ∈ us, u.oneCell' = true) (hn : n ≤ 1048576) :
    Calls Tryz.prog 98 #[.slice T n ct] w fun e w' => ∃ (T' : Option Addr) (n' c' : Nat), e = .returned (.slice T' n' c') ∧ w'.ownsRow w.heap.size 32 5 (.slice T' n' c') n us ∧ Below w.heap.size w w' := by
  obtain ⟨iK, hiK, zK0, zK1, zK2⟩ := info_parts' Tryz.info_Val
  have q : ∀ (w : World) (a : Option Addr) (n c n' c' : Nat), (binOp .eql 30 (.slice a n c) (.slice none n' c')).run Tryz.prog w = .ok (.bool a.isNone) w := fun w a n c n' c' => Lib.run_eql_slice_nil w _ _ a n c n' c' Tryz.underlying30
  have HR := Lib.hid hr
  have HONE := Lib.hid hone
  clear hr hone
  cases T with
  | none =>
    have h0 : n = 0 := Classical.byContradiction fun h => by
      obtain ⟨ad, e, _⟩ := HR.out.2 (by omega)
      cases e
    subst h0
    have HU := Lib.hid (show us = [] from List.eq_nil_of_length_eq_zero (by simpa using HR.out.1))
    go_enter Tryz.func98, Tryz.ntmps98
    go_wp2
    go_ret
    exact ⟨_, _, _, rfl, by rw [HU.out]; exact World.ownsRow_nil _ _ _ _, Below.refl _ _⟩
  | some ad =>
    have HO := Lib.hid (World.ownsRow_made (base := w.heap.size) (e := 32) (size := 5) w #[] 0 (Nat.le_refl _) (by unfold maxLen; omega) (by simp))
    have HRA := Lib.hid (show Reads (w.alloc (.cells #[] 32)) B 5 (some ad) n us from Reads.keep HR.out fun p hp => (below_box w _).cell (by omega))
    go_enter Tryz.func98, Tryz.ntmps98
    go_wp2_with (at_builtin; go_loud (refine wpList_append_reads _ rfl _ _ 30 rfl w.heap.size 32 iK _ 5 80 Tryz.underlying30 hiK zK0 zK1 zK2 rfl (by decide) _ 0 [] (by rfl) HO.out _ n ct B us (by rfl) HRA.out HONE.out (by unfold maxLen; omega) (by omega) (by simp <;> omega) ?_; intro v7 w7 hown7 hg7 hat7; obtain ⟨A7, n7, q7, rfl⟩ := owns_shape hown7; have HW7 := Lib.hid hown7; have HB7 := Lib.hid (grown_new hg7); clear hown7 hg7 hat7))
    go_wp2
    go_ret
    exact ⟨_, _, _, rfl, by simpa using HW7.out, HB7.out.1⟩
end Go.Proofs.YtppfgepoegicgaaGreatDoor
namespace Go.Proofs.YtppfgepoegicgaaGreatDoor
open Go Go.RowKit

theorem run_copy_n {P : Program} (w : World) (dT sT ty elem : TypeId) (g o dLen dCap : Nat) (a : Addr) (sLen sCap sz : Nat) (cur : Array Value) (t : TypeId) (cs : List Value)
    (hu : P.underlying dT = some (.slice elem)) (hs : (P.info? elem).map (·.size) = some sz)
    (hg : w.heap[g]? = some (.cells cur t (0, 0))) (hn : cs.length = Nat.min sLen dLen * sz)
    (hsrc : ∀ j v, cs[j]? = some v → w.cell? (a.add j) = some v) (hfit : o + cs.length ≤ cur.size) (h1 : ∀ v ∈ cs, v.oneCell' = true) :
    (Builtin.copy_ #[dT, sT] ty #[.slice (some ⟨g, o, none⟩) dLen dCap, .slice (some a) sLen sCap]).run P w =
      .ok (goInt (Nat.min sLen dLen)) (w.setRow g (cur.toList.take o ++ cs ++ cur.toList.drop (o + cs.length)).toArray) := by
  have hl := run_loadCells_list (P := P) w a cs hsrc
  have hst := run_storeCells_at P g o t cs 0 cur w hg (by simpa using hfit) h1
  cases hq : P.info? elem with
  | none => simp [hq] at hs
  | some i =>
    have hi : i.size = sz := by simpa [hq] using hs
    simp [Builtin.copy_, run_underlying hu, Builtin.lenOf, Builtin.firstCells, sizeOf, typeInfo, hq, hi, ← hn, hl, hst]
/-- Rows of cells: xs at o, then ys behind it. -/
theorem put_cells {L Z xs ys : List Value} {o k : Nat} (hL : L.length = o) (hx : xs.length = k) :
    (((L ++ Z).take o ++ xs ++ (L ++ Z).drop (o + k)).take (o + k) ++ ys ++ ((L ++ Z).take o ++ xs ++ (L ++ Z).drop (o + k)).drop (o + k + ys.length)) = L ++ xs ++ ys ++ Z.drop (k + ys.length) := by
  subst hL hx
  have e1 : (L ++ Z).take L.length = L := by simp
  have e2 : (L ++ Z).drop (L.length + xs.length) = Z.drop xs.length := by rw [List.drop_append]; simp
  rw [e1, e2]
  have e3 : (L ++ xs ++ Z.drop xs.length).take (L.length + xs.length) = L ++ xs := by rw [List.take_append_of_le_length (by simp)]; exact List.take_of_length_le (by simp)
  have e4 : (L ++ xs ++ Z.drop xs.length).drop (L.length + xs.length + ys.length) = Z.drop (xs.length + ys.length) := by
    rw [List.drop_append, List.drop_of_length_le (by simp), List.nil_append, List.drop_drop]
    congr 1
    simp
  rw [e3, e4]
/-- Rows of cells: what stands from o on moves k on, then xs comes at o. -/
theorem shift_cells {C D T xs : List Value} {o k : Nat} (hC : o + k ≤ C.length) (hx : xs.length = k) :
    ((C.take (o + k) ++ D ++ T).take o ++ xs ++ (C.take (o + k) ++ D ++ T).drop (o + xs.length)) = C.take o ++ xs ++ D ++ T := by
  subst hx
  rw [List.append_assoc (C.take _), List.take_append_of_le_length (by rw [List.length_take]; omega), List.take_take, Nat.min_eq_left (by omega), List.drop_append, List.drop_of_length_le (by rw [List.length_take]; omega), List.nil_append, show o + xs.length - (C.take (o + xs.length)).length = 0 by rw [List.length_take]; omega]
  simp
theorem below_setRow' {B g : Nat} {w0 w : World} (hb : Below B w0 w) (hg : B ≤ g) (cs : Array Value) : Below B w0 (w.setRow g cs) :=
  ⟨hb.os, hb.tape, hb.output, by simpa using hb.size, fun b hlt => (setRow_other _ _ _ _ (by omega)).trans (hb.block b hlt)⟩
end Go.Proofs.YtppfgepoegicgaaGreatDoor
namespace Go.Proofs.YtppfgepoegicgaaGreatDoor
open Go Go.RowKit

theorem putP_hit {k : ByteArray} {x y : Val} : ∀ (i : Nat) (l : List (ByteArray × Val)), (∀ p ∈ l.take i, Op.bytesLess p.1.toList k.toList = true) → l[i]? = some (k, y) → putP l k x = l.take i ++ (k, x) :: l.drop (i + 1)
  | _, [], _, h => by simp at h
  | 0, (k', y') :: r, _, h => by
    simp only [List.getElem?_cons_zero, Option.some.injEq, Prod.mk.injEq] at h
    obtain ⟨rfl, rfl⟩ := h
    rw [putP, if_neg (by rw [bl_irrefl]; simp), if_pos rfl]
    rfl
  | i + 1, (k', y') :: r, h1, h => by
    have h0 : Op.bytesLess k'.toList k.toList = true := h1 (k', y') (by simp)
    rw [putP, if_pos h0, putP_hit i r (fun p hp => h1 p (by simp [hp])) (by simpa using h)]
    rfl
theorem putP_miss {k : ByteArray} {x : Val} : ∀ (i : Nat) (l : List (ByteArray × Val)), i ≤ l.length → (∀ p ∈ l.take i, Op.bytesLess p.1.toList k.toList = true) → (∀ p, l[i]? = some p → Op.bytesLess p.1.toList k.toList = false ∧ p.1 ≠ k) → putP l k x = l.take i ++ (k, x) :: l.drop i
  | 0, [], _, _, _ => rfl
  | i + 1, [], h, _, _ => absurd h (by simp)
  | 0, (k', y') :: r, _, _, h => by
    obtain ⟨h1, h2⟩ := h (k', y') rfl
    rw [putP, if_neg (by rw [h1]; simp), if_neg h2]
    rfl
  | i + 1, (k', y') :: r, hl, h1, h => by
    have h0 : Op.bytesLess k'.toList k.toList = true := h1 (k', y') (by simp)
    rw [putP, if_pos h0, putP_miss i r (by simpa using hl) (fun p hp => h1 p (by simp [hp])) (fun p hp => h p (by simpa using hp))]
    rfl
/-- What a search for a key finds. -/
def BinAt (ks : List ByteArray) (key : ByteArray) (i : Nat) (b : Bool) : Prop :=
  i ≤ ks.length ∧ (∀ t ∈ ks.take i, Op.bytesLess t.toList key.toList = true) ∧ (∀ t, ks[i]? = some t → Op.bytesLess t.toList key.toList = false) ∧ (b = true ↔ ks[i]? = some key)
theorem take_zip_fst {ks : List ByteArray} {vs : List Val} (i : Nat) {p : ByteArray × Val} (hp : p ∈ (ks.zip vs).take i) : p.1 ∈ ks.take i := by
  unfold List.zip at hp
  rw [List.take_zipWith] at hp
  exact (List.of_mem_zip hp).1
theorem BinAt.hit {ks : List ByteArray} {vs : List Val} {key : ByteArray} {x : Val} {i : Nat} (h : BinAt ks key i true) (hl : ks.length = vs.length) : i < ks.length ∧ putP (ks.zip vs) key x = ks.zip (vs.take i ++ [x] ++ vs.drop (i + 1)) := by
  obtain ⟨h1, h2, h3, h4⟩ := h
  have hk : ks[i]? = some key := h4.1 rfl
  have hlt : i < ks.length := (List.getElem?_eq_some_iff.1 hk).1
  obtain ⟨y, hy⟩ : ∃ y, vs[i]? = some y := ⟨_, List.getElem?_eq_getElem (by omega)⟩
  refine ⟨hlt, ?_⟩
  rw [putP_hit (y := y) i _ (fun p hp => h2 _ (take_zip_fst i hp)) (by rw [List.getElem?_zip_eq_some]; exact ⟨hk, hy⟩)]
  have e : ks = ks.take i ++ ([key] ++ ks.drop (i + 1)) := by
    have := List.take_append_drop i ks
    rw [List.drop_eq_getElem_cons hlt] at this
    have h5 : ks[i] = key := by rw [List.getElem?_eq_getElem hlt] at hk; injection hk
    rw [h5] at this
    exact this.symm
  conv => rhs; rw [e]
  rw [List.append_assoc, List.zip_append (by simp; omega)]
  unfold List.zip
  rw [List.take_zipWith, List.drop_zipWith]
  rfl
theorem BinAt.miss {ks : List ByteArray} {vs : List Val} {key : ByteArray} {x : Val} {i : Nat} (h : BinAt ks key i false) (hl : ks.length = vs.length) : i ≤ ks.length ∧ putP (ks.zip vs) key x = (ks.take i ++ [key] ++ ks.drop i).zip (vs.take i ++ [x] ++ vs.drop i) := by
  obtain ⟨h1, h2, h3, h4⟩ := h
  refine ⟨h1, ?_⟩
  rw [putP_miss i _ (by rw [List.length_zip]; omega) (fun p hp => h2 _ (take_zip_fst i hp)) (fun p hp => ?_)]
  · rw [List.append_assoc, List.append_assoc, List.zip_append (by simp; omega)]
    unfold List.zip
    rw [List.take_zipWith, List.drop_zipWith]
    rfl
  · rw [List.getElem?_zip_eq_some] at hp
    exact ⟨h3 _ hp.1, fun e => by
      have h5 : ks[i]? = some key := by rw [hp.1, e]
      exact absurd (h4.2 h5) (by simp)⟩
/-- Of ordered keys there is such a place. -/
theorem bin_spot (key : ByteArray) : ∀ (ks : List ByteArray), Strict ks → ∃ i, i ≤ ks.length ∧ (∀ t, t < i → ∀ s, ks[t]? = some s → Op.bytesLess s.toList key.toList = true) ∧ (∀ t, i ≤ t → ∀ s, ks[t]? = some s → Op.bytesLess s.toList key.toList = false)
  | [], _ => ⟨0, by simp, fun t h => absurd h (by omega), fun t _ s h => by simp at h⟩
  | k :: r, h => by
    obtain ⟨h1, h2⟩ := strict_tail h
    by_cases hk : Op.bytesLess k.toList key.toList = true
    · obtain ⟨i, a, b, c⟩ := bin_spot key r h1
      refine ⟨i + 1, by simpa using a, fun t ht s hs => ?_, fun t ht s hs => ?_⟩
      · cases t with
        | zero => simp at hs; exact hs ▸ hk
        | succ t => exact b t (by omega) s (by simpa using hs)
      · cases t with
        | zero => omega
        | succ t => exact c t (by omega) s (by simpa using hs)
    · refine ⟨0, by simp, fun t ht => absurd ht (by omega), fun t _ s hs => ?_⟩
      cases t with
      | zero => simp at hs; exact hs ▸ (by simpa using hk)
      | succ t =>
        have hm := h2 s (List.mem_of_getElem? (by simpa using hs))
        rcases hb : Op.bytesLess s.toList key.toList with _ | _
        · rfl
        · exact absurd (bl_trans _ _ _ hm hb) hk
theorem vds_len : ∀ l : List Val, (valsDs l).length = l.length * 5
  | [] => rfl
  | .mk _ _ _ _ _ :: r => by simp only [valsDs, valDs, List.length_append, List.length_cons, List.length_nil, vds_len r]; omega
/-- Cells of trees: parted at a place. -/
theorem rdv_part {G : World} {B : Nat} {vs : List Val} {us : List Value} (h : RDv G B (valsDs vs) us) (i : Nat) (hi : i ≤ vs.length) : RDv G B (valsDs (vs.take i)) (us.take (i * 5)) ∧ RDv G B (valsDs (vs.drop i)) (us.drop (i * 5)) := by
  have e : valsDs vs = valsDs (vs.take i) ++ valsDs (vs.drop i) := by rw [← vpush, List.take_append_drop]
  rw [e] at h
  obtain ⟨u1, u2, rfl, h1, h2⟩ := RDv.append_iff.1 h
  have hl := RDv.length_eq h1
  rw [vds_len, List.length_take, Nat.min_eq_left hi] at hl
  rw [← hl, show (u1 ++ u2).take u1.length = u1 by simp, show (u1 ++ u2).drop u1.length = u2 by simp]
  exact ⟨h1, h2⟩
theorem rdv_put {G : World} {B : Nat} {a b : List Val} {x : Val} {ua ub ux : List Value} (ha : RDv G B (valsDs a) ua) (hx : RDv G B (valDs x) ux) (hb : RDv G B (valsDs b) ub) : RDv G B (valsDs (a ++ [x] ++ b)) (ua ++ ux ++ ub) := by
  rw [vpush, vpush]
  refine RDv.append_iff.2 ⟨_, _, rfl, RDv.append_iff.2 ⟨_, _, rfl, ha, ?_⟩, hb⟩
  simpa [valsDs] using hx
end Go.Proofs.YtppfgepoegicgaaGreatDoor
namespace Go.Proofs.YtppfgepoegicgaaGreatDoor
open Go Go.RowKit

theorem nanC_calls (x : ByteArray) (w : World) : Calls Tryz.prog 103 #[.string x] w fun e w' => e = .returned (.bool false) ∧ w' = w := by
  go_enter Tryz.func103, Tryz.ntmps103
  go_wp2
  go_ret
  exact ⟨by simp, rfl⟩
theorem nanS_calls (x : ByteArray) (w : World) : Calls Tryz.prog 107 #[.string x] w fun e w' => e = .returned (.bool false) ∧ w' = w := by
  go_enter Tryz.func107, Tryz.ntmps107
  go_wp2
  go_ret
  exact ⟨by simp, rfl⟩
theorem lessS_calls (x y : ByteArray) (w : World) : Calls Tryz.prog 106 #[.string x, .string y] w fun e w' => e = .returned (.bool (Op.bytesLess x.toList y.toList)) ∧ w' = w := by
  go_enter Tryz.func106, Tryz.ntmps106
  go_wp2_with fail
  refine (nanC_calls _ _).mono ?_
  rintro e w' ⟨rfl, rfl⟩
  go_wp2
  go_ret
  exact ⟨rfl, rfl⟩
set_option maxHeartbeats 4000000 in
set_option maxRecDepth 1000000 in
theorem bin_some (b n c : Nat) (Sx : Nat → ByteArray) (x : ByteArray) (w : World) (I : Nat) (hI : I ≤ n) (hbig : n ≤ 1048576) (hc : ∀ j, j < n → w.cell? ⟨b, j, none⟩ = some (.string (Sx j))) (h1 : ∀ j, j < I → Op.bytesLess (Sx j).toList x.toList = true) (h2 : ∀ j, I ≤ j → j < n → Op.bytesLess (Sx j).toList x.toList = false) :
    Calls Tryz.prog 99 #[.slice (some ⟨b, 0, none⟩) n c, .string x] w fun e w' => e = .returned (.tuple #[.int .i64 I, .bool (decide (I < n ∧ Sx I = x))]) ∧ ∃ q, w' = w.drewN q := by
  have H1 := Lib.hid h1
  have H2 := Lib.hid h2
  have HC := Lib.hid hc
  clear h1 h2 hc
  go_enter Tryz.func99, Tryz.ntmps99
  go_wp2
  go_loopw [7, 8] (fun s7 s8 wr => ∃ lo hi q : Nat, s7 = .int .i64 lo ∧ s8 = .int .i64 hi ∧ lo ≤ I ∧ I ≤ hi ∧ hi ≤ n ∧ wr = w.drewN q) (fun s7 s8 _ => (intOf s8).toNat - (intOf s7).toNat)
  case atStart => exact ⟨0, n, 0, rfl, rfl, Nat.zero_le _, hI, Nat.le_refl _, rfl⟩
  case round =>
    obtain ⟨lo, hi, q, rfl, rfl, hlo, hhi, hin, rfl⟩ := hrel
    by_cases hlt : lo < hi
    · have cm : w.cell? ⟨b, (lo + hi) / 2, none⟩ = some (.string (Sx ((lo + hi) / 2))) := HC.out _ (by omega)
      by_cases hm : (lo + hi) / 2 < I
      · have hyx := H1.out _ hm
        obtain ⟨y, hy⟩ : ∃ y, Sx ((lo + hi) / 2) = y := ⟨_, rfl⟩
        rw [hy] at cm hyx
        go_wp2_with fail
        refine (lessS_calls _ _ _).mono ?_
        rintro e w' ⟨rfl, rfl⟩
        go_wp2
        go_roundw
        case rel => exact ⟨(lo + hi) / 2 + 1, hi, _, by rw [show ((lo : Int) + (hi : Int)) / 2 + 1 = (((lo + hi) / 2 + 1 : Nat) : Int) by omega], rfl, by omega, by omega, hin, rfl⟩
        case measure => simp only [intOf]; omega
      · have hyx := H2.out ((lo + hi) / 2) (by omega) (by omega)
        obtain ⟨y, hy⟩ : ∃ y, Sx ((lo + hi) / 2) = y := ⟨_, rfl⟩
        rw [hy] at cm hyx
        go_wp2_with fail
        refine (lessS_calls _ _ _).mono ?_
        rintro e w' ⟨rfl, rfl⟩
        go_wp2
        go_roundw
        case rel => exact ⟨lo, (lo + hi) / 2, _, rfl, by rw [show ((lo : Int) + (hi : Int)) / 2 = (((lo + hi) / 2 : Nat) : Int) by omega], by omega, by omega, by omega, rfl⟩
        case measure => simp only [intOf]; omega
    · obtain rfl : lo = I := by omega
      obtain rfl : lo = hi := by omega
      by_cases hn : lo < n
      · have cl : w.cell? ⟨b, lo, none⟩ = some (.string (Sx lo)) := HC.out _ hn
        obtain ⟨y, hy⟩ : ∃ y, Sx lo = y := ⟨_, rfl⟩
        rw [hy] at cl
        by_cases hyx : y = x
        · go_wp2
          go_ret2
          refine ⟨?_, _, rfl⟩
          rw [hy, decide_eq_true (show lo < n ∧ y = x from ⟨hn, hyx⟩)]
          first | rfl | simp [*]
        · have hne : (y.toList == x.toList) = false := by
            rw [beq_eq_false_iff_ne]
            intro h
            exact hyx (str_inj h)
          go_wp2_with fail
          refine (nanS_calls _ _).mono ?_
          rintro e w' ⟨rfl, rfl⟩
          go_wp2
          go_ret2
          refine ⟨?_, _, rfl⟩
          rw [hy, decide_eq_false (show ¬ (lo < n ∧ y = x) from fun h => hyx h.2)]
          first | rfl | simp [*]
      · go_wp2
        go_ret2
        refine ⟨?_, _, rfl⟩
        rw [decide_eq_false (show ¬ (lo < n ∧ Sx lo = x) from fun h => hn h.1)]
        first | rfl | simp [*]
set_option maxHeartbeats 1000000 in
set_option maxRecDepth 1000000 in
theorem bin_none (a : Option Addr) (c : Nat) (x : ByteArray) (w : World) :
    Calls Tryz.prog 99 #[.slice a 0 c, .string x] w fun e w' => e = .returned (.tuple #[.int .i64 0, .bool false]) ∧ w' = w := by
  go_enter Tryz.func99, Tryz.ntmps99
  go_wp2
  go_loop [7, 8] (fun s7 s8 => s7 = .int .i64 0 ∧ s8 = .int .i64 0) (fun _ _ => 0)
  case atStart => exact ⟨rfl, rfl⟩
  case round =>
    obtain ⟨rfl, rfl⟩ := hrel
    go_wp2
    go_ret2
    exact ⟨rfl, rfl⟩
/-- slices.BinarySearch of a row of texts that stand in order. -/
theorem bin_calls (base : Nat) (A : Option Addr) (c : Nat) (ks : List ByteArray) (key : ByteArray) (w : World) (h : StrRow base w A c ks) (hst : Strict ks) (hn : ks.length ≤ 1048576) :
    Calls Tryz.prog 99 #[.slice A ks.length c, .string key] w fun e w' => ∃ (i : Nat) (b : Bool), e = .returned (.tuple #[.int .i64 i, .bool b]) ∧ BinAt ks key i b ∧ ∃ q, w' = w.drewN q := by
  obtain ⟨I, hI, h1, h2⟩ := bin_spot key ks hst
  have htake : ∀ t ∈ ks.take I, Op.bytesLess t.toList key.toList = true := fun t ht => by
    obtain ⟨j, hj⟩ := List.getElem?_of_mem ht
    rw [List.getElem?_take] at hj
    split at hj
    · exact h1 j ‹_› t hj
    · cases hj
  obtain ⟨hul, ⟨ev, h0⟩ | ⟨gb, cap, cur, ev, hgb, hg, h3, h4, h5, h6⟩⟩ := h
  · obtain rfl : ks = [] := List.eq_nil_of_length_eq_zero h0
    refine (bin_none A c key w).mono ?_
    rintro e w' ⟨rfl, rfl⟩
    exact ⟨0, false, rfl, ⟨Nat.le_refl _, fun t ht => by simp at ht, fun t ht => by simp at ht, by simp⟩, 0, rfl⟩
  · injection ev with e1 _ e2
    subst e1 e2
    have hget : ∀ j, j < ks.length → ks[j]? = some (ks.getD j ByteArray.empty) := fun j hj => by rw [List.getD_eq_getElem?_getD, List.getElem?_eq_getElem hj]; rfl
    refine (bin_some gb ks.length c (fun j => ks.getD j ByteArray.empty) key w I hI hn (fun j hj => ?_) (fun j hj => h1 j hj _ (hget j (by omega))) (fun j hj hjn => h2 j hj _ (hget j hjn))).mono ?_
    · have h7 : (ks.map Value.string)[j]? = some (.string (ks.getD j ByteArray.empty)) := by rw [List.getElem?_map, hget j hj]; rfl
      rw [← h6, List.getElem?_take_of_lt (by omega)] at h7
      simp only [World.cell?, hg]
      simpa using h7
    · rintro e w' ⟨rfl, q, rfl⟩
      refine ⟨I, _, rfl, ⟨hI, htake, fun t ht => h2 I (Nat.le_refl _) t ht, ?_⟩, q, rfl⟩
      rw [decide_eq_true_iff]
      constructor
      · rintro ⟨hlt, h8⟩
        rw [hget I hlt]
        exact congrArg some h8
      · intro h8
        have hlt : I < ks.length := (List.getElem?_eq_some_iff.1 h8).1
        refine ⟨hlt, ?_⟩
        rw [hget I hlt] at h8
        injection h8
end Go.Proofs.YtppfgepoegicgaaGreatDoor
