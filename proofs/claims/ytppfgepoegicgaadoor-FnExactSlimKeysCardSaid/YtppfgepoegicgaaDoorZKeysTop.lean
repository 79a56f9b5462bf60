/- SlimKeys: the program's answer. -/
import Derived.Test.YtppfgepoegicgaaDoorZKeysI
import Derived.Test.YtppfgepoegicgaaDoorZSortDef
import Derived.Test.YtppfgepoegicgaaDoorZKeysShelf
import Derived.Test.YtppfgepoegicgaaDoorZFOkI
import Derived.Sort.OwnSorted
import Derived.Sort.Grow
import Derived.Lib.OwnBridge
namespace Go.Proofs.YtppfgepoegicgaaDoor
open Go Go.RowKit

def Keyed (x : Filt) (r : List ByteArray) : Prop := (FOk x → r = insAll [] (fks x)) ∧ (¬ FOk x → r = [])
theorem Keyed.det {x : Filt} {r1 r2 : List ByteArray} (h1 : Keyed x r1) (h2 : Keyed x r2) : r1 = r2 := by
  by_cases h : FOk x
  · rw [h1.1 h, h2.1 h]
  · rw [h1.2 h, h2.2 h]
def PKeys (x : Filt) (w : World) (e : Ending) (w' : World) : Prop :=
  ∃ (A : Option Addr) (c : Nat) (r : List ByteArray) (fp : List Nat), e = .returned (.slice A r.length c) ∧ Hid (Keyed x r) ∧ Hid (OD w' (.row 1 r.length (strDs r)) (.slice A r.length c) fp) ∧ Hid (Fresh w w' fp) ∧ Hid (Below w.heap.size w w')
theorem strVs_own {w : World} : ∀ {l : List ByteArray}, (∀ s ∈ l, s.size ≤ 9223372036854775807) → ODv w (strDs l) (strVs l) []
  | [], _ => ⟨rfl, rfl⟩
  | s :: r, h => ⟨_, _, [], [], rfl, rfl, ⟨rfl, h s List.mem_cons_self, rfl⟩, strVs_own fun t ht => h t (List.mem_cons_of_mem _ ht)⟩
/-- A row of texts of one's own is an answer. -/
theorem PKeys.of_row {x : Filt} {w W : World} {A : Option Addr} {c base : Nat} {r : List ByteArray} (hk : Keyed x r) (hs : ∀ s ∈ r, s.size ≤ 9223372036854775807) (h : StrRow base W A c r) (hb : w.heap.size ≤ base) (hB : Below w.heap.size w W) : PKeys x w (.returned (.slice A r.length c)) W := by
  obtain ⟨f0, h1, h2, h3⟩ := owns_osl h
  refine ⟨A, c, r, f0, rfl, hk, ⟨strVs r, f0, [], (List.append_nil _).symm, h1, strVs_own hs⟩, ⟨h3, fun b hm => ?_⟩, hB⟩
  have := h.lt b (h2 b hm)
  omega
theorem kids_rd {w : World} {B : Nat} : ∀ {l : List Filt} {us : List Value}, RDv w B (filtsDs l) us → ∀ y ∈ l, ∃ vs, RDv w B (filtDs y) vs
  | [], _, _, _, h => by cases h
  | y :: r, _, h, z, hz => by
    obtain ⟨u1, u2, _, h1, h2⟩ := RDv.append_iff.1 h
    rcases List.mem_cons.1 hz with rfl | hz
    · exact ⟨_, h1⟩
    · exact kids_rd h2 z hz
theorem fkss_mem {s : ByteArray} : ∀ {l : List Filt}, s ∈ fkss l → ∃ y ∈ l, s ∈ fks y
  | [], h => by simp [fkss] at h
  | y :: r, h => by
    simp only [fkss, List.mem_append] at h
    rcases h with h | h
    · exact ⟨y, List.mem_cons_self, h⟩
    · obtain ⟨z, hz, hs⟩ := fkss_mem h
      exact ⟨z, List.mem_cons_of_mem _ hz, hs⟩
theorem fks_size : ∀ (x : Filt), ∀ (us : List Value) (w : World) (B : Nat), RDv w B (filtDs x) us → ∀ s ∈ fks x, s.size ≤ 9223372036854775807 := Filt.ind fun kind n s v kids ih us w B h t ht => by
  obtain ⟨kind', n', s', v', kids', a3, a4, a5, A6, n6, q6, A7, n7, q7, A8, q8, e, rfl, hs, hv, hk⟩ := filtDs_all h
  injection e with e1 e2 e3 e4 e5
  subst e3 e5
  simp only [fks, List.mem_append] at ht
  rcases ht with ht | ht
  · unfold oneKey at ht
    split at ht
    · rw [List.mem_singleton.1 ht]; exact hs
    · cases ht
  · obtain ⟨y, hy, hty⟩ := fkss_mem ht
    obtain ⟨A, cap, us', _, _, _, _, h4⟩ := hk
    obtain ⟨vs, hvs⟩ := kids_rd h4 y hy
    exact ih y hy vs w B hvs t hty

theorem enc_strs (l : List ByteArray) : strVs l = (l.map (·.data.toList)).map encStr := (Lib.map_encStr l).symm
theorem enc_out (l : List (List UInt8)) : l.map encStr = strVs (l.map fun b => ⟨b.toArray⟩) := by
  unfold strVs
  rw [List.map_map]
  rfl
theorem sortKeys_length (l : List ByteArray) : (sortKeys l).length = l.length := by unfold sortKeys; rw [List.length_mergeSort, List.length_map]
theorem outKeys_length (l : List ByteArray) : (outKeys l).length = (Lib.compact (sortKeys l)).length := by unfold outKeys; rw [List.length_map]
/-- The row, its texts sorted. -/
def Sorted (base : Nat) (w : World) (A : Option Addr) (c : Nat) (l : List ByteArray) : Prop := w.ownsRow base 9 1 (.slice A l.length c) l.length ((sortKeys l).map encStr)
open Go.Sort in
theorem sort_calls {base c : Nat} {w : World} {A : Option Addr} {l : List ByteArray} (h : StrRow base w A c l) (hl : l.length ≤ 1000) :
    Calls Tryd.prog 33 #[.slice A l.length c] w fun e w' => e = .returned (.tuple #[]) ∧ Hid (Sorted base w' A c l) ∧ Hid (Grew w w' (Value.slice A l.length c).ownBlock (Value.slice A l.length c).ownBlock) := by
  by_cases h0 : l = []
  · subst h0
    refine (Tryd.slices_Sort_string_none A c w).mono ?_
    rintro e w' ⟨rfl, rfl⟩
    have e0 : sortKeys [] = [] := by simp [sortKeys]
    have h2 : Sorted base w' A c [] := by unfold Sorted; rw [e0]; exact h
    exact ⟨rfl, h2, Grew.of_below (Below.refl _ _) _⟩
  · have hp : 0 < l.length := List.length_pos_iff.2 h0
    have h1 : w.ownsRow base 9 1 (.slice A l.length c) l.length ((l.map (·.data.toList)).map encStr) := by rw [← enc_strs]; exact h
    obtain ⟨g, cap, e0, hbg, hgl, hnc, hcm, hlen, hH⟩ := Lib.holds_of_ownsRow h1 (fun e => by injection e with _ e2 _; omega)
    injection e0 with e1 _ e3
    subst e1 e3
    have hs := Tryd.slices_Sort_string g 0 c (l.map (·.data.toList)) w hH hgl (by rw [hlen]; omega)
    rw [hlen] at hs
    refine hs.mono ?_
    rintro e w' ⟨rfl, n, os, rfl⟩
    refine ⟨rfl, ?_, ?_⟩
    · rcases h1.2 with ⟨e4, _⟩ | ⟨g', cap', cur, e4, hb', hB, hn', hm', hs', ht'⟩
      · cases e4
      injection e4 with e5 _ e6
      injection e5 with e5
      injection e5 with e5
      subst e5 e6
      have := ownsRow_sorted (n := n) (os := os) (ss := l.map (·.data.toList)) (ts := sortKeys l) (by rw [sortKeys_length, List.length_map]) hb' hB (by rw [hlen]; exact hn') hm' hs'
      rw [hlen] at this
      exact this
    · have := grownBy_sorted (w := w) (g := g) (n := n) (os := os) (sortKeys l).toArray
      exact Grew.of_grown (v := .slice (some ⟨g, 0, none⟩) l.length c) this (.inl rfl)
open Go.Sort in
theorem compact_calls {base c : Nat} {w : World} {A : Option Addr} {l : List ByteArray} (h : Sorted base w A c l) (hl : l.length ≤ 1000) :
    Calls Tryd.prog 34 #[.slice A l.length c] w fun e w' => ∃ r : List ByteArray, e = .returned (.slice A r.length c) ∧ Hid (r = outKeys l) ∧ Hid (StrRow base w' A c r) ∧ Hid (Grew w w' (Value.slice A l.length c).ownBlock (Value.slice A l.length c).ownBlock) := by
  by_cases h0 : l = []
  · subst h0
    refine (Tryd.slices_Compact_string_empty A c w).mono ?_
    rintro e w' ⟨rfl, rfl⟩
    have e0 : sortKeys [] = [] := by simp [sortKeys]
    have h2 : StrRow base w' A c [] := by unfold Sorted at h; rw [e0] at h; exact h
    have h3 : ([] : List ByteArray) = outKeys [] := by rw [outKeys_ins]; rfl
    exact ⟨[], rfl, h3, h2, Grew.of_below (Below.refl _ _) _⟩
  · have hp : 0 < l.length := List.length_pos_iff.2 h0
    obtain ⟨g, cap, e0, hbg, hgl, hnc, hcm, hlen, hH⟩ := Lib.holds_of_ownsRow (show w.ownsRow base 9 1 (.slice A l.length c) l.length ((sortKeys l).map encStr) from h) (fun e => by injection e with _ e2 _; omega)
    injection e0 with e1 _ e3
    subst e1 e3
    have hs := Tryd.slices_Compact_string g 0 c (sortKeys l) w hH (by omega) (by omega)
    rw [hlen] at hs
    refine hs.mono ?_
    rintro e w' ⟨rfl, q, rfl⟩
    have hle := Lib.compact_length_le (sortKeys l)
    have hc := Lib.ownsRow_putRow (q := q) (k := (Lib.compact (sortKeys l)).length) (ys := Lib.compact (sortKeys l) ++ List.replicate (l.length - (Lib.compact (sortKeys l)).length) []) h (by simp; omega) (by omega)
    rw [List.take_left, enc_out] at hc
    refine ⟨outKeys l, by rw [outKeys_length], rfl, ?_, ?_⟩
    · unfold Hid StrRow
      rw [outKeys_length]
      exact hc
    · refine ⟨rfl, rfl, rfl, by simp [putRow, mapBlock, Sort.ahead], fun k _ hne => ?_, fun _ hk => .inl hk⟩
      have hgk : g ≠ k := fun e => hne (by rw [e]; rfl)
      simp [putRow, mapBlock, Sort.ahead, Array.getElem?_modify, hgk]

theorem StrRow.reads {base c : Nat} {w : World} {A : Option Addr} {l : List ByteArray} (h : StrRow base w A c l) : Reads w w.heap.size 1 A l.length (strVs l) := by
  obtain ⟨f0, h1, _, _⟩ := owns_osl h
  obtain ⟨A', cap, e, _, _, hr⟩ := h1.reads (B := w.heap.size) (OSl.lt h1)
  injection e with e1 _ _
  subst e1
  exact hr
theorem Grew.grown {w w' : World} {o o1 : Option Nat} (h : Grew w w' o o1) : w.grownBy w' o := ⟨h.os, h.tape, h.output, h.size, fun k hk hne => h.block k hk fun e => hne e.symm⟩

set_option maxRecDepth 100000 in
set_option maxHeartbeats 4000000 in
theorem iSlimKeys_calls (x : Filt) (us : List Value) (w : World) (B : Nat) (hB : B ≤ w.heap.size) (h : RDv w B (filtDs x) us) (hT : Tab w B) :
    Calls Tryd.prog 14 #[.agg us.toArray] w (PKeys x w) := by
  obtain ⟨a0, a1, a2, a3, a4, a5, A6, n6, q6, A7, n7, q7, A8, n8, q8, rfl⟩ := filtDs_shape h
  have H := Lib.hid h
  have HT := Lib.hid hT
  have HS := Lib.hid (fks_size x _ w B h)
  clear h hT
  have hbx := fun o1 => below_box w o1
  go_enter Tryd.func14, Tryd.ntmps14
  go_wp2_with fail
  refine (iFiltOk_calls x [_, _, _, _, _, _, _, _, _] _ B (Nat.le_trans hB (hbx _).size) (H.out.below ((hbx _).mono hB)) (HT.out.below ((hbx _).mono hB))).mono ?_
  rintro e w1 ⟨r, rfl, hr, hb1⟩
  have HR := Lib.hid hr
  obtain ⟨hb, hz, bP⟩ := boxes1 (P := [_, _, _, _, _, _, _, _, _]) (boxes1_of hb1)
  obtain ⟨cP, fP⟩ := blk_rules bP
  clear hr hb1
  cases r with
  | false =>
    have HN := Lib.hid (show Keyed x [] from ⟨fun h => absurd (HR.out.2 h) (by simp), fun _ => rfl⟩)
    have HO := Lib.hid (show StrRow w1.heap.size (w1.alloc (.cells #[] 9)) (some ⟨w1.heap.size, 0, none⟩) 0 [] from World.ownsRow_made w1 #[] 0 (Nat.le_refl _) (by unfold maxLen; omega) (by simp))
    have HB1 := Lib.hid hb
    clear hb bP
    go_wp2
    go_ret
    exact PKeys.of_row HN.out (by simp) HO.out (by omega) (HB1.out.trans ((below_box w1 _).mono (by omega)))
  | true =>
    have HF := Lib.hid (HR.out.1 rfl)
    have hc16 := HF.out.2
    go_wp2_with fail
    refine (iKeys_calls x [_, _, _, _, _, _, _, _, _] w1 B w1.heap.size none 0 [] (by omega) (Nat.le_refl _) (H.out.below (hb.mono hB)) (World.ownsRow_nil _ _ _ _) (by simp; omega)).mono ?_
    rintro e w2 ⟨A2, c2, l2, rfl, hl2, hr2, hg2⟩
    have HB2 := Lib.hid (hg2.out.below (Nat.le_refl _) (fun k hk => by cases hk))
    clear hg2 cP fP bP
    have hl1 : l2.length ≤ 1000 := by
      have h1 := fks_le x
      rw [hl2.out, List.nil_append]
      omega
    have HL2 := Lib.hid hl2.out
    clear hl2
    go_wp2_with fail
    refine (sort_calls hr2.out hl1).mono ?_
    rintro e w3 ⟨rfl, hs3, hg3⟩
    have HG3 := Lib.hid hg3.out
    have HB3 := Lib.hid (HB2.out.trans (hg3.out.below HB2.out.size (fun k hk => (StrRow.lt hr2.out k hk).1)))
    clear hg3
    go_wp2_with fail
    have HS4 := Lib.hid (show Sorted w1.heap.size (w3.alloc (.cells #[] 9)) A2 c2 l2 from World.ownsRow.alloc hs3.out _)
    have HZ3 := Lib.hid (show ∀ k, (Value.slice A2 l2.length c2).ownBlock = some k → k < w3.heap.size from fun k hk => (World.ownsRow.lt hs3.out k hk).2)
    refine (compact_calls HS4.out hl1).mono ?_
    rintro e w4 ⟨rr, rfl, hrr, hrow, hg4⟩
    have HOW := Lib.hid (World.ownsRow.kept (World.ownsRow_made (base := w3.heap.size) (e := 9) (size := 1) w3 #[] 0 (Nat.le_refl _) (by unfold maxLen; omega) (by simp)) hg4.out.grown (.inr (fun e => by have := HZ3.out w3.heap.size e.symm; omega)))
    have HRD := Lib.hid hrow.out.reads
    have hz4 : w3.heap.size + 1 ≤ w4.heap.size := by have := hg4.out.size; simpa using this
    have HB4 := Lib.hid (HB3.out.trans (Below.trans ((below_box w3 _).mono HB3.out.size) (hg4.out.below (B := w1.heap.size) (by have := HB3.out.size; simp; omega) (fun k hk => (World.ownsRow.lt hs3.out k hk).1))))
    have hlr : rr.length ≤ 1000 := by
      have h1 := Lib.compact_length_le (sortKeys l2)
      rw [hrr.out, outKeys_length]
      rw [sortKeys_length] at h1
      omega
    have HON := Lib.hid (strVs_one rr)
    have HN := Lib.hid (show Keyed x rr from ⟨fun _ => by rw [hrr.out, outKeys_ins, HL2.out]; rfl, fun h => absurd HF.out h⟩)
    have HSZ := Lib.hid (show ∀ s ∈ rr, s.size ≤ 9223372036854775807 from fun s hs => HS.out s (by
      rw [hrr.out] at hs
      have := ((outKeys_facts l2).2 s).1 hs
      rw [HL2.out] at this
      simpa using this))
    obtain ⟨iS, hiS, zS0, zS1, zS2⟩ := info_parts' Tryd.info_string
    clear hrr hrow hg4
    go_wp2_with (at_builtin; go_loud (refine wpList_append_reads _ rfl _ _ 22 rfl w3.heap.size 9 iS _ 1 16 Tryd.underlying22 hiS zS0 zS1 zS2 rfl (by decide) _ 0 [] (by rfl) HOW.out _ rr.length c2 w4.heap.size (strVs rr) (by rfl) HRD.out HON.out (by unfold maxLen; omega) (by omega) (by omega) ?_; intro v5 w5 hown5 hg5 hat5; obtain ⟨A5, c5, rfl, hr5⟩ := StrRow.of_owns (l := rr) hown5 (by omega) (by rw [List.nil_append]); have HR5 := Lib.hid hr5; have HB5 := Lib.hid ((HB4.out.trans ((Grew.of_grown hg5 hat5).below (B := w1.heap.size) (by have := HB3.out.size; omega) (fun k hk => by have := (HOW.out.lt k hk).1; have := HB3.out.size; omega)))); clear hown5 hg5 hat5 hr5))
    go_ret
    exact PKeys.of_row HN.out HSZ.out HR5.out (by have := HB3.out.size; omega) ((hb.trans (HB5.out.mono (by omega))))
end Go.Proofs.YtppfgepoegicgaaDoor
