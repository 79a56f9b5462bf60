/- The program's num, str, row; slices.Concat of two rows of trees. -/
import Derived.Test.YtppfgepoegicgaaGreatDoorGk
import Derived.Lib.AppendZerosOnto
import Derived.Lib.AppendZeros
import Derived.Lib.SliceRun
import Derived.Test.YtppfgepoegicgaaGreatDoorGp
import Derived.StillTailTactics
namespace Go.Proofs.YtppfgepoegicgaaGreatDoor
open Go Go.RowKit

theorem num_calls (n : Int) (w : World) : Calls Tryz.prog 78 #[.int .i64 n] w fun e w' => e = .returned (.agg #[.int .i64 3, .int .i64 n, .string ⟨#[]⟩, .slice none 0 0, .slice none 0 0]) ∧ Below w.heap.size w w' := by
  go_enter Tryz.func78, Tryz.ntmps78
  go_wp2
  refine bodyPost_ret (v := .agg #[.int .i64 3, .int .i64 n, .string ⟨#[]⟩, .slice none 0 0, .slice none 0 0]) (by simp [results, Tryz.results78, go_sem]) rfl ?_
  exact ⟨rfl, below_box _ _⟩
theorem str_calls (s : ByteArray) (w : World) : Calls Tryz.prog 79 #[.string s] w fun e w' => e = .returned (.agg #[.int .i64 4, .int .i64 0, .string s, .slice none 0 0, .slice none 0 0]) ∧ Below w.heap.size w w' := by
  go_enter Tryz.func79, Tryz.ntmps79
  go_wp2
  refine bodyPost_ret (v := .agg #[.int .i64 4, .int .i64 0, .string s, .slice none 0 0, .slice none 0 0]) (by simp [results, Tryz.results79, go_sem]) rfl ?_
  exact ⟨rfl, below_box _ _⟩
theorem row_calls (A : Option Addr) (n c : Nat) (w : World) : Calls Tryz.prog 80 #[.slice A n c] w fun e w' => e = .returned (.agg #[.int .i64 5, .int .i64 0, .string ⟨#[]⟩, .slice none 0 0, .slice A n c]) ∧ Below w.heap.size w w' := by
  go_enter Tryz.func80, Tryz.ntmps80
  go_wp2
  refine bodyPost_ret (v := .agg #[.int .i64 5, .int .i64 0, .string ⟨#[]⟩, .slice none 0 0, .slice A n c]) (by simp [results, Tryz.results80, go_sem]) rfl ?_
  exact ⟨rfl, below_box _ _⟩
set_option maxRecDepth 100000 in
set_option maxHeartbeats 4000000 in
/-- slices.Grow of no row. -/
theorem grow_calls (n : Nat) (hn : n ≤ 1048576) (w : World) : Calls Tryz.prog 96 #[.slice none 0 0, .int .i64 n] w fun e w' => ∃ v, e = .returned v ∧ w'.ownsRow w.heap.size 32 5 v 0 [] ∧ Below w.heap.size w w' := by
  by_cases h0 : n = 0
  · subst h0
    go_enter Tryz.func96, Tryz.ntmps96
    go_wp2
    go_ret
    exact ⟨_, rfl, World.ownsRow_nil _ _ _ _, Below.refl _ _⟩
  · obtain ⟨iV, hiV, zV0, zV1, zV2⟩ := info_parts' Tryz.info_Val
    have hrz := fun ty => Lib.run_append_grow_zeros w 30 3 ty 32 iV _ .i64 .i64 Tryz.underlying30 Tryz.underlying3 hiV zV0 none 0 0 [] (by rw [zV1]; exact run_firstCells_none w.drew 5 0 0 0) n (by omega) (by rw [zV1]; decide) (by omega) (by omega) (by rw [zV2]; omega) (by rw [zV2]; exact growslice_fits (by omega) (by omega))
    rw [show 0 + n = n by omega] at hrz
    have hGn : n ≤ grownCap w n 0 32 := grownCap_ge w _ _ _
    have hGm : grownCap w n 0 32 ≤ maxLen := grownCap_le_maxLen w n 0 32 (by unfold maxLen; omega)
    obtain ⟨G, hG⟩ : ∃ G, G = grownCap w n 0 32 := ⟨_, rfl⟩
    rw [← hG] at hrz hGn hGm
    obtain ⟨ROW, hROW⟩ : ∃ ROW : Array Value, ROW = ([] : List Value).toArray ++ Builtin.zeroCells (Value.agg #[.int .i64 0, .int .i64 0, .string ⟨#[]⟩, .slice none 0 0, .slice none 0 0]).cells n ++ Builtin.zeroCells (Value.agg #[.int .i64 0, .int .i64 0, .string ⟨#[]⟩, .slice none 0 0, .slice none 0 0]).cells (G - n) := ⟨_, rfl⟩
    have hRs : ROW.size = G * 5 := by
      rw [hROW, Array.size_append, Array.size_append, size_zeroCells, size_zeroCells]
      simp [Value.cells]
      omega
    rw [← hROW] at hrz
    have HZ := Lib.hid hrz
    have hpos : (0 : Int) < (n : Int) := by omega
    clear hROW hG hrz
    go_enter Tryz.func96, Tryz.ntmps96
    go_wp2_with (at_builtin; refine Lib.wpList_append_run _ rfl _ _ _ _ rfl _ _ rfl rfl _ _ (HZ.out _) ?_)
    go_ret
    exact ⟨_, rfl, World.ownsRow_made w.drew ROW G (Nat.le_refl _) hGm hRs, (below_box w _).drew⟩
theorem grown_base {w wr w2 : World} {ob : Option Nat} (hb : Below w.heap.size w wr) (ho : ∀ q, ob = some q → w.heap.size ≤ q) (hg : wr.grownBy w2 ob) : Below w.heap.size w w2 :=
  ⟨hg.os.trans hb.os, hg.tape.trans hb.tape, hg.output.trans hb.output, Nat.le_trans hb.size hg.size, fun b hlt => (hg.block b (Nat.lt_of_lt_of_le hlt hb.size) (fun e => by have := ho b e.symm; omega)).trans (hb.block b hlt)⟩
/-- So far. -/
def Cat (n1 n2 : Nat) (u1 u2 : List Value) (k n : Nat) (us : List Value) : Prop := (k = 0 ∧ n = 0 ∧ us = []) ∨ (k = 1 ∧ n = n1 ∧ us = u1) ∨ (k = 2 ∧ n = n1 + n2 ∧ us = u1 ++ u2)
set_option maxRecDepth 100000 in
set_option maxHeartbeats 8000000 in
theorem concat_calls (g n1 n2 c1 c2 : Nat) (A1 A2 : Option Addr) (u1 u2 : List Value) (w : World) (B : Nat) (hB : B ≤ w.heap.size) (hg : Blk w g 30 [.slice A1 n1 c1, .slice A2 n2 c2]) (h1 : Reads w B 5 A1 n1 u1) (h2 : Reads w B 5 A2 n2 u2) (o1 : ∀ u ∈ u1, u.oneCell' = true) (o2 : ∀ u ∈ u2, u.oneCell' = true) (hn1 : n1 ≤ 1000) (hn2 : n2 ≤ 1000) :
    Calls Tryz.prog 81 #[.slice (some ⟨g, 0, none⟩) 2 2] w fun e w' => ∃ A c, e = .returned (.slice A (n1 + n2) c) ∧ w'.ownsRow w.heap.size 32 5 (.slice A (n1 + n2) c) (n1 + n2) (u1 ++ u2) ∧ Below w.heap.size w w' := by
  obtain ⟨iV, hiV, zV0, zV1, zV2⟩ := info_parts' Tryz.info_Val
  have HG := Lib.hid hg
  have H1 := Lib.hid h1
  have H2 := Lib.hid h2
  have O1 := Lib.hid o1
  have O2 := Lib.hid o2
  have hgl := hg.lt
  clear hg h1 h2 o1 o2
  go_enter Tryz.func81, Tryz.ntmps81
  go_wp2
  go_loopw [3, 11] (fun s i w' => ∃ k : Nat, i = .int .i64 k ∧ s = .int .i64 ((if k = 0 then 0 else if k = 1 then n1 else n1 + n2 : Nat) : Int) ∧ k ≤ 2 ∧ w' = w) (fun _ i _ => 2 - (intOf i).toNat)
  case atStart => exact ⟨0, rfl, rfl, by omega, rfl⟩
  case round =>
    obtain ⟨k, rfl, rfl, hk, rfl⟩ := hrel
    obtain ⟨cg, fg⟩ := blk_rules HG.out
    rcases (show k = 0 ∨ k = 1 ∨ k = 2 by omega) with rfl | rfl | rfl
    · skip
      go_wp2
      go_roundw
      case rel => exact ⟨1, rfl, by simp, by omega, by first | rfl | trivial⟩
      case measure => simp [intOf]
    · have ha : ¬ ((n1 : Int) + (n2 : Int) < 0) := by omega
      have hw1 : IntKind.i64.wrap ((n1 : Int) + (n2 : Int)) = (n1 : Int) + (n2 : Int) := by rw [IntKind.wrap_i64]; omega
      go_wp2
      go_roundw
      case rel => exact ⟨2, rfl, by simp, by omega, by first | rfl | trivial⟩
      case measure => simp [intOf]
    · obtain ⟨w, ew⟩ : ∃ w : World, w = wr := ⟨_, rfl⟩
      subst ew
      go_wp2_with fail
      refine (grow_calls (n1 + n2) (by omega) w).mono ?_
      rintro e w1 ⟨v, rfl, ho, hb⟩
      obtain ⟨A, c, rfl⟩ := slice_of_owns ho
      have HO1 := Lib.hid ho
      have HB1 := Lib.hid hb
      have HG1 := Lib.hid (HG.out.below hb)
      clear ho hb cg fg
      obtain ⟨cg, fg⟩ := blk_rules HG1.out
      go_wp2
      go_loopw [6, 27] (fun s i w' => ∃ (k n : Nat) (A : Option Addr) (c : Nat) (us : List Value), s = .slice A n c ∧ i = .int .i64 k ∧ Hid (Cat n1 n2 u1 u2 k n us) ∧ Hid (w'.ownsRow w.heap.size 32 5 (.slice A n c) n us) ∧ Hid (Below w.heap.size w w')) (fun _ i _ => 2 - (intOf i).toNat)
      case atStart => exact ⟨0, 0, _, _, _, rfl, rfl, .inl ⟨rfl, rfl, rfl⟩, HO1, HB1⟩
      case round =>
        obtain ⟨k, n, A3, c3, us, rfl, rfl, HC, HO, HB⟩ := hrel
        have hbz := HB.out.size
        have HR1 := Lib.hid (Reads.keep H1.out fun p hp => HB.out.cell (by omega))
        have HR2 := Lib.hid (Reads.keep H2.out fun p hp => HB.out.cell (by omega))
        have HGr := Lib.hid (HG.out.below HB.out)
        clear cg fg
        obtain ⟨cg, fg⟩ := blk_rules HGr.out
        rcases HC.out with ⟨rfl, rfl, rfl⟩ | ⟨rfl, rfl, rfl⟩ | ⟨rfl, rfl, rfl⟩
        · skip
          go_wp2_with (at_builtin; go_loud (refine wpList_append_reads _ rfl _ _ 30 rfl w.heap.size 32 iV _ 5 80 Tryz.underlying30 hiV zV0 zV1 zV2 rfl (by decide) _ 0 _ (by rfl) HO.out _ n1 _ B _ (by rfl) HR1.out O1.out (by unfold maxLen; omega) (by omega) hbz ?_; intro v2 w3 hown hg hat; obtain ⟨A2', c2', rfl⟩ := slice_of_owns hown; have HW3 := Lib.hid hown; have HB3 := Lib.hid (grown_base HB.out (fun q hq => (HO.out.lt q hq).1) hg); clear hown hg hat))
          go_roundw
          case rel => exact ⟨1, _, _, _, _, rfl, rfl, .inr (.inl ⟨rfl, rfl, rfl⟩), Lib.hid (by simpa using HW3.out), HB3⟩
          case measure => simp [intOf]
        · skip
          go_wp2_with (at_builtin; go_loud (refine wpList_append_reads _ rfl _ _ 30 rfl w.heap.size 32 iV _ 5 80 Tryz.underlying30 hiV zV0 zV1 zV2 rfl (by decide) _ _ _ (by rfl) HO.out _ n2 _ B _ (by rfl) HR2.out O2.out (by unfold maxLen; omega) (by omega) hbz ?_; intro v2 w3 hown hg hat; obtain ⟨A2', c2', rfl⟩ := slice_of_owns hown; have HW3 := Lib.hid hown; have HB3 := Lib.hid (grown_base HB.out (fun q hq => (HO.out.lt q hq).1) hg); clear hown hg hat))
          go_roundw
          case rel => exact ⟨2, _, _, _, _, rfl, rfl, .inr (.inr ⟨rfl, rfl, rfl⟩), Lib.hid (by simpa using HW3.out), HB3⟩
          case measure => simp [intOf]
        · skip
          go_wp2
          go_ret
          exact ⟨_, _, rfl, HO.out, HB.out⟩
end Go.Proofs.YtppfgepoegicgaaGreatDoor
namespace Go.Proofs.YtppfgepoegicgaaGreatDoor
open Go Go.RowKit

theorem toldV_some {v : Val} (h : ValOk v) : toldV (some v) = some v := by simp [toldV, h]
theorem rd_nil (w : World) (B sz : Nat) : RD w B (.row sz 0 []) (.slice none 0 0) := ⟨_, _, [], rfl, Nat.zero_le _, by simp, Reads.none_ _, rfl⟩
theorem rdv_flat {w : World} {B : Nat} {kind n : Int} {s : ByteArray} (hs : s.size ≤ 9223372036854775807) : RDv w B (valDs (.mk kind n s [] [])) [.int .i64 kind, .int .i64 n, .string s, .slice none 0 0, .slice none 0 0] := rdv_mk hs (rd_nil _ _ _) (rd_nil _ _ _)
set_option maxRecDepth 100000 in
set_option maxHeartbeats 8000000 in
theorem iAdd_calls (a b : Val) (ua ub : List Value) (w : World) (B : Nat) (hB : B ≤ w.heap.size) (ha : RDv w B (valDs a) ua) (hb : RDv w B (valDs b) ub) (oa : ValOk a) (ob : ValOk b) :
    Calls Tryz.prog 65 #[.agg ua.toArray, .agg ub.toArray] w (PTwo (addV a b) w) := by
  obtain ⟨k1, n1, s1, keys1, list1, A1, c1, A2, c2, rfl, rfl, hs1, hk1, hl1⟩ := valDs_open ha
  obtain ⟨k2, n2, s2, keys2, list2, A3, c3, A4, c4, rfl, rfl, hs2, hk2, hl2⟩ := valDs_open hb
  have HA := Lib.hid ha
  have HB := Lib.hid hb
  have OA := Lib.hid oa
  have OB := Lib.hid ob
  obtain ⟨q1, ⟨q2, q3⟩, ⟨q4, q5⟩, q6, q7, q8, q9⟩ := clean_of oa
  obtain ⟨r1, ⟨r2, r3⟩, ⟨r4, r5⟩, r6, r7, r8, r9⟩ := clean_of ob
  have HQ1 := Lib.hid q1
  have HR1 := Lib.hid r1
  have HQ9 := Lib.hid q9
  have HR9 := Lib.hid r9
  have HCA := Lib.hid oa.2
  have HCB := Lib.hid ob.2
  have HLA := Lib.hid hl1
  have HKB := Lib.hid hk2
  have HLB := Lib.hid hl2
  have hn2 := hk2.len
  clear ha hb oa ob hk1 hl1 hk2 hl2 q1 r1 q9 r9
  go_enter Tryz.func65, Tryz.ntmps65
  have hbx := below_box3 w (.cells #[.int .i64 k1, .int .i64 n1, .string s1, .slice A1 keys1.length c1, .slice A2 list1.length c2] 32) (.cells #[.int .i64 k2, .int .i64 n2, .string s2, .slice A3 keys2.length c3, .slice A4 list2.length c4] 32) (.cells #[.int .i64 0, .int .i64 0, .string ⟨#[]⟩, .slice none 0 0, .slice none 0 0] 32)
  go_wp2_with fail
  refine (iValOk_calls (.mk k1 n1 s1 keys1 list1) [_, _, _, _, _] _ B (Nat.le_trans hB hbx.size) (HA.out.below (hbx.mono hB))).mono ?_
  rintro e w1 ⟨r, rfl, hr1, hb1⟩
  obtain rfl : r = true := hr1.2 OA.out
  obtain ⟨hb, hz, bP, bQ, bR⟩ := boxes3 (P := [_, _, _, _, _]) (R := [_, _, _, _, _]) (O := [_, _, _, _, _]) hb1
  clear hr1 hb1 hbx
  obtain ⟨cP, fP⟩ := blk_rules bP
  obtain ⟨cQ, fQ⟩ := blk_rules bQ
  go_wp2_with fail
  refine (iValOk_calls (.mk k2 n2 s2 keys2 list2) [_, _, _, _, _] _ B (by omega) (HB.out.below (hb.mono hB))).mono ?_
  rintro e w2 ⟨r, rfl, hr1, hb1⟩
  obtain rfl : r = true := hr1.2 OB.out
  have HPb := Lib.hid (bP.below hb1)
  have HQb := Lib.hid (bQ.below hb1)
  have HRb := Lib.hid (bR.below hb1)
  have HW2 := Lib.hid (hb.trans (hb1.mono (by omega)))
  have hz2 : w.heap.size + 3 ≤ w2.heap.size := by have := hb1.size; omega
  clear hr1 hb1 bP bQ bR cP fP cQ fQ hb
  obtain ⟨cP, fP⟩ := blk_rules HPb.out
  obtain ⟨cQ, fQ⟩ := blk_rules HQb.out
  obtain ⟨cR, fR⟩ := blk_rules HRb.out
  by_cases e1 : k1 = 0
  · skip
    have HRAW := Lib.hid (show addV (.mk k1 n1 s1 keys1 list1) (.mk k2 n2 s2 keys2 list2) = toldV (some (.mk k2 n2 s2 keys2 list2)) from (if_pos e1 : addV (.mk k1 n1 s1 keys1 list1) (.mk k2 n2 s2 keys2 list2) = _).trans (toldV_some OB.out).symm)
    have HB5 := Lib.hid (HW2.out)
    have HR5 := Lib.hid (HRb.out)
    go_wp2_with fail
    refine (iTold_calls (.mk k2 n2 s2 keys2 list2) [_, _, _, _, _] _ B (by first | omega | exact Nat.le_refl _) (HB.out.below (HW2.out.mono hB))).mono ?_
    intro e w6 hP
    obtain ⟨v, d0, d1, d2, A9, n9, c9, A10, n10, c10, fp, hv, rfl, HO, HF, hb6⟩ | ⟨hn, rfl, hb6⟩ := hP.split
    · have HV := Lib.hid (HRAW.out.trans hv)
      have HR6 := Lib.hid (HR5.out.below hb6)
      have HB6 := Lib.hid (HB5.out.trans (hb6.mono HB5.out.size))
      clear hb6 hv
      (try clear cP fP; try clear cQ fQ; try clear cR fR; try clear cO fO)
      obtain ⟨cR, fR⟩ := blk_rules HR6.out
      go_wp2
      refine bodyPost_ret (v := .tuple #[.agg #[.int .i64 d0, .int .i64 d1, .string d2, .slice A9 n9 c9, .slice A10 n10 c10], .bool true]) (by simp [results, Tryz.results65, go_sem, cR]) rfl ?_
      exact PTwo.laid (vs := [.int .i64 d0, .int .i64 d1, .string d2, .slice A9 n9 c9, .slice A10 n10 c10]) (g := w.heap.size + 1 + 1) (o := 0) HV.out HO.out HF.out HB6.out (by omega) (by omega)
    · have HV := Lib.hid (HRAW.out.trans hn)
      have HR6 := Lib.hid (HR5.out.below hb6)
      have HB6 := Lib.hid (HB5.out.trans (hb6.mono HB5.out.size))
      clear hb6 hn
      (try clear cP fP; try clear cQ fQ; try clear cR fR; try clear cO fO)
      obtain ⟨cR, fR⟩ := blk_rules HR6.out
      go_wp2
      refine bodyPost_ret (v := .tuple #[.agg #[.int .i64 0, .int .i64 0, .string ⟨#[]⟩, .slice none 0 0, .slice none 0 0], .bool false]) (by simp [results, Tryz.results65, go_sem, cR]) rfl ?_
      exact PTwo.none_laid (g := w.heap.size + 1 + 1) (o := 0) HV.out HB6.out (by omega)
  by_cases e2 : k2 = 0
  · skip
    have HRAW := Lib.hid (show addV (.mk k1 n1 s1 keys1 list1) (.mk k2 n2 s2 keys2 list2) = toldV (some (.mk k1 n1 s1 keys1 list1)) from ((if_neg e1).trans (if_pos e2) : addV (.mk k1 n1 s1 keys1 list1) (.mk k2 n2 s2 keys2 list2) = _).trans (toldV_some OA.out).symm)
    have HB5 := Lib.hid (HW2.out)
    have HR5 := Lib.hid (HRb.out)
    go_wp2_with fail
    refine (iTold_calls (.mk k1 n1 s1 keys1 list1) [_, _, _, _, _] _ B (by first | omega | exact Nat.le_refl _) (HA.out.below (HW2.out.mono hB))).mono ?_
    intro e w6 hP
    obtain ⟨v, d0, d1, d2, A9, n9, c9, A10, n10, c10, fp, hv, rfl, HO, HF, hb6⟩ | ⟨hn, rfl, hb6⟩ := hP.split
    · have HV := Lib.hid (HRAW.out.trans hv)
      have HR6 := Lib.hid (HR5.out.below hb6)
      have HB6 := Lib.hid (HB5.out.trans (hb6.mono HB5.out.size))
      clear hb6 hv
      (try clear cP fP; try clear cQ fQ; try clear cR fR; try clear cO fO)
      obtain ⟨cR, fR⟩ := blk_rules HR6.out
      go_wp2
      refine bodyPost_ret (v := .tuple #[.agg #[.int .i64 d0, .int .i64 d1, .string d2, .slice A9 n9 c9, .slice A10 n10 c10], .bool true]) (by simp [results, Tryz.results65, go_sem, cR]) rfl ?_
      exact PTwo.laid (vs := [.int .i64 d0, .int .i64 d1, .string d2, .slice A9 n9 c9, .slice A10 n10 c10]) (g := w.heap.size + 1 + 1) (o := 0) HV.out HO.out HF.out HB6.out (by omega) (by omega)
    · have HV := Lib.hid (HRAW.out.trans hn)
      have HR6 := Lib.hid (HR5.out.below hb6)
      have HB6 := Lib.hid (HB5.out.trans (hb6.mono HB5.out.size))
      clear hb6 hn
      (try clear cP fP; try clear cQ fQ; try clear cR fR; try clear cO fO)
      obtain ⟨cR, fR⟩ := blk_rules HR6.out
      go_wp2
      refine bodyPost_ret (v := .tuple #[.agg #[.int .i64 0, .int .i64 0, .string ⟨#[]⟩, .slice none 0 0, .slice none 0 0], .bool false]) (by simp [results, Tryz.results65, go_sem, cR]) rfl ?_
      exact PTwo.none_laid (g := w.heap.size + 1 + 1) (o := 0) HV.out HB6.out (by omega)
  by_cases e3 : k1 ≠ k2
  · have HN := Lib.hid (show addV (.mk k1 n1 s1 keys1 list1) (.mk k2 n2 s2 keys2 list2) = none from (if_neg e1).trans ((if_neg e2).trans (if_pos e3)))
    have HB2 := HW2.out
    go_wp2
    refine bodyPost_ret (v := .tuple #[.agg #[.int .i64 0, .int .i64 0, .string ⟨#[]⟩, .slice none 0 0, .slice none 0 0], .bool false]) (by simp [results, Tryz.results65, go_sem, cR]) rfl ?_
    exact PTwo.none_laid (g := w.heap.size + 1 + 1) (o := 0) HN.out HB2 (by omega)
  have e3 : k1 = k2 := Classical.not_not.1 e3
  subst e3
  have HN := Lib.hid (addV_told (a := .mk k1 n1 s1 keys1 list1) (b := .mk k1 n2 s2 keys2 list2) e1 e2 rfl)
  by_cases g3 : k1 = 3
  · subst g3
    have hn3 : -2000000 ≤ n1 + n2 ∧ n1 + n2 ≤ 2000000 := by omega
    have hwr : IntKind.i64.wrap (n1 + n2) = n1 + n2 := by rw [IntKind.wrap_i64]; omega
    go_wp2_with fail
    refine (num_calls _ _).mono ?_
    rintro e w3 ⟨rfl, hb3⟩
    have HB3 := Lib.hid (HW2.out.trans (hb3.mono HW2.out.size))
    have HR3 := Lib.hid (HRb.out.below hb3)
    have hz3 := hb3.size
    clear hb3 cP fP cQ fQ cR fR
    obtain ⟨cR, fR⟩ := blk_rules HR3.out
    have HRAW := Lib.hid (show addV (.mk 3 n1 s1 keys1 list1) (.mk 3 n2 s2 keys2 list2) = toldV (some (.mk 3 (n1 + n2) ⟨#[]⟩ [] [])) from HN.out.trans rfl)
    have HB5 := Lib.hid (HB3.out)
    have HR5 := Lib.hid (HR3.out)
    go_wp2_with fail
    refine (iTold_calls (.mk 3 (n1 + n2) ⟨#[]⟩ [] []) [_, _, _, _, _] _ 0 (by first | omega | exact Nat.le_refl _) (rdv_flat (by decide))).mono ?_
    intro e w6 hP
    obtain ⟨v, d0, d1, d2, A9, n9, c9, A10, n10, c10, fp, hv, rfl, HO, HF, hb6⟩ | ⟨hn, rfl, hb6⟩ := hP.split
    · have HV := Lib.hid (HRAW.out.trans hv)
      have HR6 := Lib.hid (HR5.out.below hb6)
      have HB6 := Lib.hid (HB5.out.trans (hb6.mono HB5.out.size))
      clear hb6 hv
      (try clear cP fP; try clear cQ fQ; try clear cR fR; try clear cO fO)
      obtain ⟨cR, fR⟩ := blk_rules HR6.out
      go_wp2
      refine bodyPost_ret (v := .tuple #[.agg #[.int .i64 d0, .int .i64 d1, .string d2, .slice A9 n9 c9, .slice A10 n10 c10], .bool true]) (by simp [results, Tryz.results65, go_sem, cR]) rfl ?_
      exact PTwo.laid (vs := [.int .i64 d0, .int .i64 d1, .string d2, .slice A9 n9 c9, .slice A10 n10 c10]) (g := w.heap.size + 1 + 1) (o := 0) HV.out HO.out HF.out HB6.out (by omega) (by omega)
    · have HV := Lib.hid (HRAW.out.trans hn)
      have HR6 := Lib.hid (HR5.out.below hb6)
      have HB6 := Lib.hid (HB5.out.trans (hb6.mono HB5.out.size))
      clear hb6 hn
      (try clear cP fP; try clear cQ fQ; try clear cR fR; try clear cO fO)
      obtain ⟨cR, fR⟩ := blk_rules HR6.out
      go_wp2
      refine bodyPost_ret (v := .tuple #[.agg #[.int .i64 0, .int .i64 0, .string ⟨#[]⟩, .slice none 0 0, .slice none 0 0], .bool false]) (by simp [results, Tryz.results65, go_sem, cR]) rfl ?_
      exact PTwo.none_laid (g := w.heap.size + 1 + 1) (o := 0) HV.out HB6.out (by omega)
  by_cases g4 : k1 = 4
  · subst g4
    go_wp2_with fail
    refine (str_calls _ _).mono ?_
    rintro e w3 ⟨rfl, hb3⟩
    have HB3 := Lib.hid (HW2.out.trans (hb3.mono HW2.out.size))
    have HR3 := Lib.hid (HRb.out.below hb3)
    have hz3 := hb3.size
    clear hb3 cP fP cQ fQ cR fR
    obtain ⟨cR, fR⟩ := blk_rules HR3.out
    have HRAW := Lib.hid (show addV (.mk 4 n1 s1 keys1 list1) (.mk 4 n2 s2 keys2 list2) = toldV (some (.mk 4 0 (s1 ++ s2) [] [])) from HN.out.trans rfl)
    have HB5 := Lib.hid (HB3.out)
    have HR5 := Lib.hid (HR3.out)
    go_wp2_with fail
    refine (iTold_calls (.mk 4 0 (s1 ++ s2) [] []) [_, _, _, _, _] _ 0 (by first | omega | exact Nat.le_refl _) (rdv_flat (by rw [ByteArray.size_append]; omega))).mono ?_
    intro e w6 hP
    obtain ⟨v, d0, d1, d2, A9, n9, c9, A10, n10, c10, fp, hv, rfl, HO, HF, hb6⟩ | ⟨hn, rfl, hb6⟩ := hP.split
    · have HV := Lib.hid (HRAW.out.trans hv)
      have HR6 := Lib.hid (HR5.out.below hb6)
      have HB6 := Lib.hid (HB5.out.trans (hb6.mono HB5.out.size))
      clear hb6 hv
      (try clear cP fP; try clear cQ fQ; try clear cR fR; try clear cO fO)
      obtain ⟨cR, fR⟩ := blk_rules HR6.out
      go_wp2
      refine bodyPost_ret (v := .tuple #[.agg #[.int .i64 d0, .int .i64 d1, .string d2, .slice A9 n9 c9, .slice A10 n10 c10], .bool true]) (by simp [results, Tryz.results65, go_sem, cR]) rfl ?_
      exact PTwo.laid (vs := [.int .i64 d0, .int .i64 d1, .string d2, .slice A9 n9 c9, .slice A10 n10 c10]) (g := w.heap.size + 1 + 1) (o := 0) HV.out HO.out HF.out HB6.out (by omega) (by omega)
    · have HV := Lib.hid (HRAW.out.trans hn)
      have HR6 := Lib.hid (HR5.out.below hb6)
      have HB6 := Lib.hid (HB5.out.trans (hb6.mono HB5.out.size))
      clear hb6 hn
      (try clear cP fP; try clear cQ fQ; try clear cR fR; try clear cO fO)
      obtain ⟨cR, fR⟩ := blk_rules HR6.out
      go_wp2
      refine bodyPost_ret (v := .tuple #[.agg #[.int .i64 0, .int .i64 0, .string ⟨#[]⟩, .slice none 0 0, .slice none 0 0], .bool false]) (by simp [results, Tryz.results65, go_sem, cR]) rfl ?_
      exact PTwo.none_laid (g := w.heap.size + 1 + 1) (o := 0) HV.out HB6.out (by omega)
  by_cases g5 : k1 = 5
  · subst g5
    obtain ⟨_, _, u1, ea, _, _, hra, hva⟩ := HLA.out
    injection ea with ea1 _ ea2
    subst ea1 ea2
    obtain ⟨_, _, u2, eb, _, _, hrb, hvb⟩ := HLB.out
    injection eb with eb1 _ eb2
    subst eb1 eb2
    have HBX := Lib.hid (HW2.out.trans ((below_box w2 (.cells #[.slice A2 list1.length c2, .slice A4 list2.length c4] 30)).mono HW2.out.size))
    have H1 := Lib.hid (show Reads (w2.alloc (.cells #[.slice A2 list1.length c2, .slice A4 list2.length c4] 30)) B 5 A2 list1.length u1 from Reads.keep hra fun p hp => (HBX.out.cell (by omega)))
    have H2 := Lib.hid (show Reads (w2.alloc (.cells #[.slice A2 list1.length c2, .slice A4 list2.length c4] 30)) B 5 A4 list2.length u2 from Reads.keep hrb fun p hp => (HBX.out.cell (by omega)))
    have O1 := Lib.hid (RDv.one _ _ hva)
    have O2 := Lib.hid (RDv.one _ _ hvb)
    have HVA := Lib.hid hva
    have HVB := Lib.hid hvb
    have hBz : B ≤ w2.heap.size := by omega
    clear hra hva hrb hvb
    go_wp2_with fail
    refine (concat_calls w2.heap.size list1.length list2.length c2 c4 A2 A4 u1 u2 (w2.alloc (.cells #[.slice A2 list1.length c2, .slice A4 list2.length c4] 30)) B (by simp; omega) (Blk.new w2 _ [_, _]) H1.out H2.out O1.out O2.out (by omega) (by omega)).mono ?_
    rintro e w3 ⟨A5, c5, rfl, ho3, hb3⟩
    have HO3 := Lib.hid ho3
    have HB3 := Lib.hid (HBX.out.trans (hb3.mono (by have := HW2.out.size; simp; omega)))
    have HR3 := Lib.hid ((HRb.out.alloc _).below hb3)
    have hz3 : w2.heap.size + 1 ≤ w3.heap.size := by have := hb3.size; simpa using this
    clear ho3 hb3 cP fP cQ fQ cR fR H1 H2
    go_wp2_with fail
    refine (row_calls _ _ _ _).mono ?_
    rintro e w4 ⟨rfl, hb4⟩
    have HB4 := Lib.hid (HB3.out.trans (hb4.mono (by omega)))
    have HR4 := Lib.hid (HR3.out.below hb4)
    have hz4 := hb4.size
    have HL4 := Lib.hid (show RD w4 w4.heap.size (.row 5 (list1 ++ list2).length (valsDs (list1 ++ list2))) (.slice A5 (list1.length + list2.length) c5) from by
      rw [List.length_append]
      refine rd_of_owns (owns_below HO3.out hb4) ?_
      rw [vpush]
      have hs : Sub B w w4 := Sub.of_below (HB4.out.mono hB)
      exact RDv.append_iff.2 ⟨_, _, rfl, RDv.grow (by omega) hs _ _ HVA.out, RDv.grow (by omega) hs _ _ HVB.out⟩)
    clear hb4
    obtain ⟨cR, fR⟩ := blk_rules HR4.out
    have HRAW := Lib.hid (show addV (.mk 5 n1 s1 keys1 list1) (.mk 5 n2 s2 keys2 list2) = toldV (some (.mk 5 0 ⟨#[]⟩ [] (list1 ++ list2))) from HN.out.trans rfl)
    have HB5 := Lib.hid (HB4.out)
    have HR5 := Lib.hid (HR4.out)
    go_wp2_with fail
    have HL5 : RD w4 w4.heap.size (.row 5 (list1 ++ list2).length (valsDs (list1 ++ list2))) (.slice A5 (list1 ++ list2).length c5) := by have h := HL4.out; rwa [show list1.length + list2.length = (list1 ++ list2).length from List.length_append.symm] at h
    rw [show list1.length + list2.length = (list1 ++ list2).length from List.length_append.symm]
    refine (iTold_calls (.mk 5 0 ⟨#[]⟩ [] (list1 ++ list2)) [_, _, _, _, _] _ w4.heap.size (by first | omega | exact Nat.le_refl _) (rdv_mk (by decide) (rd_nil _ _ _) HL5)).mono ?_
    intro e w6 hP
    obtain ⟨v, d0, d1, d2, A9, n9, c9, A10, n10, c10, fp, hv, rfl, HO, HF, hb6⟩ | ⟨hn, rfl, hb6⟩ := hP.split
    · have HV := Lib.hid (HRAW.out.trans hv)
      have HR6 := Lib.hid (HR5.out.below hb6)
      have HB6 := Lib.hid (HB5.out.trans (hb6.mono HB5.out.size))
      clear hb6 hv
      (try clear cP fP; try clear cQ fQ; try clear cR fR; try clear cO fO)
      obtain ⟨cR, fR⟩ := blk_rules HR6.out
      go_wp2
      refine bodyPost_ret (v := .tuple #[.agg #[.int .i64 d0, .int .i64 d1, .string d2, .slice A9 n9 c9, .slice A10 n10 c10], .bool true]) (by simp [results, Tryz.results65, go_sem, cR]) rfl ?_
      exact PTwo.laid (vs := [.int .i64 d0, .int .i64 d1, .string d2, .slice A9 n9 c9, .slice A10 n10 c10]) (g := w.heap.size + 1 + 1) (o := 0) HV.out HO.out HF.out HB6.out (by omega) (by omega)
    · have HV := Lib.hid (HRAW.out.trans hn)
      have HR6 := Lib.hid (HR5.out.below hb6)
      have HB6 := Lib.hid (HB5.out.trans (hb6.mono HB5.out.size))
      clear hb6 hn
      (try clear cP fP; try clear cQ fQ; try clear cR fR; try clear cO fO)
      obtain ⟨cR, fR⟩ := blk_rules HR6.out
      go_wp2
      refine bodyPost_ret (v := .tuple #[.agg #[.int .i64 0, .int .i64 0, .string ⟨#[]⟩, .slice none 0 0, .slice none 0 0], .bool false]) (by simp [results, Tryz.results65, go_sem, cR]) rfl ?_
      exact PTwo.none_laid (g := w.heap.size + 1 + 1) (o := 0) HV.out HB6.out (by omega)
  by_cases g6 : k1 ≠ 6
  · have HRW := Lib.hid (show addRaw (.mk k1 n1 s1 keys1 list1) (.mk k1 n2 s2 keys2 list2) = none from by simp only [addRaw]; rw [if_neg g3, if_neg g4, if_neg g5, if_neg g6])
    have HV := Lib.hid (show addV (.mk k1 n1 s1 keys1 list1) (.mk k1 n2 s2 keys2 list2) = none from HN.out.trans (congrArg toldV HRW.out))
    have HW3 := HW2.out
    go_wp2
    refine bodyPost_ret (v := .tuple #[.agg #[.int .i64 0, .int .i64 0, .string ⟨#[]⟩, .slice none 0 0, .slice none 0 0], .bool false]) (by simp [results, Tryz.results65, go_sem, cR]) rfl ?_
    exact PTwo.none_laid (g := w.heap.size + 1 + 1) (o := 0) HV.out HW3 (by omega)
  obtain rfl : k1 = 6 := Classical.not_not.1 g6
  obtain rfl : n1 = 0 := HQ1.out.1 (by decide)
  obtain rfl : s1 = ⟨#[]⟩ := HQ1.out.2.1 (by decide)
  have HRW := Lib.hid (show addRaw (.mk 6 0 ⟨#[]⟩ keys1 list1) (.mk 6 n2 s2 keys2 list2) = some (ofPairs (putAll (keys1.zip list1) (keys2.zip list2))) from rfl)
  have HL1 := Lib.hid (HQ9.out rfl).1
  have HL2 := Lib.hid (HR9.out rfl).1
  obtain ⟨w4, ew⟩ : ∃ W : World, W = w2.alloc (.cells #[.int .i64 6, .int .i64 0, .string ⟨#[]⟩, .slice A1 keys1.length c1, .slice A2 list1.length c2] 32) := ⟨_, rfl⟩
  have HB4 := Lib.hid (show Below w2.heap.size w2 w4 from ew ▸ below_box _ _)
  have hz4 : w2.heap.size + 1 = w4.heap.size := by rw [ew]; simp
  have HP4 := Lib.hid (HPb.out.below HB4.out)
  have HQ4 := Lib.hid (HQb.out.below HB4.out)
  have HR4 := Lib.hid (HRb.out.below HB4.out)
  have HO4 := Lib.hid (show Blk w4 w2.heap.size 32 [.int .i64 6, .int .i64 0, .string ⟨#[]⟩, .slice A1 keys1.length c1, .slice A2 list1.length c2] from ew ▸ Blk.new _ _ _)
  have HE4 := Lib.hid ew
  have HW4 := Lib.hid (HW2.out.trans (HB4.out.mono (by omega)))
  clear ew
  have HI4 := Lib.hid (AddInv.start (c := keys1.zip list1) (cells := [.int .i64 6, .int .i64 0, .string ⟨#[]⟩, .slice A1 keys1.length c1, .slice A2 list1.length c2]) HE4.out (by rw [ofPairs_pairs HL1.out]; exact RDv.grow (by omega) (Sub.of_below (HW2.out.mono hB)) _ _ HA.out))
  have HPA := Lib.hid (PutAt.start (a := keys1.zip list1) (b := keys2.zip list2) (by rw [List.map_fst_zip (by have := HL1.out; omega)]; exact (HQ9.out rfl).2))
  go_upto_region 18 with fail
  rw [← HE4.out]
  clear cP fP cQ fQ cR fR
  obtain ⟨cP, fP⟩ := blk_rules HP4.out
  obtain ⟨cQ, fQ⟩ := blk_rules HQ4.out
  obtain ⟨cR, fR⟩ := blk_rules HR4.out
  obtain ⟨cO, fO⟩ := blk_rules HO4.out
  go_wp2
  go_loopw [83] (fun i w' => ∃ (k : Nat) (c : List (ByteArray × Val)) (cells : List Value), k ≤ keys2.length ∧ i = .int .i64 k ∧ Hid (PutAt (keys1.zip list1) (keys2.zip list2) k c) ∧ Hid (AddInv w4 w2.heap.size c cells w')) (fun i _ => keys2.length - (intOf i).toNat)
  case atStart => exact ⟨0, _, _, by omega, rfl, HPA, HI4⟩
  case round =>
    obtain ⟨k, c, cells, hk, rfl, HP, HI⟩ := hrel
    obtain ⟨A9, m9, q9, A10, m10, q10, rfl⟩ := HI.out.shape
    have hzr := HI.out.upd.size
    have hne : ∀ g, g < w2.heap.size → g ∉ [w2.heap.size] := fun g hg hm => by have := List.mem_singleton.1 hm; omega
    have HPr := Lib.hid (HI.out.upd.blk (hne _ (by omega)) HP4.out)
    have HQr := Lib.hid (HI.out.upd.blk (hne _ (by omega)) HQ4.out)
    have HRr := Lib.hid (HI.out.upd.blk (hne _ (by omega)) HR4.out)
    have HWr := Lib.hid (HW4.out.trans (HI.out.upd.to_below (B := w.heap.size) (fun b hm => by have := List.mem_singleton.1 hm; omega) (by omega)))
    clear hne cP fP cQ fQ cR fR cO fO
    obtain ⟨cP, fP⟩ := blk_rules HPr.out
    obtain ⟨cQ, fQ⟩ := blk_rules HQr.out
    obtain ⟨cR, fR⟩ := blk_rules HRr.out
    obtain ⟨cO, fO⟩ := blk_rules HI.out.blk
    by_cases hlt : k < keys2.length
    · obtain ⟨ad, key, rfl, hab, hac0, hk9, HD1⟩ := row1_at HKB.out rfl hlt
      obtain ⟨ad2, x, e0, e1, e2, e3, e4, rfl, hab2, hx5, hm5, HD5, y0, y1, y2, y3, y4⟩ := row5_at HLB.out rfl (show k < list2.length by rw [← HL2.out]; exact hlt)
      have hlk : k < list2.length := by rw [← HL2.out]; exact hlt
      have hl2 := HLB.out.len
      have j0 : (0 : Int) ≤ (k : Int) := by omega
      have j1 : (k : Int) < (keys2.length : Int) := by omega
      have j2 : (k : Int) < (list2.length : Int) := by omega
      have HX5 := Lib.hid (RDv.grow (Nat.le_trans hB (show w.heap.size ≤ wr.heap.size by have := HWr.out.size; omega)) (sub_bare (show B ≤ w2.heap.size by omega) (Sub.of_below (HWr.out.mono hB))) _ _ hx5)
      have hac : wr.cell? (ad.add k) = some (.string key) := (HWr.out.cell (by rw [block_of_add]; omega)).trans hac0
      have z0 : wr.cell? (ad2.add (k * 5)) = some e0 := (HWr.out.cell (by show (ad2.add (k * 5)).block < _; rw [block_of_add]; omega)).trans y0
      have z1 : wr.cell? ⟨(ad2.add (k * 5)).block, (ad2.add (k * 5)).off + 1, none⟩ = some e1 := (HWr.out.cell (by show (ad2.add (k * 5)).block < _; rw [block_of_add]; omega)).trans y1
      have z2 : wr.cell? ⟨(ad2.add (k * 5)).block, (ad2.add (k * 5)).off + 2, none⟩ = some e2 := (HWr.out.cell (by show (ad2.add (k * 5)).block < _; rw [block_of_add]; omega)).trans y2
      have z3 : wr.cell? ⟨(ad2.add (k * 5)).block, (ad2.add (k * 5)).off + 3, none⟩ = some e3 := (HWr.out.cell (by show (ad2.add (k * 5)).block < _; rw [block_of_add]; omega)).trans y3
      have z4 : wr.cell? ⟨(ad2.add (k * 5)).block, (ad2.add (k * 5)).off + 4, none⟩ = some e4 := (HWr.out.cell (by show (ad2.add (k * 5)).block < _; rw [block_of_add]; omega)).trans y4
      have HPS := Lib.hid (HP.out.step (zip_drop_at HD1.out HD5.out))
      have HC1 := Lib.hid (show c.length ≤ 1000 by have h := HP.out.2.2.1; rw [List.length_zip] at h; omega)
      clear hac0 hx5 hm5 y0 y1 y2 y3 y4
      go_upto_region 21 with fail
      go_still_tail 7, (by kernel_rfl)
      change wpList _ _ _ _ _ wr.drew
      go_wp2_with fail
      refine (iPut_calls (ofPairs c) key x [_, _, _, _, _] [_, _, _, _, _] wr.drew (bare wr w2.heap.size) wr.heap.size (Nat.le_refl _) (bare_sub _ _ _) HI.out.rd HX5.out hk9 (by simp [ofPairs, vKeys, vList]) (by have := HC1.out; simp only [ofPairs, vKeys, List.length_map]; omega) HP.out.2.1).mono ?_
      rintro e w5 ⟨vs, rfl, hr, hb5⟩
      rw [pairs_of] at hr
      have HST := Lib.hid (HI.out.step (w5 := w5) (c' := putP c key x) (cells' := vs) (by have h := RDv.length_eq (hr w5 (Sub.trans (bare_sub _ _ _) (Sub.of_below ⟨hb5.os, hb5.tape, hb5.output, hb5.size, hb5.block⟩)) (fun _ _ _ => rfl) rfl); rw [valDs_length] at h; exact h.symm) ⟨hb5.os, hb5.tape, hb5.output, hb5.size, hb5.block⟩ hr)
      obtain ⟨A11, m11, q11, A12, m12, q12, rfl⟩ := HST.out.shape
      have HO5 := Lib.hid (show Blk w5 w2.heap.size 32 [.int .i64 6, .int .i64 0, .string ⟨#[]⟩, .slice A9 m9 q9, .slice A10 m10 q10] from HI.out.blk.same (hb5.block _ HI.out.blk.lt))
      clear hr hb5 cO fO hac z0 z1 z2 z3 z4
      obtain ⟨cO, fO⟩ := blk_rules HO5.out
      go_wp2
      go_roundw
      case rel => exact ⟨k + 1, _, _, by omega, by go_num, HPS, HST⟩
      case measure => simp [intOf]; omega
    · obtain rfl : k = keys2.length := by omega
      have HPD := Lib.hid (show c = putAll (keys1.zip list1) (keys2.zip list2) from PutAt.done (by have h := HP.out; rwa [show keys2.length = (keys2.zip list2).length from by have := HL2.out; rw [List.length_zip]; omega] at h))
      have HCN := Lib.hid (show valCnt (ofPairs c) ≤ 1099511627776 from by have h1 := HCA.out; have h2 := HCB.out; have h3 := HP.out.2.2.2; have h4 := HL1.out; have h5 := HL2.out; rw [List.take_of_length_le (by rw [List.length_zip]; omega), List.map_snd_zip (by omega), List.map_snd_zip (by omega)] at h3; simp only [ofPairs, valCnt] at *; omega)
      have HRAWM := Lib.hid (show addV (.mk 6 0 ⟨#[]⟩ keys1 list1) (.mk 6 n2 s2 keys2 list2) = toldV (some (ofPairs c)) from HN.out.trans (congrArg toldV (HRW.out.trans (congrArg (fun c => some (ofPairs c)) HPD.out.symm))))
      have HRAW := Lib.hid (HRAWM.out)
      have HB5 := Lib.hid (HWr.out)
      have HR5 := Lib.hid (HRr.out)
      go_wp2_with fail
      refine (iTold_calls (ofPairs c) [_, _, _, _, _] wr wr.heap.size (by first | omega | exact Nat.le_refl _) (RDv.grow (Nat.le_refl _) (bare_sub _ _ _) _ _ HI.out.rd)).mono ?_
      intro e w6 hP
      obtain ⟨v, d0, d1, d2, A9, n9, c9, A10, n10, c10, fp, hv, rfl, HO, HF, hb6⟩ | ⟨hn, rfl, hb6⟩ := hP.split
      · have HV := Lib.hid (HRAW.out.trans hv)
        have HR6 := Lib.hid (HR5.out.below hb6)
        have HB6 := Lib.hid (HB5.out.trans (hb6.mono HB5.out.size))
        clear hb6 hv
        (try clear cP fP; try clear cQ fQ; try clear cR fR; try clear cO fO)
        obtain ⟨cR, fR⟩ := blk_rules HR6.out
        go_wp2
        refine bodyPost_ret (v := .tuple #[.agg #[.int .i64 d0, .int .i64 d1, .string d2, .slice A9 n9 c9, .slice A10 n10 c10], .bool true]) (by simp [results, Tryz.results65, go_sem, cR]) rfl ?_
        exact PTwo.laid (vs := [.int .i64 d0, .int .i64 d1, .string d2, .slice A9 n9 c9, .slice A10 n10 c10]) (g := w.heap.size + 1 + 1) (o := 0) HV.out HO.out HF.out HB6.out (by omega) (by omega)
      · have HV := Lib.hid (HRAW.out.trans hn)
        have HR6 := Lib.hid (HR5.out.below hb6)
        have HB6 := Lib.hid (HB5.out.trans (hb6.mono HB5.out.size))
        clear hb6 hn
        (try clear cP fP; try clear cQ fQ; try clear cR fR; try clear cO fO)
        obtain ⟨cR, fR⟩ := blk_rules HR6.out
        go_wp2
        refine bodyPost_ret (v := .tuple #[.agg #[.int .i64 0, .int .i64 0, .string ⟨#[]⟩, .slice none 0 0, .slice none 0 0], .bool false]) (by simp [results, Tryz.results65, go_sem, cR]) rfl ?_
        exact PTwo.none_laid (g := w.heap.size + 1 + 1) (o := 0) HV.out HB6.out (by omega)
end Go.Proofs.YtppfgepoegicgaaGreatDoor
