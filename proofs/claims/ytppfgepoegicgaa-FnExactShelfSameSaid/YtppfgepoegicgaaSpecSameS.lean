import Derived.Test.YtppfgepoegicgaaSpecSameV
import Derived.Test.YtppfgepoegicgaaAskerRows
namespace Go.Proofs.Ytppfgepoegicgaa
open Go Go.RowKit

set_option maxRecDepth 100000 in
set_option maxHeartbeats 2000000 in
theorem sSameAsker_calls (v v' : Asker) (us us' : List Value) (w : World) (B : Nat) (hB : B ≤ w.heap.size) (h : RDv w B (askerDs v) us) (h' : RDv w B (askerDs v') us') :
    Calls Try.prog 35 #[.agg us.toArray, .agg us'.toArray] w (PBool (v = v') w) := by
  obtain ⟨A, c, rfl, hs, hl⟩ := askerDs_open h
  obtain ⟨A', c', rfl, hs', hl'⟩ := askerDs_open h'
  obtain ⟨name, most, fuel, trees⟩ := v
  obtain ⟨name', most', fuel', trees'⟩ := v'
  simp only at hs hl hs' hl'
  clear h h'
  have hn1 := hl.len
  have hn2 := hl'.len
  have hbx := fun o1 o2 => below_box2 w o1 o2
  by_cases t1 : name = name'
  case neg =>
    have d1 := str_ne t1
    go_enter Try.func35, Try.ntmps35
    go_wp2
    go_ret
    exact PBool.no (fun e => absurd (by injection e) t1) (hbx _ _)
  subst t1
  by_cases t2 : most = most'
  case neg =>
    have d2 : (most != most') = true := by simp [t2]
    go_enter Try.func35, Try.ntmps35
    go_wp2
    go_ret
    exact PBool.no (fun e => absurd (by injection e) t2) (hbx _ _)
  subst t2
  by_cases t3 : fuel = fuel'
  case neg =>
    have d3 : (fuel != fuel') = true := by simp [t3]
    go_enter Try.func35, Try.ntmps35
    go_wp2
    go_ret
    exact PBool.no (fun e => absurd (by injection e) t3) (hbx _ _)
  subst t3
  by_cases t5 : trees.length = trees'.length
  case neg =>
    have d5 : ((trees.length : Int) != (trees'.length : Int)) = true := by simp; omega
    go_enter Try.func35, Try.ntmps35
    go_wp2
    go_ret
    exact PBool.no (fun e => absurd (by injection e with _ _ _ e; rw [e]) t5) (hbx _ _)
  have d5 : ((trees.length : Int) != (trees'.length : Int)) = false := by simp; omega
  have HL := Lib.hid hl
  have HL' := Lib.hid hl'
  have T5 := Lib.hid t5
  clear hl hl' t5
  go_enter Try.func35, Try.ntmps35
  go_wp2
  clear d5
  go_loopw [5] (fun i w' => ∃ (k : Nat), k ≤ trees.length ∧ i = .int .i64 k ∧ Hid (trees.take k = trees'.take k) ∧ Below (w.heap.size + 1 + 1) ((w.alloc (.cells #[.string name, .int .i64 most, .int .i64 fuel, .slice A trees.length c] 61)).alloc (.cells #[.string name, .int .i64 most, .int .i64 fuel, .slice A' trees'.length c'] 61)) w') (fun i _ => trees.length - (intOf i).toNat)
  case atStart => exact ⟨0, by omega, rfl, rfl, Below.refl _ _⟩
  case round =>
    obtain ⟨k, hk, rfl, HT, hb0⟩ := hrel
    obtain ⟨hb, hz, bP, bR⟩ := boxes2 (P := [_, _, _, _]) (R := [_, _, _, _]) hb0
    obtain ⟨cP, fP⟩ := blk_rules bP
    obtain ⟨cR, fR⟩ := blk_rules bR
    by_cases hlt : k < trees.length
    · have hlt' : k < trees'.length := by have := T5.out; omega
      obtain ⟨ad, v, x0, x1, x2, x3, x4, x5, rfl, hbl, hv, hm, hd, y0, y1, y2, y3, y4, y5⟩ := row6_at (HL.out.upto (hb.mono hB) (Nat.le_refl _)) rfl hlt
      obtain ⟨ad', v', x0', x1', x2', x3', x4', x5', rfl, hbl', hv', hm', hd', y0', y1', y2', y3', y4', y5'⟩ := row6_at (HL'.out.upto (hb.mono hB) (Nat.le_refl _)) rfl hlt'
      have HT2 := Lib.hid (take_eq_succ HT.out hd.out hd'.out)
      obtain ⟨_, e1, hsz, hvv⟩ := keptDs_open hv
      obtain ⟨_, e2, hsz', hvv'⟩ := keptDs_open hv'
      injection e1 with e1 e3
      injection e2 with e2 e4
      subst e1 e2 e3 e4
      have j0 : (0 : Int) ≤ (k : Int) := by omega
      have j1 : (k : Int) < (trees.length : Int) := by omega
      have j2 : (k : Int) < (trees'.length : Int) := by omega
      have hD : Below wr.heap.size wr wr.drew := (Below.refl _ _).drew
      have hBr : B ≤ wr.heap.size := by omega
      by_cases t : v.name = v'.name
      · have d7 : (v.name.toList == v'.name.toList) = true := by rw [t]; exact beq_self_eq_true _
        go_wp2_with fail
        go_still_tail 26, (by kernel_rfl)
        change wpList _ _ _ _ _ wr.drew
        go_wp2_with fail
        refine (sSameVal_calls v.v v'.v [_, _, _, _, _] [_, _, _, _, _] wr.drew B hBr (hvv.below (hD.mono hBr)) (hvv'.below (hD.mono hBr))).mono ?_
        rintro e w1 ⟨r, rfl, hr, hb1⟩
        have HR := Lib.hid hr
        have hb2 := hb0.trans ((hD.trans hb1).mono hz)
        clear hr cP fP cR fR
        obtain ⟨hbb, hzz, bP2, bR2⟩ := boxes2 (P := [_, _, _, _]) (R := [_, _, _, _]) hb2
        cases r with
        | true =>
          have HT3 := Lib.hid (HT2.out.2 (by
            have := HR.out.1 rfl
            obtain ⟨a, b⟩ := v
            obtain ⟨a', b'⟩ := v'
            simp only at t this
            rw [t, this]))
          clear HT2
          go_wp2
          go_roundw
          case rel => exact ⟨k + 1, by omega, by go_num, HT3, hb2⟩
          case measure => simp [intOf]; omega
        | false =>
          have HT3 := Lib.hid (show trees ≠ trees' from ne_of_take (k := k + 1) fun e => absurd (HR.out.2 (by rw [HT2.out.1 e])) (by simp))
          clear HT2
          go_wp2
          go_ret
          exact PBool.no (fun e => absurd (by injection e) HT3.out) hbb
      · have d7 := str_ne t
        have HT3 := Lib.hid (show trees ≠ trees' from ne_of_take (k := k + 1) fun e => t (by rw [HT2.out.1 e]))
        clear HT2
        go_wp2_with fail
        go_quiet (fail)
        go_wp2
        go_ret
        exact PBool.no (fun e => absurd (by injection e) HT3.out) (below_drewN hb _)
    · have e : k = trees.length := by omega
      have h2 := HT.out
      rw [e, List.take_length, T5.out, List.take_length] at h2
      subst h2
      clear HT e T5
      go_wp2
      go_ret
      exact PBool.yes trivial hb

set_option maxRecDepth 100000 in
set_option maxHeartbeats 2000000 in
theorem sShelfSame_calls (v v' : Shelf) (us us' : List Value) (w : World) (B : Nat) (hB : B ≤ w.heap.size) (h : RDv w B (shelfDs v) us) (h' : RDv w B (shelfDs v') us') :
    Calls Try.prog 11 #[.agg us.toArray, .agg us'.toArray] w (PBool (v = v') w) := by
  obtain ⟨A, c, rfl, hl⟩ := shelfDs_open h
  obtain ⟨A', c', rfl, hl'⟩ := shelfDs_open h'
  obtain ⟨askers⟩ := v
  obtain ⟨askers'⟩ := v'
  simp only at hl hl'
  clear h h'
  have hn1 := hl.len
  have hn2 := hl'.len
  have hbx := fun o1 o2 => below_box2 w o1 o2
  by_cases t5 : askers.length = askers'.length
  case neg =>
    have d5 : ((askers.length : Int) != (askers'.length : Int)) = true := by simp; omega
    go_enter Try.func11, Try.ntmps11
    go_wp2
    go_ret
    exact PBool.no (fun e => absurd (by injection e with e; rw [e]) t5) (hbx _ _)
  have d5 : ((askers.length : Int) != (askers'.length : Int)) = false := by simp; omega
  have HL := Lib.hid hl
  have HL' := Lib.hid hl'
  have T5 := Lib.hid t5
  clear hl hl' t5
  go_enter Try.func11, Try.ntmps11
  go_wp2
  clear d5
  go_loopw [5] (fun i w' => ∃ (k : Nat), k ≤ askers.length ∧ i = .int .i64 k ∧ Hid (askers.take k = askers'.take k) ∧ Below (w.heap.size + 1 + 1) ((w.alloc (.cells #[.slice A askers.length c] 29)).alloc (.cells #[.slice A' askers'.length c'] 29)) w') (fun i _ => askers.length - (intOf i).toNat)
  case atStart => exact ⟨0, by omega, rfl, rfl, Below.refl _ _⟩
  case round =>
    obtain ⟨k, hk, rfl, HT, hb0⟩ := hrel
    obtain ⟨hb, hz, bP, bR⟩ := boxes2 (P := [_]) (R := [_]) hb0
    obtain ⟨cP, fP⟩ := blk_rules bP
    obtain ⟨cR, fR⟩ := blk_rules bR
    by_cases hlt : k < askers.length
    · have hlt' : k < askers'.length := by have := T5.out; omega
      obtain ⟨ad, v, x0, x1, x2, x3, rfl, hbl, hv, hm, hd, y0, y1, y2, y3⟩ := row4_at (HL.out.upto (hb.mono hB) (Nat.le_refl _)) rfl hlt
      obtain ⟨ad', v', x0', x1', x2', x3', rfl, hbl', hv', hm', hd', y0', y1', y2', y3'⟩ := row4_at (HL'.out.upto (hb.mono hB) (Nat.le_refl _)) rfl hlt'
      have HT2 := Lib.hid (take_eq_succ HT.out hd.out hd'.out)
      have j0 : (0 : Int) ≤ (k : Int) := by omega
      have j1 : (k : Int) < (askers.length : Int) := by omega
      have j2 : (k : Int) < (askers'.length : Int) := by omega
      have hD : Below wr.heap.size wr wr.drew := (Below.refl _ _).drew
      have hBr : B ≤ wr.heap.size := by omega
      go_wp2_with fail
      go_still_tail 10, (by kernel_rfl)
      change wpList _ _ _ _ _ wr.drew
      go_wp2_with fail
      refine (sSameAsker_calls v v' _ _ wr.drew B hBr (hv.below (hD.mono hBr)) (hv'.below (hD.mono hBr))).mono ?_
      rintro e w1 ⟨r, rfl, hr, hb1⟩
      have HR := Lib.hid hr
      have hb2 := hb0.trans ((hD.trans hb1).mono hz)
      clear hr cP fP cR fR
      obtain ⟨hbb, hzz, bP2, bR2⟩ := boxes2 (P := [_]) (R := [_]) hb2
      cases r with
      | true =>
        have HT3 := Lib.hid (HT2.out.2 (HR.out.1 rfl))
        clear HT2
        go_wp2
        go_roundw
        case rel => exact ⟨k + 1, by omega, by go_num, HT3, hb2⟩
        case measure => simp [intOf]; omega
      | false =>
        have HT3 := Lib.hid (show askers ≠ askers' from ne_of_take (k := k + 1) fun e => absurd (HR.out.2 (HT2.out.1 e)) (by simp))
        clear HT2
        go_wp2
        go_ret
        exact PBool.no (fun e => absurd (by injection e) HT3.out) hbb
    · have e : k = askers.length := by omega
      have h2 := HT.out
      rw [e, List.take_length, T5.out, List.take_length] at h2
      subst h2
      clear HT e T5
      go_wp2
      go_ret
      exact PBool.yes trivial hb
end Go.Proofs.Ytppfgepoegicgaa
