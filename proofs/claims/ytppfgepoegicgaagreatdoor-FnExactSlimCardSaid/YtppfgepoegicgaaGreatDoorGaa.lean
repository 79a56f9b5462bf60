/- Parts of the proof: SpecSameV, ValEfR, ImplSameV. -/
import Derived.Test.YtppfgepoegicgaaGreatDoorGa
namespace Go.Proofs.YtppfgepoegicgaaGreatDoor
open Go Go.RowKit

def SSameVal (v v' : Val) : Prop := ∀ (us us' : List Value) (w : World) (B : Nat), B ≤ w.heap.size → RDv w B (valDs v) us → RDv w B (valDs v') us' →
  Calls Tryz.prog 69 #[.agg us.toArray, .agg us'.toArray] w (PBool (v = v') w)

theorem take_eq_succ {α : Type} {a b : List α} {k : Nat} {x y : α} (h : a.take k = b.take k) (ha : a.drop k = x :: a.drop (k + 1)) (hb : b.drop k = y :: b.drop (k + 1)) : (a.take (k + 1) = b.take (k + 1)) ↔ x = y := by
  have e1 : a.take (k + 1) = a.take k ++ [x] := by
    rw [show k + 1 = k + 1 from rfl, List.take_add, ha]; rfl
  have e2 : b.take (k + 1) = b.take k ++ [y] := by
    rw [List.take_add, hb]; rfl
  rw [e1, e2, h]
  simp
theorem ne_of_take {α : Type} {a b : List α} {k : Nat} (h : a.take k ≠ b.take k) : a ≠ b := fun e => h (by rw [e])

set_option maxRecDepth 100000 in
set_option maxHeartbeats 2000000 in
theorem sSameVal_of (v v' : Val) (ih : ∀ kind n s keys list, v = .mk kind n s keys list → ∀ x ∈ list, ∀ y, SSameVal x y) : SSameVal v v' := by
  intro us us' w B hB h h'
  obtain ⟨kind, n, s, keys, list, A1, c1, A2, c2, rfl, rfl, hs, hk, hl⟩ := valDs_open h
  obtain ⟨kind', n', s', keys', list', A1', c1', A2', c2', rfl, rfl, hs', hk', hl'⟩ := valDs_open h'
  have IH := Lib.hid (ih _ _ _ _ _ rfl)
  clear ih h h'
  have hn1 := hk.len
  have hn2 := hl.len
  have hn1' := hk'.len
  have hn2' := hl'.len
  have hbx := fun o1 o2 => below_box2 w o1 o2
  by_cases t1 : kind = kind'
  case neg =>
    have d1 : (kind != kind') = true := by simp [t1]
    go_enter Tryz.func69, Tryz.ntmps69
    go_wp2
    go_ret
    exact PBool.no (fun e => absurd (by injection e) t1) (hbx _ _)
  subst t1
  by_cases t2 : n = n'
  case neg =>
    have d2 : (n != n') = true := by simp [t2]
    go_enter Tryz.func69, Tryz.ntmps69
    go_wp2
    go_ret
    exact PBool.no (fun e => absurd (by injection e) t2) (hbx _ _)
  subst t2
  by_cases t3 : s = s'
  case neg =>
    have d3 := str_ne t3
    go_enter Tryz.func69, Tryz.ntmps69
    go_wp2
    go_ret
    exact PBool.no (fun e => absurd (by injection e) t3) (hbx _ _)
  subst t3
  by_cases t4 : keys.length = keys'.length
  case neg =>
    have d4 : ((keys.length : Int) != (keys'.length : Int)) = true := by simp; omega
    go_enter Tryz.func69, Tryz.ntmps69
    go_wp2
    go_ret
    exact PBool.no (fun e => absurd (by injection e with _ _ _ e _; rw [e]) t4) (hbx _ _)
  have d4 : ((keys.length : Int) != (keys'.length : Int)) = false := by simp; omega
  by_cases t5 : list.length = list'.length
  case neg =>
    have d5 : ((list.length : Int) != (list'.length : Int)) = true := by simp; omega
    go_enter Tryz.func69, Tryz.ntmps69
    go_wp2
    go_ret
    exact PBool.no (fun e => absurd (by injection e with _ _ _ _ e; rw [e]) t5) (hbx _ _)
  have d5 : ((list.length : Int) != (list'.length : Int)) = false := by simp; omega
  have HK := Lib.hid hk
  have HK' := Lib.hid hk'
  have HL := Lib.hid hl
  have HL' := Lib.hid hl'
  have T4 := Lib.hid t4
  have T5 := Lib.hid t5
  clear hk hk' hl hl' t4 t5
  go_enter Tryz.func69, Tryz.ntmps69
  go_wp2
  clear d4 d5
  go_loopw [5] (fun i w' => ∃ (k : Nat), k ≤ keys.length ∧ i = .int .i64 k ∧ Hid (keys.take k = keys'.take k) ∧ Below (w.heap.size + 1 + 1) ((w.alloc (.cells #[.int .i64 kind, .int .i64 n, .string s, .slice A1 keys.length c1, .slice A2 list.length c2] 32)).alloc (.cells #[.int .i64 kind, .int .i64 n, .string s, .slice A1' keys'.length c1', .slice A2' list'.length c2'] 32)) w') (fun i _ => keys.length - (intOf i).toNat)
  case atStart => exact ⟨0, by omega, rfl, rfl, Below.refl _ _⟩
  case round =>
    obtain ⟨k, hk, rfl, HT, hb0⟩ := hrel
    obtain ⟨hb, hz, bP, bR⟩ := boxes2 (P := [_, _, _, _, _]) (R := [_, _, _, _, _]) hb0
    obtain ⟨cP, fP⟩ := blk_rules bP
    obtain ⟨cR, fR⟩ := blk_rules bR
    by_cases hlt : k < keys.length
    · have hlt' : k < keys'.length := by have := T4.out; omega
      obtain ⟨ad, s0, rfl, hbl, hc, hs0, hd⟩ := row1_at (HK.out.upto (hb.mono hB) (Nat.le_refl _)) rfl hlt
      obtain ⟨ad', s1, rfl, hbl', hc', hs1, hd'⟩ := row1_at (HK'.out.upto (hb.mono hB) (Nat.le_refl _)) rfl hlt'
      have HT2 := take_eq_succ HT.out hd.out hd'.out
      have j0 : (0 : Int) ≤ (k : Int) := by omega
      have j1 : (k : Int) < (keys.length : Int) := by omega
      have j2 : (k : Int) < (keys'.length : Int) := by omega
      by_cases t : s0 = s1
      · subst t
        have HT3 := Lib.hid (HT2.2 rfl)
        clear HT2
        go_wp2
        go_quiet (fail)
        go_wp2
        go_roundw
        case rel => exact ⟨k + 1, by omega, by go_num, HT3, below_drewN hb0 _⟩
        case measure => simp [intOf]; omega
      · have d6 := str_ne t
        have HT3 := Lib.hid (show keys ≠ keys' from ne_of_take (k := k + 1) fun e => t (HT2.1 e))
        clear HT2
        go_wp2
        go_quiet (fail)
        go_wp2
        go_ret
        exact PBool.no (fun e => absurd (by injection e) HT3.out) (below_drewN hb _)
    · have e : k = keys.length := by omega
      have h2 := HT.out
      rw [e, List.take_length, T4.out, List.take_length] at h2
      subst h2
      clear HT e T4
      go_wp2
      clear bP bR cP fP cR fR
      go_loopw [6] (fun i w' => ∃ (k : Nat), k ≤ list.length ∧ i = .int .i64 k ∧ Hid (list.take k = list'.take k) ∧ Below (w.heap.size + 1 + 1) ((w.alloc (.cells #[.int .i64 kind, .int .i64 n, .string s, .slice A1 keys.length c1, .slice A2 list.length c2] 32)).alloc (.cells #[.int .i64 kind, .int .i64 n, .string s, .slice A1' keys.length c1', .slice A2' list'.length c2'] 32)) w') (fun i _ => list.length - (intOf i).toNat)
      case atStart => exact ⟨0, by omega, rfl, rfl, hb0⟩
      case round =>
        clear hb0 hb hz
        obtain ⟨k, hk, rfl, HT, hb0⟩ := hrel
        obtain ⟨hb, hz, bP, bR⟩ := boxes2 (P := [_, _, _, _, _]) (R := [_, _, _, _, _]) hb0
        obtain ⟨cP, fP⟩ := blk_rules bP
        obtain ⟨cR, fR⟩ := blk_rules bR
        by_cases hlt : k < list.length
        · have hlt' : k < list'.length := by have := T5.out; omega
          obtain ⟨ad, v, x0, x1, x2, x3, x4, rfl, hbl, hv, hm, hd, y0, y1, y2, y3, y4⟩ := row5_at (HL.out.upto (hb.mono hB) (Nat.le_refl _)) rfl hlt
          obtain ⟨ad', v', x0', x1', x2', x3', x4', rfl, hbl', hv', hm', hd', y0', y1', y2', y3', y4'⟩ := row5_at (HL'.out.upto (hb.mono hB) (Nat.le_refl _)) rfl hlt'
          have HT2 := Lib.hid (take_eq_succ HT.out hd.out hd'.out)
          have j0 : (0 : Int) ≤ (k : Int) := by omega
          have j1 : (k : Int) < (list.length : Int) := by omega
          have j2 : (k : Int) < (list'.length : Int) := by omega
          have hD : Below wr.heap.size wr wr.drew := (Below.refl _ _).drew
          have hBr : B ≤ wr.heap.size := by omega
          go_wp2_with fail
          go_still_tail 10, (by kernel_rfl)
          change wpList _ _ _ _ _ wr.drew
          go_wp2_with fail
          refine (IH.out v hm v' _ _ wr.drew B hBr (hv.below (hD.mono hBr)) (hv'.below (hD.mono hBr))).mono ?_
          rintro e w1 ⟨r, rfl, hr, hb1⟩
          have HR := Lib.hid hr
          have hb2 := hb0.trans ((hD.trans hb1).mono hz)
          clear hr cP fP cR fR
          obtain ⟨hbb, hzz, bP2, bR2⟩ := boxes2 (P := [_, _, _, _, _]) (R := [_, _, _, _, _]) hb2
          cases r with
          | true =>
            have HT3 := Lib.hid (HT2.out.2 (HR.out.1 rfl))
            clear HT2
            go_wp2
            go_roundw
            case rel => exact ⟨k + 1, by omega, by go_num, HT3, hb2⟩
            case measure => simp [intOf]; omega
          | false =>
            have HT3 := Lib.hid (show list ≠ list' from ne_of_take (k := k + 1) fun e => absurd (HR.out.2 (HT2.out.1 e)) (by simp))
            clear HT2
            go_wp2
            go_ret
            exact PBool.no (fun e => absurd (by injection e) HT3.out) (hbb)
        · have e : k = list.length := by omega
          have h2 := HT.out
          rw [e, List.take_length, T5.out, List.take_length] at h2
          subst h2
          clear HT e T5
          go_wp2
          go_ret
          exact PBool.yes trivial hb

theorem sSameVal_calls : ∀ v v', SSameVal v v' := fun v => Val.ind (P := fun v => ∀ v', SSameVal v v') (fun kind n s keys list ih v' => sSameVal_of _ _ fun _ _ _ _ _ e => by
  injection e with e1 e2 e3 e4 e5
  subst e5
  exact ih) v
end Go.Proofs.YtppfgepoegicgaaGreatDoor
namespace Go.Proofs.YtppfgepoegicgaaGreatDoor
open Go Go.RowKit

def ISameVal (v v' : Val) : Prop := ∀ (us us' : List Value) (w : World) (B : Nat), B ≤ w.heap.size → RDv w B (valDs v) us → RDv w B (valDs v') us' →
  Calls Tryz.prog 68 #[.agg us.toArray, .agg us'.toArray] w (PBool (v = v') w)

set_option maxRecDepth 100000 in
set_option maxHeartbeats 2000000 in
theorem equalFuncVal_of (vs vs' : List Val) (ih : ∀ x ∈ vs, ∀ y, ISameVal x y) (A A' : Option Addr) (c c' : Nat) (w : World) (B : Nat) (hB : B ≤ w.heap.size) (h : RD w B (.row 5 vs.length (valsDs vs)) (.slice A vs.length c)) (h' : RD w B (.row 5 vs'.length (valsDs vs')) (.slice A' vs'.length c')) :
    Calls Tryz.prog 89 #[.slice A vs.length c, .slice A' vs'.length c', .func (.func 68) #[] #[]] w (PBool (vs = vs') w) := by
  have hn1 := h.len
  have hn2 := h'.len
  by_cases t5 : vs.length = vs'.length
  case neg =>
    have d5 : ((vs.length : Int) != (vs'.length : Int)) = true := by simp; omega
    go_enter Tryz.func89, Tryz.ntmps89
    go_wp2
    go_ret
    exact PBool.no (fun e => absurd (by rw [e]) t5) (Below.refl _ _)
  have d5 : ((vs.length : Int) != (vs'.length : Int)) = false := by simp; omega
  have HL := Lib.hid h
  have HL' := Lib.hid h'
  have T5 := Lib.hid t5
  have IH := Lib.hid ih
  clear h h' t5 ih
  go_enter Tryz.func89, Tryz.ntmps89
  go_wp2
  clear d5
  go_loopw [17] (fun i w' => ∃ (k : Nat), k ≤ vs.length ∧ i = .int .i64 k ∧ Hid (vs.take k = vs'.take k) ∧ Below w.heap.size w w') (fun i _ => vs.length - (intOf i).toNat)
  case atStart => exact ⟨0, by omega, rfl, rfl, Below.refl _ _⟩
  case round =>
    obtain ⟨k, hk, rfl, HT, hb⟩ := hrel
    have hz := hb.size
    by_cases hlt : k < vs.length
    · have hlt' : k < vs'.length := by have := T5.out; omega
      obtain ⟨ad, v, c0, c1, c2, c3, c4, rfl, hbl, hv, hm, hd, x0, x1, x2, x3, x4⟩ := row5_at (HL.out.upto (hb.mono hB) (Nat.le_refl _)) rfl hlt
      obtain ⟨ad', v', c0', c1', c2', c3', c4', rfl, hbl', hv', hm', hd', x0', x1', x2', x3', x4'⟩ := row5_at (HL'.out.upto (hb.mono hB) (Nat.le_refl _)) rfl hlt'
      have HT2 := Lib.hid (take_eq_succ HT.out hd.out hd'.out)
      have HV := Lib.hid hv
      have HV' := Lib.hid hv'
      have j0 : (0 : Int) ≤ (k : Int) := by omega
      have j1 : (k : Int) < (vs.length : Int) := by omega
      have j2 : (k : Int) < (vs'.length : Int) := by omega
      have hBr : B ≤ wr.heap.size := by omega
      obtain ⟨a0, a1, a2, A3, n3, q3, A4, n4, q4, es⟩ := valDs_shape hv
      obtain ⟨a0', a1', a2', A3', n3', q3', A4', n4', q4', es'⟩ := valDs_shape hv'
      simp only [List.cons.injEq, and_true] at es es'
      obtain ⟨rfl, rfl, rfl, rfl, rfl⟩ := es
      obtain ⟨rfl, rfl, rfl, rfl, rfl⟩ := es'
      have hbl2 : (ad'.add (k * 5)).block < wr.heap.size := by rw [block_of_add]; omega
      have z0 := fun o => (World.cell?_alloc_lt wr o (ad'.add (k * 5)) hbl2).trans x0'
      have z1 := fun o => (World.cell?_alloc_lt wr o ⟨(ad'.add (k * 5)).block, (ad'.add (k * 5)).off + 1, none⟩ hbl2).trans x1'
      have z2 := fun o => (World.cell?_alloc_lt wr o ⟨(ad'.add (k * 5)).block, (ad'.add (k * 5)).off + 2, none⟩ hbl2).trans x2'
      have z3 := fun o => (World.cell?_alloc_lt wr o ⟨(ad'.add (k * 5)).block, (ad'.add (k * 5)).off + 3, none⟩ hbl2).trans x3'
      have z4 := fun o => (World.cell?_alloc_lt wr o ⟨(ad'.add (k * 5)).block, (ad'.add (k * 5)).off + 4, none⟩ hbl2).trans x4'
      clear hv hv'
      go_wp2_with fail
      have hW := fun o1 o2 => below_box2 wr o1 o2
      refine (IH.out v hm v' [_, _, _, _, _] [_, _, _, _, _] _ B (Nat.le_trans hBr (hW _ _).size) (HV.out.below ((hW _ _).mono hBr)) (HV'.out.below ((hW _ _).mono hBr))).mono ?_
      rintro e w1 ⟨r, rfl, hr, hb1⟩
      have HR := Lib.hid hr
      have hb2 := hb.trans (((hW _ _).trans (hb1.mono (hW _ _).size)).mono hz)
      clear hr hW hb1
      cases r with
      | true =>
        have HT3 := Lib.hid (HT2.out.2 (HR.out.1 rfl))
        clear HT2
        go_wp2
        go_roundw
        case rel => exact ⟨k + 1, by omega, by go_num, HT3, hb2⟩
        case measure => simp [intOf]; omega
      | false =>
        have HT3 := Lib.hid (show vs ≠ vs' from ne_of_take (k := k + 1) fun e => absurd (HR.out.2 (HT2.out.1 e)) (by simp))
        clear HT2
        go_wp2
        go_ret
        exact PBool.no (fun e => absurd e HT3.out) hb2
    · have e : k = vs.length := by omega
      have h2 := HT.out
      rw [e, List.take_length, T5.out, List.take_length] at h2
      have H2 := Lib.hid h2
      clear HT h2 e T5
      go_wp2
      go_ret
      exact PBool.yes H2.out hb
end Go.Proofs.YtppfgepoegicgaaGreatDoor
namespace Go.Proofs.YtppfgepoegicgaaGreatDoor
open Go Go.RowKit

set_option maxRecDepth 100000 in
set_option maxHeartbeats 2000000 in
theorem equalString_calls (ks ks' : List ByteArray) (A A' : Option Addr) (c c' : Nat) (w : World) (B : Nat) (hB : B ≤ w.heap.size) (h : RD w B (.row 1 ks.length (strDs ks)) (.slice A ks.length c)) (h' : RD w B (.row 1 ks'.length (strDs ks')) (.slice A' ks'.length c')) :
    Calls Tryz.prog 88 #[.slice A ks.length c, .slice A' ks'.length c'] w (PBool (ks = ks') w) := by
  have hn1 := h.len
  have hn2 := h'.len
  by_cases t5 : ks.length = ks'.length
  case neg =>
    have d5 : ((ks.length : Int) != (ks'.length : Int)) = true := by simp; omega
    go_enter Tryz.func88, Tryz.ntmps88
    go_wp2
    go_ret
    exact PBool.no (fun e => absurd (by rw [e]) t5) (Below.refl _ _)
  have d5 : ((ks.length : Int) != (ks'.length : Int)) = false := by simp; omega
  have HK := Lib.hid h
  have HK' := Lib.hid h'
  have T5 := Lib.hid t5
  clear h h' t5
  go_enter Tryz.func88, Tryz.ntmps88
  go_wp2
  clear d5
  go_loopw [13] (fun i w' => ∃ (k : Nat), k ≤ ks.length ∧ i = .int .i64 k ∧ Hid (ks.take k = ks'.take k) ∧ Below w.heap.size w w') (fun i _ => ks.length - (intOf i).toNat)
  case atStart => exact ⟨0, by omega, rfl, rfl, Below.refl _ _⟩
  case round =>
    obtain ⟨k, hk, rfl, HT, hb⟩ := hrel
    have hz := hb.size
    by_cases hlt : k < ks.length
    · have hlt' : k < ks'.length := by have := T5.out; omega
      obtain ⟨ad, s0, rfl, hbl, hc, hs0, hd⟩ := row1_at (HK.out.upto (hb.mono hB) (Nat.le_refl _)) rfl hlt
      obtain ⟨ad', s1, rfl, hbl', hc', hs1, hd'⟩ := row1_at (HK'.out.upto (hb.mono hB) (Nat.le_refl _)) rfl hlt'
      have HT2 := Lib.hid (take_eq_succ HT.out hd.out hd'.out)
      have j0 : (0 : Int) ≤ (k : Int) := by omega
      have j1 : (k : Int) < (ks.length : Int) := by omega
      have j2 : (k : Int) < (ks'.length : Int) := by omega
      by_cases t : s0 = s1
      · subst t
        have HT3 := Lib.hid (HT2.out.2 rfl)
        clear HT2
        go_wp2
        go_quiet (fail)
        go_wp2
        go_roundw
        case rel => exact ⟨k + 1, by omega, by go_num, HT3, below_drewN hb _⟩
        case measure => simp [intOf]; omega
      · have d6 := str_ne t
        have HT3 := Lib.hid (show ks ≠ ks' from ne_of_take (k := k + 1) fun e => t (HT2.out.1 e))
        clear HT2
        go_wp2
        go_quiet (fail)
        go_wp2
        go_ret
        exact PBool.no (fun e => absurd e HT3.out) (below_drewN hb _)
    · have e : k = ks.length := by omega
      have h2 := HT.out
      rw [e, List.take_length, T5.out, List.take_length] at h2
      have H2 := Lib.hid h2
      clear HT h2 e T5
      go_wp2
      go_ret
      exact PBool.yes H2.out hb

set_option maxHeartbeats 2000000 in
theorem iSameVal_of (v v' : Val) (ih : ∀ kind n s keys list, v = .mk kind n s keys list → ∀ x ∈ list, ∀ y, ISameVal x y) : ISameVal v v' := by
  intro us us' w B hB h h'
  obtain ⟨kind, n, s, keys, list, A1, c1, A2, c2, rfl, rfl, hs, hk, hl⟩ := valDs_open h
  obtain ⟨kind', n', s', keys', list', A1', c1', A2', c2', rfl, rfl, hs', hk', hl'⟩ := valDs_open h'
  have IH := Lib.hid (ih _ _ _ _ _ rfl)
  clear ih h h'
  have hbx := fun o1 o2 => below_box2 w o1 o2
  by_cases t1 : kind = kind'
  case neg =>
    have d1 : (kind == kind') = false := by simp [t1]
    go_enter Tryz.func68, Tryz.ntmps68
    go_wp2
    go_ret
    exact PBool.no (fun e => absurd (by injection e) t1) (hbx _ _)
  subst t1
  by_cases t2 : n = n'
  case neg =>
    have d2 : (n == n') = false := by simp [t2]
    go_enter Tryz.func68, Tryz.ntmps68
    go_wp2
    go_ret
    exact PBool.no (fun e => absurd (by injection e) t2) (hbx _ _)
  subst t2
  by_cases t3 : s = s'
  case neg =>
    have d3 := str_ne t3
    go_enter Tryz.func68, Tryz.ntmps68
    go_wp2
    go_ret
    exact PBool.no (fun e => absurd (by injection e) t3) (hbx _ _)
  subst t3
  go_enter Tryz.func68, Tryz.ntmps68
  go_wp2_with fail
  refine (equalString_calls keys keys' A1 A1' c1 c1' _ B (Nat.le_trans hB (hbx _ _).size) (hk.below ((hbx _ _).mono hB)) (hk'.below ((hbx _ _).mono hB))).mono ?_
  rintro e w1 ⟨r, rfl, hr, hb1⟩
  have HR := Lib.hid hr
  clear hr
  obtain ⟨hb, hz, bP, bR⟩ := boxes2 (P := [_, _, _, _, _]) (R := [_, _, _, _, _]) (boxes2_of hb1)
  obtain ⟨cP, fP⟩ := blk_rules bP
  obtain ⟨cR, fR⟩ := blk_rules bR
  clear hb1
  cases r with
  | false =>
    have HN := Lib.hid (show keys ≠ keys' from fun e => absurd (HR.out.2 e) (by simp))
    go_wp2
    go_ret
    exact PBool.no (fun e => absurd (by injection e) HN.out) hb
  | true =>
    obtain rfl := HR.out.1 rfl
    go_wp2_with fail
    refine (equalFuncVal_of list list' IH.out A2 A2' c2 c2' _ B (by omega) (hl.below (hb.mono hB)) (hl'.below (hb.mono hB))).mono ?_
    rintro e w2 ⟨r2, rfl, hr2, hb2⟩
    have HR2 := Lib.hid hr2
    clear hr2
    go_wp2
    go_ret
    exact ⟨r2, rfl, ⟨fun e => by rw [HR2.out.1 e], fun e => HR2.out.2 (by injection e)⟩, hb.trans (hb2.mono (by omega))⟩

theorem iSameVal_calls : ∀ v v', ISameVal v v' := fun v => Val.ind (P := fun v => ∀ v', ISameVal v v') (fun kind n s keys list ih v' => iSameVal_of _ _ fun _ _ _ _ _ e => by
  injection e with e1 e2 e3 e4 e5
  subst e5
  exact ih) v
end Go.Proofs.YtppfgepoegicgaaGreatDoor
