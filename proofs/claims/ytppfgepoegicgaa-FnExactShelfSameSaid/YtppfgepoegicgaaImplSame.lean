import Derived.Test.YtppfgepoegicgaaSpecSameV
import Derived.Test.YtppfgepoegicgaaValEfR
import Derived.Test.YtppfgepoegicgaaKeptEfR
import Derived.Test.YtppfgepoegicgaaAskerEfR
namespace Go.Proofs.Ytppfgepoegicgaa
open Go Go.RowKit

set_option maxRecDepth 100000 in
set_option maxHeartbeats 2000000 in
theorem equalString_calls (ks ks' : List ByteArray) (A A' : Option Addr) (c c' : Nat) (w : World) (B : Nat) (hB : B ≤ w.heap.size) (h : RD w B (.row 1 ks.length (strDs ks)) (.slice A ks.length c)) (h' : RD w B (.row 1 ks'.length (strDs ks')) (.slice A' ks'.length c')) :
    Calls Try.prog 101 #[.slice A ks.length c, .slice A' ks'.length c'] w (PBool (ks = ks') w) := by
  have hn1 := h.len
  have hn2 := h'.len
  by_cases t5 : ks.length = ks'.length
  case neg =>
    have d5 : ((ks.length : Int) != (ks'.length : Int)) = true := by simp; omega
    go_enter Try.func101, Try.ntmps101
    go_wp2
    go_ret
    exact PBool.no (fun e => absurd (by rw [e]) t5) (Below.refl _ _)
  have d5 : ((ks.length : Int) != (ks'.length : Int)) = false := by simp; omega
  have HK := Lib.hid h
  have HK' := Lib.hid h'
  have T5 := Lib.hid t5
  clear h h' t5
  go_enter Try.func101, Try.ntmps101
  go_wp2
  clear d5
  go_loopw [13] (fun i w' => ∃ (k : Nat), k ≤ ks.length ∧ i = .int .i64 k ∧ Hid (ks.take k = ks'.take k) ∧ Below w.heap.size w w') (fun i _ => ks.length - (intOf i).toNat)
  case atStart => exact ⟨0, by omega, rfl, rfl, Below.refl _ _⟩
  case round =>
    obtain ⟨k, hk, rfl, HT, hb⟩ := hrel
    have hz := hb.size
    by_cases hlt : k < ks.length
    · have hlt' : k < ks'.length := by have := T5.out; omega
      obtain ⟨ad, s0, rfl, hbl, hc, hs0, hd⟩ := row1_at (HK.out.upto (hb.mono hB) (Nat.le_refl _)) rfl hlt
      obtain ⟨ad', s1, rfl, hbl', hc', hs1, hd'⟩ := row1_at (HK'.out.upto (hb.mono hB) (Nat.le_refl _)) rfl hlt'
      have HT2 := Lib.hid (take_eq_succ HT.out hd.out hd'.out)
      have j0 : (0 : Int) ≤ (k : Int) := by omega
      have j1 : (k : Int) < (ks.length : Int) := by omega
      have j2 : (k : Int) < (ks'.length : Int) := by omega
      by_cases t : s0 = s1
      · subst t
        have HT3 := Lib.hid (HT2.out.2 rfl)
        clear HT2
        go_wp2
        go_quiet (fail)
        go_wp2
        go_roundw
        case rel => exact ⟨k + 1, by omega, by go_num, HT3, below_drewN hb _⟩
        case measure => simp [intOf]; omega
      · have d6 := str_ne t
        have HT3 := Lib.hid (show ks ≠ ks' from ne_of_take (k := k + 1) fun e => t (HT2.out.1 e))
        clear HT2
        go_wp2
        go_quiet (fail)
        go_wp2
        go_ret
        exact PBool.no (fun e => absurd e HT3.out) (below_drewN hb _)
    · have e : k = ks.length := by omega
      have h2 := HT.out
      rw [e, List.take_length, T5.out, List.take_length] at h2
      have H2 := Lib.hid h2
      clear HT h2 e T5
      go_wp2
      go_ret
      exact PBool.yes H2.out hb

set_option maxHeartbeats 2000000 in
theorem iSameVal_of (v v' : Val) (ih : ∀ kind n s keys list, v = .mk kind n s keys list → ∀ x ∈ list, ∀ y, ISameVal x y) : ISameVal v v' := by
  intro us us' w B hB h h'
  obtain ⟨kind, n, s, keys, list, A1, c1, A2, c2, rfl, rfl, hs, hk, hl⟩ := valDs_open h
  obtain ⟨kind', n', s', keys', list', A1', c1', A2', c2', rfl, rfl, hs', hk', hl'⟩ := valDs_open h'
  have IH := Lib.hid (ih _ _ _ _ _ rfl)
  clear ih h h'
  have hbx := fun o1 o2 => below_box2 w o1 o2
  by_cases t1 : kind = kind'
  case neg =>
    have d1 : (kind == kind') = false := by simp [t1]
    go_enter Try.func96, Try.ntmps96
    go_wp2
    go_ret
    exact PBool.no (fun e => absurd (by injection e) t1) (hbx _ _)
  subst t1
  by_cases t2 : n = n'
  case neg =>
    have d2 : (n == n') = false := by simp [t2]
    go_enter Try.func96, Try.ntmps96
    go_wp2
    go_ret
    exact PBool.no (fun e => absurd (by injection e) t2) (hbx _ _)
  subst t2
  by_cases t3 : s = s'
  case neg =>
    have d3 := str_ne t3
    go_enter Try.func96, Try.ntmps96
    go_wp2
    go_ret
    exact PBool.no (fun e => absurd (by injection e) t3) (hbx _ _)
  subst t3
  go_enter Try.func96, Try.ntmps96
  go_wp2_with fail
  refine (equalString_calls keys keys' A1 A1' c1 c1' _ B (Nat.le_trans hB (hbx _ _).size) (hk.below ((hbx _ _).mono hB)) (hk'.below ((hbx _ _).mono hB))).mono ?_
  rintro e w1 ⟨r, rfl, hr, hb1⟩
  have HR := Lib.hid hr
  clear hr
  obtain ⟨hb, hz, bP, bR⟩ := boxes2 (P := [_, _, _, _, _]) (R := [_, _, _, _, _]) (boxes2_of hb1)
  obtain ⟨cP, fP⟩ := blk_rules bP
  obtain ⟨cR, fR⟩ := blk_rules bR
  clear hb1
  cases r with
  | false =>
    have HN := Lib.hid (show keys ≠ keys' from fun e => absurd (HR.out.2 e) (by simp))
    go_wp2
    go_ret
    exact PBool.no (fun e => absurd (by injection e) HN.out) hb
  | true =>
    obtain rfl := HR.out.1 rfl
    go_wp2_with fail
    refine (equalFuncVal_of list list' IH.out A2 A2' c2 c2' _ B (by omega) (hl.below (hb.mono hB)) (hl'.below (hb.mono hB))).mono ?_
    rintro e w2 ⟨r2, rfl, hr2, hb2⟩
    have HR2 := Lib.hid hr2
    clear hr2
    go_wp2
    go_ret
    exact ⟨r2, rfl, ⟨fun e => by rw [HR2.out.1 e], fun e => HR2.out.2 (by injection e)⟩, hb.trans (hb2.mono (by omega))⟩

theorem iSameVal_calls : ∀ v v', ISameVal v v' := fun v => Val.ind (P := fun v => ∀ v', ISameVal v v') (fun kind n s keys list ih v' => iSameVal_of _ _ fun _ _ _ _ _ e => by
  injection e with e1 e2 e3 e4 e5
  subst e5
  exact ih) v

set_option maxHeartbeats 2000000 in
theorem iSameKept_calls (v v' : Kept) : ISameKept v v' := by
  intro us us' w B hB h h'
  obtain ⟨vs, rfl, hs, hv⟩ := keptDs_open h
  obtain ⟨a, b, s, A1, n1, c1, A2, n2, c2, rfl⟩ := valDs_shape hv
  obtain ⟨vs', rfl, hs', hv'⟩ := keptDs_open h'
  obtain ⟨a', b', s', A1', n1', c1', A2', n2', c2', rfl⟩ := valDs_shape hv'
  obtain ⟨name, v⟩ := v
  obtain ⟨name', v'⟩ := v'
  simp only at hs hv hs' hv'
  clear h h'
  have hbx := fun o1 o2 => below_box2 w o1 o2
  by_cases t1 : name = name'
  case neg =>
    have d1 := str_ne t1
    go_enter Try.func76, Try.ntmps76
    go_wp2
    go_ret
    exact PBool.no (fun e => absurd (by injection e) t1) (hbx _ _)
  subst t1
  go_enter Try.func76, Try.ntmps76
  go_wp2_with fail
  refine (iSameVal_calls v v' [_, _, _, _, _] [_, _, _, _, _] _ B (Nat.le_trans hB (hbx _ _).size) (hv.below ((hbx _ _).mono hB)) (hv'.below ((hbx _ _).mono hB))).mono ?_
  rintro e w1 ⟨r, rfl, hr, hb1⟩
  have HR := Lib.hid hr
  clear hr
  go_wp2
  go_ret
  exact ⟨r, rfl, ⟨fun e => by rw [HR.out.1 e], fun e => HR.out.2 (by injection e)⟩, (hbx _ _).trans (hb1.mono (hbx _ _).size)⟩

set_option maxHeartbeats 2000000 in
theorem iSameAsker_calls (v v' : Asker) : ISameAsker v v' := by
  intro us us' w B hB h h'
  obtain ⟨A, c, rfl, hs, hl⟩ := askerDs_open h
  obtain ⟨A', c', rfl, hs', hl'⟩ := askerDs_open h'
  obtain ⟨name, most, fuel, trees⟩ := v
  obtain ⟨name', most', fuel', trees'⟩ := v'
  simp only at hs hl hs' hl'
  clear h h'
  have hbx := fun o1 o2 => below_box2 w o1 o2
  by_cases t1 : name = name'
  case neg =>
    have d1 := str_ne t1
    go_enter Try.func38, Try.ntmps38
    go_wp2
    go_ret
    exact PBool.no (fun e => absurd (by injection e) t1) (hbx _ _)
  subst t1
  by_cases t2 : most = most'
  case neg =>
    have d2 : (most == most') = false := by simp [t2]
    go_enter Try.func38, Try.ntmps38
    go_wp2
    go_ret
    exact PBool.no (fun e => absurd (by injection e) t2) (hbx _ _)
  subst t2
  by_cases t3 : fuel = fuel'
  case neg =>
    have d3 : (fuel == fuel') = false := by simp [t3]
    go_enter Try.func38, Try.ntmps38
    go_wp2
    go_ret
    exact PBool.no (fun e => absurd (by injection e) t3) (hbx _ _)
  subst t3
  go_enter Try.func38, Try.ntmps38
  go_wp2_with fail
  refine (equalFuncKept_of trees trees' (fun x _ y => iSameKept_calls x y) A A' c c' _ B (Nat.le_trans hB (hbx _ _).size) (hl.below ((hbx _ _).mono hB)) (hl'.below ((hbx _ _).mono hB))).mono ?_
  rintro e w1 ⟨r, rfl, hr, hb1⟩
  have HR := Lib.hid hr
  clear hr
  go_wp2
  go_ret
  exact ⟨r, rfl, ⟨fun e => by rw [HR.out.1 e], fun e => HR.out.2 (by injection e)⟩, (hbx _ _).trans (hb1.mono (hbx _ _).size)⟩

set_option maxHeartbeats 2000000 in
theorem iShelfSame_calls (v v' : Shelf) (us us' : List Value) (w : World) (B : Nat) (hB : B ≤ w.heap.size) (h : RDv w B (shelfDs v) us) (h' : RDv w B (shelfDs v') us') :
    Calls Try.prog 13 #[.agg us.toArray, .agg us'.toArray] w (PBool (v = v') w) := by
  obtain ⟨A, c, rfl, hl⟩ := shelfDs_open h
  obtain ⟨A', c', rfl, hl'⟩ := shelfDs_open h'
  obtain ⟨askers⟩ := v
  obtain ⟨askers'⟩ := v'
  simp only at hl hl'
  clear h h'
  have hbx := fun o1 o2 => below_box2 w o1 o2
  go_enter Try.func13, Try.ntmps13
  go_wp2_with fail
  refine (equalFuncAsker_of askers askers' (fun x _ y => iSameAsker_calls x y) A A' c c' _ B (Nat.le_trans hB (hbx _ _).size) (hl.below ((hbx _ _).mono hB)) (hl'.below ((hbx _ _).mono hB))).mono ?_
  rintro e w1 ⟨r, rfl, hr, hb1⟩
  have HR := Lib.hid hr
  clear hr
  go_wp2
  go_ret
  exact ⟨r, rfl, ⟨fun e => by rw [HR.out.1 e], fun e => HR.out.2 (by injection e)⟩, (hbx _ _).trans (hb1.mono (hbx _ _).size)⟩
end Go.Proofs.Ytppfgepoegicgaa
