/- Parts of the proof: ImplSameV. -/
import Derived.Test.YtppfgepoegicgaaDoorZSpecSameV
import Derived.Test.YtppfgepoegicgaaDoorZValEfR
namespace Go.Proofs.YtppfgepoegicgaaDoor
open Go Go.RowKit

set_option maxRecDepth 100000 in
set_option maxHeartbeats 2000000 in
theorem equalString_calls (ks ks' : List ByteArray) (A A' : Option Addr) (c c' : Nat) (w : World) (B : Nat) (hB : B ≤ w.heap.size) (h : RD w B (.row 1 ks.length (strDs ks)) (.slice A ks.length c)) (h' : RD w B (.row 1 ks'.length (strDs ks')) (.slice A' ks'.length c')) :
    Calls Tryd.prog 86 #[.slice A ks.length c, .slice A' ks'.length c'] w (PBool (ks = ks') w) := by
  have hn1 := h.len
  have hn2 := h'.len
  by_cases t5 : ks.length = ks'.length
  case neg =>
    have d5 : ((ks.length : Int) != (ks'.length : Int)) = true := by simp; omega
    go_enter Tryd.func86, Tryd.ntmps86
    go_wp2
    go_ret
    exact PBool.no (fun e => absurd (by rw [e]) t5) (Below.refl _ _)
  have d5 : ((ks.length : Int) != (ks'.length : Int)) = false := by simp; omega
  have HK := Lib.hid h
  have HK' := Lib.hid h'
  have T5 := Lib.hid t5
  clear h h' t5
  go_enter Tryd.func86, Tryd.ntmps86
  go_wp2
  clear d5
  go_loopw [13] (fun i w' => ∃ (k : Nat), k ≤ ks.length ∧ i = .int .i64 k ∧ Hid (ks.take k = ks'.take k) ∧ Below w.heap.size w w') (fun i _ => ks.length - (intOf i).toNat)
  case atStart => exact ⟨0, by omega, rfl, rfl, Below.refl _ _⟩
  case round =>
    obtain ⟨k, hk, rfl, HT, hb⟩ := hrel
    have hz := hb.size
    by_cases hlt : k < ks.length
    · have hlt' : k < ks'.length := by have := T5.out; omega
      obtain ⟨ad, s0, rfl, hbl, hc, hs0, hd⟩ := row1_at (HK.out.upto (hb.mono hB) (Nat.le_refl _)) rfl hlt
      obtain ⟨ad', s1, rfl, hbl', hc', hs1, hd'⟩ := row1_at (HK'.out.upto (hb.mono hB) (Nat.le_refl _)) rfl hlt'
      have HT2 := Lib.hid (take_eq_succ HT.out hd.out hd'.out)
      have j0 : (0 : Int) ≤ (k : Int) := by omega
      have j1 : (k : Int) < (ks.length : Int) := by omega
      have j2 : (k : Int) < (ks'.length : Int) := by omega
      by_cases t : s0 = s1
      · subst t
        have HT3 := Lib.hid (HT2.out.2 rfl)
        clear HT2
        go_wp2
        go_quiet (fail)
        go_wp2
        go_roundw
        case rel => exact ⟨k + 1, by omega, by go_num, HT3, below_drewN hb _⟩
        case measure => simp [intOf]; omega
      · have d6 := str_ne t
        have HT3 := Lib.hid (show ks ≠ ks' from ne_of_take (k := k + 1) fun e => t (HT2.out.1 e))
        clear HT2
        go_wp2
        go_quiet (fail)
        go_wp2
        go_ret
        exact PBool.no (fun e => absurd e HT3.out) (below_drewN hb _)
    · have e : k = ks.length := by omega
      have h2 := HT.out
      rw [e, List.take_length, T5.out, List.take_length] at h2
      have H2 := Lib.hid h2
      clear HT h2 e T5
      go_wp2
      go_ret
      exact PBool.yes H2.out hb

set_option maxHeartbeats 2000000 in
theorem iSameVal_of (v v' : Val) (ih : ∀ kind n s keys list, v = .mk kind n s keys list → ∀ x ∈ list, ∀ y, ISameVal x y) : ISameVal v v' := by
  intro us us' w B hB h h'
  obtain ⟨kind, n, s, keys, list, A1, c1, A2, c2, rfl, rfl, hs, hk, hl⟩ := valDs_open h
  obtain ⟨kind', n', s', keys', list', A1', c1', A2', c2', rfl, rfl, hs', hk', hl'⟩ := valDs_open h'
  have IH := Lib.hid (ih _ _ _ _ _ rfl)
  clear ih h h'
  have hbx := fun o1 o2 => below_box2 w o1 o2
  by_cases t1 : kind = kind'
  case neg =>
    have d1 : (kind == kind') = false := by simp [t1]
    go_enter Tryd.func77, Tryd.ntmps77
    go_wp2
    go_ret
    exact PBool.no (fun e => absurd (by injection e) t1) (hbx _ _)
  subst t1
  by_cases t2 : n = n'
  case neg =>
    have d2 : (n == n') = false := by simp [t2]
    go_enter Tryd.func77, Tryd.ntmps77
    go_wp2
    go_ret
    exact PBool.no (fun e => absurd (by injection e) t2) (hbx _ _)
  subst t2
  by_cases t3 : s = s'
  case neg =>
    have d3 := str_ne t3
    go_enter Tryd.func77, Tryd.ntmps77
    go_wp2
    go_ret
    exact PBool.no (fun e => absurd (by injection e) t3) (hbx _ _)
  subst t3
  go_enter Tryd.func77, Tryd.ntmps77
  go_wp2_with fail
  refine (equalString_calls keys keys' A1 A1' c1 c1' _ B (Nat.le_trans hB (hbx _ _).size) (hk.below ((hbx _ _).mono hB)) (hk'.below ((hbx _ _).mono hB))).mono ?_
  rintro e w1 ⟨r, rfl, hr, hb1⟩
  have HR := Lib.hid hr
  clear hr
  obtain ⟨hb, hz, bP, bR⟩ := boxes2 (P := [_, _, _, _, _]) (R := [_, _, _, _, _]) (boxes2_of hb1)
  obtain ⟨cP, fP⟩ := blk_rules bP
  obtain ⟨cR, fR⟩ := blk_rules bR
  clear hb1
  cases r with
  | false =>
    have HN := Lib.hid (show keys ≠ keys' from fun e => absurd (HR.out.2 e) (by simp))
    go_wp2
    go_ret
    exact PBool.no (fun e => absurd (by injection e) HN.out) hb
  | true =>
    obtain rfl := HR.out.1 rfl
    go_wp2_with fail
    refine (equalFuncVal_of list list' IH.out A2 A2' c2 c2' _ B (by omega) (hl.below (hb.mono hB)) (hl'.below (hb.mono hB))).mono ?_
    rintro e w2 ⟨r2, rfl, hr2, hb2⟩
    have HR2 := Lib.hid hr2
    clear hr2
    go_wp2
    go_ret
    exact ⟨r2, rfl, ⟨fun e => by rw [HR2.out.1 e], fun e => HR2.out.2 (by injection e)⟩, hb.trans (hb2.mono (by omega))⟩

theorem iSameVal_calls : ∀ v v', ISameVal v v' := fun v => Val.ind (P := fun v => ∀ v', ISameVal v v') (fun kind n s keys list ih v' => iSameVal_of _ _ fun _ _ _ _ _ e => by
  injection e with e1 e2 e3 e4 e5
  subst e5
  exact ih) v
end Go.Proofs.YtppfgepoegicgaaDoor
