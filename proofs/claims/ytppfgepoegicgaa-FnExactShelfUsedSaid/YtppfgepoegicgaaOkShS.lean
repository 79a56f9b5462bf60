import Derived.Test.YtppfgepoegicgaaOkAskS
namespace Go.Proofs.Ytppfgepoegicgaa
open Go Go.RowKit

theorem asker_name {w : World} {B : Nat} {x : Asker} {s : ByteArray} {us : List Value} (h : RDv w B (askerDs x) (.string s :: us)) : s = x.name ∧ x.name.size ≤ 9223372036854775807 := by
  obtain ⟨A, c, e, h1, h2⟩ := askerDs_open h
  injection e with e _
  injection e with e
  exact ⟨e, h1⟩
def SOk (s : Shelf) : Prop := (∀ a ∈ s.askers, AskerOk a) ∧ (s.askers.map (·.name)).Nodup ∧ s.askers.length ≤ 4

set_option maxRecDepth 100000 in
set_option maxHeartbeats 8000000 in
theorem sShelfOk_calls (x : Shelf) (us : List Value) (w : World) (B : Nat) (hB : B ≤ w.heap.size) (h : RDv w B (shelfDs x) us) (hC : ∀ a ∈ x.askers, ∀ y ∈ a.trees, valCnt y.v ≤ 1099511627776) :
    Calls Try.prog 15 #[.agg us.toArray] w (PBool (SOk x) w) := by
  obtain ⟨A, c, rfl, hl⟩ := shelfDs_open h
  have HL := Lib.hid hl
  have hn2 := hl.len
  have HC := Lib.hid hC
  clear h hl hC
  go_enter Try.func15, Try.ntmps15
  go_wp2
  go_loopw [3] (fun i w' => ∃ (k : Nat), k ≤ x.askers.length ∧ i = .int .i64 k ∧ Hid (∀ y ∈ x.askers.take k, AskerOk y) ∧ Hid (((x.askers.map (·.name)).take k).Nodup) ∧ Below (w.heap.size + 1) (w.alloc (.cells #[.slice A x.askers.length c] 29)) w') (fun i _ => x.askers.length - (intOf i).toNat)
  case atStart => exact ⟨0, by omega, rfl, (by simp : ∀ y ∈ x.askers.take 0, AskerOk y), (by simp : ((x.askers.map (·.name)).take 0).Nodup), Below.refl _ _⟩
  case round =>
    obtain ⟨k, hk, rfl, HK, HD, hb0⟩ := hrel
    obtain ⟨hb, hz, bP⟩ := boxes1 (P := [_]) hb0
    obtain ⟨cP, fP⟩ := blk_rules bP
    by_cases hlt : k < x.askers.length
    · obtain ⟨ad, v, x0, x1, x2, x3, rfl, hbl, hv, hm, hd1, y0, y1, y2, y3⟩ := row4_at (HL.out.upto (hb.mono hB) (Nat.le_refl _)) rfl hlt
      have HM := Lib.hid (names_at (f := fun x : Asker => x.name) hd1.out)
      obtain ⟨a0, b0, b1, A4, n4, q4, es⟩ := askerDs_shape hv
      simp only [List.cons.injEq, and_true] at es
      obtain ⟨rfl, rfl, rfl, rfl⟩ := es
      obtain ⟨rfl, hvs⟩ := asker_name hv
      have HV := Lib.hid hv
      have hC1 := HC.out v hm
      have hBr : B ≤ wr.heap.size := by omega
      have j0 : (0 : Int) ≤ (k : Int) := by omega
      have j1 : (k : Int) < (x.askers.length : Int) := by omega
      clear bP hv
      go_wp2_with fail
      refine (sAsker_calls v [_, _, _, _] _ B hBr HV.out hC1).mono ?_
      rintro e w2 ⟨r, rfl, hr, hb1⟩
      have HR := Lib.hid hr
      have hb2 := hb0.trans (hb1.mono hz)
      clear hr hb1 cP fP y0 y1 y2 y3 hC1
      cases r with
      | false =>
        have HN := Lib.hid (show ¬ SOk x from fun h => absurd (HR.out.2 (h.1 v hm)) (by simp))
        have hb3 := (boxes1 (P := [_]) hb2).1
        go_wp2
        go_ret
        exact PBool.no HN.out hb3
      | true =>
        have HK3 := Lib.hid ((take_all_succ hd1.out).2 ⟨HK.out, HR.out.1 rfl⟩)
        go_wp2
        go_loopw [4] (fun i w' => ∃ (j : Nat), j ≤ k ∧ i = .int .i64 j ∧ Hid (v.name ∉ (x.askers.map (·.name)).take j) ∧ Below (w.heap.size + 1) (w.alloc (.cells #[.slice (some ad) x.askers.length c] 29)) w') (fun i _ => k - (intOf i).toNat)
        case atStart => exact ⟨0, by omega, rfl, (by simp : v.name ∉ (x.askers.map (·.name)).take 0), hb2⟩
        case round =>
          clear hb2 hb hz hb0
          obtain ⟨j, hj, rfl, HJ, hb2⟩ := hrel
          obtain ⟨hb, hz, bP⟩ := boxes1 (P := [_]) hb2
          obtain ⟨cP, fP⟩ := blk_rules bP
          have i0 : (0 : Int) ≤ (j : Int) := by omega
          by_cases hlt2 : j < k
          · obtain ⟨ad', v', x0', x1', x2', x3', ea, hbl', hv', hm', hd1', y0', y1', y2', y3'⟩ := row4_at (HL.out.upto (hb.mono hB) (Nat.le_refl _)) rfl (show j < x.askers.length by omega)
            injection ea with ea
            subst ea
            obtain ⟨ad', v2, z0', z1', z2', z3', ea, hbl2, hv2, hm2, hd2, z0, z1, z2, z3⟩ := row4_at (HL.out.upto (hb.mono hB) (Nat.le_refl _)) rfl hlt
            injection ea with ea
            subst ea
            obtain rfl : v = v2 := by
              have h1 := hd1.out
              rw [hd2.out] at h1
              injection h1 with h1
              exact h1.symm
            obtain ⟨a0, b0, b1, A4, n4, q4, es⟩ := askerDs_shape hv'
            simp only [List.cons.injEq, and_true] at es
            obtain ⟨rfl, rfl, rfl, rfl⟩ := es
            obtain ⟨rfl, hvs'⟩ := asker_name hv'
            obtain ⟨a0, b0, b1, A4, n4, q4, es⟩ := askerDs_shape hv2
            simp only [List.cons.injEq, and_true] at es
            obtain ⟨rfl, rfl, rfl, rfl⟩ := es
            obtain ⟨rfl, hvs2⟩ := asker_name hv2
            have HM' := Lib.hid (names_at (f := fun x : Asker => x.name) hd1'.out)
            have i1 : (j : Int) < (x.askers.length : Int) := by omega
            have hltI : (j : Int) < (k : Int) := by omega
            clear hv' hv2 hd1' hd2 y1' y2' y3' z1 z2 z3 bP
            by_cases t : v'.name = v.name
            · have HN := Lib.hid (show ¬ SOk x from fun h => nodup_at h.2.1 HM.out (by rw [← t]; exact mem_of_take HM'.out hlt2))
              rw [t] at y0'
              clear HM'
              go_wp2
              go_quiet (fail)
              go_wp2
              go_ret
              exact PBool.no HN.out (below_drewN hb _)
            · have d6 := str_ne t
              have HJ3 := Lib.hid (First.step HM'.out t HJ.out)
              clear HM' HJ
              go_wp2
              go_quiet (fail)
              go_wp2
              go_roundw
              case rel => exact ⟨j + 1, by omega, by go_num, HJ3, below_drewN hb2 _⟩
              case measure => simp [intOf]; omega
          · have hjk : ¬ (j : Int) < (k : Int) := by omega
            have HD3 := Lib.hid ((nodup_take_succ HM.out).2 ⟨HD.out, by have := HJ.out; rwa [show j = k by omega] at this⟩)
            clear HJ
            go_wp2
            go_roundw
            case rel => exact ⟨k + 1, by omega, by go_num, HK3, HD3, hb2⟩
            case measure => simp [intOf]; omega
    · have HK3 := Lib.hid (show ∀ y ∈ x.askers, AskerOk y by have := HK.out; rwa [show k = x.askers.length by omega, List.take_length] at this)
      have HD3 := Lib.hid (show (x.askers.map (·.name)).Nodup by have := HD.out; rwa [show k = (x.askers.map (·.name)).length by simp; omega, List.take_length] at this)
      have HA2 := Lib.hid (show SOk x ↔ x.askers.length ≤ 4 from ⟨fun h => h.2.2, fun h => ⟨HK3.out, HD3.out, h⟩⟩)
      clear HK HD HK3 HD3
      by_cases tm : (x.askers.length : Int) ≤ 4
      · have HT := Lib.hid (HA2.out.2 (by omega))
        go_wp2
        go_ret
        exact PBool.yes HT.out hb
      · have HN := Lib.hid (show ¬ SOk x from fun h => tm (by have := HA2.out.1 h; omega))
        go_wp2
        go_ret
        exact PBool.no HN.out hb
end Go.Proofs.Ytppfgepoegicgaa
