import Derived.Test.YtppfgepoegicgaaOkShS
import Derived.Test.YtppfgepoegicgaaIdxA
import Derived.Test.YtppfgepoegicgaaIdxK
namespace Go.Proofs.Ytppfgepoegicgaa
open Go Go.RowKit

set_option maxRecDepth 100000 in
set_option maxHeartbeats 8000000 in
theorem iShelfOk_calls (x : Shelf) (us : List Value) (w : World) (B : Nat) (hB : B ≤ w.heap.size) (h : RDv w B (shelfDs x) us) :
    Calls Try.prog 16 #[.agg us.toArray] w (PBool (SOk x) w) := by
  obtain ⟨A, c, rfl, hl⟩ := shelfDs_open h
  have HX := Lib.hid h
  have HL := Lib.hid hl
  have hn2 := hl.len
  clear h hl
  go_enter Try.func16, Try.ntmps16
  go_wp2
  go_loopw [10] (fun i w' => ∃ (k : Nat), k ≤ x.askers.length ∧ i = .int .i64 k ∧ Hid (∀ y ∈ x.askers.take k, AskerOk y) ∧ Hid (((x.askers.map (·.name)).take k).Nodup) ∧ Below (w.heap.size + 1) (w.alloc (.cells #[.slice A x.askers.length c] 29)) w') (fun i _ => x.askers.length - (intOf i).toNat)
  case atStart => exact ⟨0, by omega, rfl, (by simp : ∀ y ∈ x.askers.take 0, AskerOk y), (by simp : ((x.askers.map (·.name)).take 0).Nodup), Below.refl _ _⟩
  case round =>
    obtain ⟨V, eV⟩ : ∃ V, V = wr := ⟨_, rfl⟩
    subst eV
    obtain ⟨k, hk, rfl, HK, HD, hb0⟩ := hrel
    obtain ⟨hb, hz, bP⟩ := boxes1 (P := [_]) hb0
    obtain ⟨cP, fP⟩ := blk_rules bP
    have BP := Lib.hid bP
    clear bP
    by_cases hlt : k < x.askers.length
    · obtain ⟨ad, v, x0, x1, x2, x3, rfl, hbl, hv, hm, hd1, y0, y1, y2, y3⟩ := row4_at (HL.out.upto (hb.mono hB) (Nat.le_refl _)) rfl hlt
      have HM := Lib.hid (names_at (f := fun x : Asker => x.name) hd1.out)
      obtain ⟨A4, c4, es, hvs, hrow⟩ := askerDs_open hv
      simp only [List.cons.injEq, and_true] at es
      obtain ⟨rfl, rfl, rfl, rfl⟩ := es
      have HV := Lib.hid hv
      have HRW := Lib.hid hrow
      have hn4 := hrow.len
      have hBr : B ≤ V.heap.size := by omega
      have j0 : (0 : Int) ≤ (k : Int) := by omega
      have j1 : (k : Int) < (x.askers.length : Int) := by omega
      have hW := fun o => below_box V o
      clear hv hrow
      by_cases tn : NameOk v.name
      case neg =>
        have HN := Lib.hid (show ¬ SOk x from fun h => tn (h.1 v hm).1)
        go_wp2_with fail
        refine ((iNameOk_calls _ _ hvs).mono fun e w' h => h.false_ tn).mono ?_
        rintro e w1 ⟨rfl, rfl⟩
        go_wp2
        go_ret
        exact PBool.no HN.out (hb.trans ((hW _).mono (by omega)))
      have hbw : ∀ o, Blk (V.alloc o) w.heap.size 29 [.slice (some ad) x.askers.length c] := fun o => BP.out.alloc o
      have HPx := fun o => (blk_rules (hbw o)).1 0
      clear hbw
      go_wp2_with fail
      refine ((iNameOk_calls _ _ hvs).mono fun e w' h => h.true_ tn).mono ?_
      rintro e w1 ⟨rfl, rfl⟩
      go_wp2_with fail
      refine (iAsker_calls x [_] v.name _ B (Nat.le_trans hBr (hW _).size) (HX.out.below ((hb.trans ((hW _).mono (by omega))).mono hB))).mono ?_
      rintro e w2 ⟨r, rfl, hr, hb1⟩
      have HF := Lib.hid hr
      obtain ⟨hb3, hz3, bA⟩ := boxes1 (P := [_, _, _, _]) (boxes1_of hb1)
      have hb4 := hb0.trans (hb3.mono hz)
      have BP2 := Lib.hid (BP.out.below hb3)
      have BA2 := Lib.hid bA
      obtain ⟨cA, fA⟩ := blk_rules bA
      obtain ⟨cB, fB⟩ := blk_rules BP2.out
      have hb5 := hb.trans (hb3.mono (by omega))
      clear hr hb1 bA HPx y0 y1 y2 y3 cP fP hW
      by_cases ta : v.name ∈ (x.askers.map (·.name)).take k
      case pos =>
        have HN := Lib.hid (show ¬ SOk x from fun h => nodup_at h.2.1 HM.out ta)
        have d7 : (r != (k : Int)) = true := by
          have := (not_congr (HF.out.at HM.out)).2 (fun h => h ta)
          simpa using this
        go_wp2
        go_ret
        exact PBool.no HN.out hb5
      have d7 : (r != (k : Int)) = false := by
        have := (HF.out.at HM.out).2 ta
        simpa using this
      have HD3 := Lib.hid ((nodup_take_succ HM.out).2 ⟨HD.out, ta⟩)
      clear HF ta
      by_cases tb : (0 ≤ v.most ∧ v.most ≤ 150) ∧ (0 ≤ v.fuel ∧ v.fuel ≤ 5000)
      case neg =>
        have HN := Lib.hid (show ¬ SOk x from fun h => tb ⟨(h.1 v hm).2.1, (h.1 v hm).2.2.1⟩)
        go_wp2_with fail
        refine ((iBounds_calls _ _ _).mono fun e w' h => h.false_ tb).mono ?_
        rintro e w1 ⟨rfl, rfl⟩
        go_wp2
        go_ret
        exact PBool.no HN.out hb5
      by_cases tl : 4 < v.trees.length
      case pos =>
        have HN := Lib.hid (show ¬ SOk x from fun h => absurd (h.1 v hm).2.2.2.1 (by omega))
        go_wp2_with fail
        refine ((iBounds_calls _ _ _).mono fun e w' h => h.true_ tb).mono ?_
        rintro e w1 ⟨rfl, rfl⟩
        go_wp2
        go_ret
        exact PBool.no HN.out hb5
      have HA := Lib.hid (show (∀ y ∈ v.trees, KOk y) → (v.trees.map (·.name)).Nodup → (AskerOk v ↔ (keptsCnt v.trees : Int) ≤ v.most) from fun h1 h2 =>
        ⟨fun h => h.2.2.2.2.2.2, fun h => ⟨tn, tb.1, tb.2, by omega, h1, h2, h⟩⟩)
      go_wp2_with fail
      refine ((iBounds_calls _ _ _).mono fun e w' h => h.true_ tb).mono ?_
      rintro e w2 ⟨rfl, rfl⟩
      go_wp2
      have TL := Lib.hid tl
      clear tb tn tl d7 cA fA cB fB hb0
      go_loopw [44] (fun i w' => ∃ (j : Nat), j ≤ v.trees.length ∧ i = .int .i64 j ∧ Hid (∀ y ∈ v.trees.take j, KOk y) ∧ Hid (((v.trees.map (·.name)).take j).Nodup) ∧ Below w2.heap.size w2 w') (fun i _ => v.trees.length - (intOf i).toNat)
      case atStart => exact ⟨0, by omega, rfl, (by simp : ∀ y ∈ v.trees.take 0, KOk y), (by simp : ((v.trees.map (·.name)).take 0).Nodup), Below.refl _ _⟩
      case round =>
        obtain ⟨j, hj, rfl, HK2, HD2, hc0⟩ := hrel
        have hcz := hc0.size
        have hbW := hb5.trans (hc0.mono (by omega))
        have BAw := Lib.hid (BA2.out.below hc0)
        have hcc := hb3.trans (hc0.mono (Nat.le_trans (Nat.le_succ _) hz3))
        by_cases hlt2 : j < v.trees.length
        · obtain ⟨ad2, t, p0, p1, p2, p3, p4, p5, rfl, hbl2, ht, htm, hd2, z0, z1, z2, z3, z4, z5⟩ := row6_at (HRW.out.upto (hcc.mono hBr) (Nat.le_refl _)) rfl hlt2
          have HM2 := Lib.hid (names_at (f := fun x : Kept => x.name) hd2.out)
          obtain ⟨a0, b0, b1, b2, A5, n5, q5, A6, n6, q6, es⟩ := keptDs_shape ht
          simp only [List.cons.injEq, and_true] at es
          obtain ⟨rfl, rfl, rfl, rfl, rfl, rfl⟩ := es
          have HT := Lib.hid (keptDs_tail ht)
          obtain ⟨rfl, hts⟩ := kept_name ht
          have hBw : B ≤ wr.heap.size := by omega
          have i0 : (0 : Int) ≤ (j : Int) := by omega
          have i1 : (j : Int) < (v.trees.length : Int) := by omega
          have hW := fun o => below_box wr o
          clear ht
          by_cases tn : NameOk t.name
          case neg =>
            have HN := Lib.hid (show ¬ SOk x from fun h => tn ((h.1 v hm).2.2.2.2.1 t htm).1)
            go_wp2_with fail
            refine ((iNameOk_calls _ _ hts).mono fun e w' h => h.false_ tn).mono ?_
            rintro e w1 ⟨rfl, rfl⟩
            go_wp2
            go_ret
            exact PBool.no HN.out (hbW.trans ((hW _).mono (by omega)))
          have QA := fun o i => (BAw.out.alloc o).cell i
          go_wp2_with fail
          refine ((iNameOk_calls _ _ hts).mono fun e w' h => h.true_ tn).mono ?_
          rintro e w1 ⟨rfl, rfl⟩
          go_wp2_with fail
          refine (iTree_calls v [_, _, _, _] t.name _ B (Nat.le_trans hBw (hW _).size) (HV.out.below ((hcc.trans ((hW _).mono (by omega))).mono hBr))).mono ?_
          rintro e w3 ⟨r2, rfl, hr2, hb6⟩
          have HF2 := Lib.hid hr2
          obtain ⟨hb7, hz7, bT⟩ := boxes1 (P := [_, _, _, _, _, _]) (boxes1_of hb6)
          have hc1 := hc0.trans (hb7.mono hcz)
          have hb9 := hb5.trans (hc1.mono (by omega))
          obtain ⟨cT, fT⟩ := blk_rules bT
          have TN := Lib.hid tn
          clear hr2 hb6 bT QA tn z0 z1 z2 z3 z4 z5 hW
          by_cases ta : t.name ∈ (v.trees.map (·.name)).take j
          case pos =>
            have HN := Lib.hid (show ¬ SOk x from fun h => nodup_at (h.1 v hm).2.2.2.2.2.1 HM2.out ta)
            have d8 : (r2 != (j : Int)) = true := by
              have := (not_congr (HF2.out.at HM2.out)).2 (fun h => h ta)
              simpa using this
            go_wp2
            go_ret
            exact PBool.no HN.out hb9
          have d8 : (r2 != (j : Int)) = false := by
            have := (HF2.out.at HM2.out).2 ta
            simpa using this
          have HD4 := Lib.hid ((nodup_take_succ HM2.out).2 ⟨HD2.out, ta⟩)
          clear HF2 ta HD2
          go_wp2_with fail
          refine (iValOk_calls t.v [_, _, _, _, _] _ B (by omega) (HT.out.below (hb7.mono hBw))).mono ?_
          rintro e w4 ⟨r3, rfl, hr3, hb8⟩
          have HR3 := Lib.hid hr3
          have hc2 := hc1.trans (hb8.mono (by omega))
          have hb10 := hb5.trans (hc2.mono (by omega))
          clear hr3 hb8 cT fT d8 hb9
          cases r3 with
          | false =>
            have HN := Lib.hid (show ¬ SOk x from fun h => absurd (HR3.out.2 ((h.1 v hm).2.2.2.2.1 t htm).2) (by simp))
            go_wp2
            go_ret
            exact PBool.no HN.out hb10
          | true =>
            have HK4 := Lib.hid ((take_all_succ hd2.out).2 ⟨HK2.out, ⟨TN.out, HR3.out.1 rfl⟩⟩)
            go_wp2
            go_roundw
            case rel => exact ⟨j + 1, by omega, by go_num, HK4, HD4, hc2⟩
            case measure => simp [intOf]; omega
        · have HK3 := Lib.hid (show ∀ y ∈ v.trees, KOk y by have := HK2.out; rwa [show j = v.trees.length by omega, List.take_length] at this)
          have HD4 := Lib.hid (show (v.trees.map (·.name)).Nodup by have := HD2.out; rwa [show j = (v.trees.map (·.name)).length by simp; omega, List.take_length] at this)
          have HA2 := Lib.hid (HA.out HK3.out HD4.out)
          have hsum : keptsCnt v.trees ≤ 1099511627776 := by
            have := keptsCnt_le v.trees fun y hy => (HK3.out y hy).2
            have := TL.out
            omega
          clear HK2 HD2 HA
          obtain ⟨m, em⟩ : ∃ m, m = keptsCnt v.trees := ⟨_, rfl⟩
          have EM := Lib.hid em
          rw [← em] at HA2
          clear em
          have cA := BAw.out.cell
          have gz := BAw.out.lt
          have K2 := Lib.hid (show Has [(V.heap.size, [.string v.name, .int .i64 v.most, .int .i64 v.fuel, .slice A4 v.trees.length c4])] wr.drew from
            Has.cons gz (fun i u hu => (cA i).trans hu) (Has.nil _))
          have D2 := Lib.hid (show Below wr.heap.size wr wr.drew from (Below.refl _ _).drew)
          have HX2 := Lib.hid (HV.out.below ((hcc.trans (D2.out.mono (by omega))).mono hBr))
          have hBw : B ≤ wr.drew.heap.size := show B ≤ wr.heap.size by omega
          by_cases tm : v.most < (m : Int)
          all_goals
            go_wp2_with fail
            have k0 := K2.out.head 0 rfl
            have k1 := K2.out.head 1 rfl
            have k2 := K2.out.head 2 rfl
            have k3 := K2.out.head 3 rfl
            clear cA
            go_region_held3 (fun w' => w'.cell? ⟨V.heap.size, 0, none⟩ = some (.string v.name) ∧ w'.cell? ⟨V.heap.size, 1, none⟩ = some (.int .i64 v.most) ∧ w'.cell? ⟨V.heap.size, 2, none⟩ = some (.int .i64 v.fuel) ∧ w'.cell? ⟨V.heap.size, 3, none⟩ = some (.slice A4 v.trees.length c4))
              (first | go_keep | exact ⟨K3.out.head 0 rfl, K3.out.head 1 rfl, K3.out.head 2 rfl, K3.out.head 3 rfl⟩)
              (first
                | (go_at_call 46; ((with_reducible refine (iUsed_calls v [.string v.name, .int .i64 v.most, .int .i64 v.fuel, .slice A4 v.trees.length c4] wr.drew B hBw HX2.out hsum).mono ?_); rintro e w3 ⟨rfl, hb8⟩; rw [← EM.out]; have K3 := Lib.hid (K2.out.below hb8))))
            have hb9 := hc0.trans ((D2.out.trans (hb8.mono D2.out.size)).mono hcz)
            have hb10 := hb5.trans (hb9.mono (by omega))
          · have HN := Lib.hid (show ¬ SOk x from fun h => absurd (HA2.out.1 (h.1 v hm)) (by omega))
            go_wp2
            go_ret
            exact PBool.no HN.out hb10
          · have HK5 := Lib.hid ((take_all_succ hd1.out).2 ⟨HK.out, HA2.out.2 (by omega)⟩)
            have hb11 := hb4.trans (hb9.mono (by omega))
            clear k0 k1 k2 k3
            go_wp2
            go_roundw
            case rel => exact ⟨k + 1, by omega, by go_num, HK5, HD3, hb11⟩
            case measure => simp [intOf]; omega
    · have HK3 := Lib.hid (show ∀ y ∈ x.askers, AskerOk y by have := HK.out; rwa [show k = x.askers.length by omega, List.take_length] at this)
      have HD3 := Lib.hid (show (x.askers.map (·.name)).Nodup by have := HD.out; rwa [show k = (x.askers.map (·.name)).length by simp; omega, List.take_length] at this)
      have HA2 := Lib.hid (show SOk x ↔ x.askers.length ≤ 4 from ⟨fun h => h.2.2, fun h => ⟨HK3.out, HD3.out, h⟩⟩)
      clear HK HD HK3 HD3
      by_cases tm : (x.askers.length : Int) ≤ 4
      · have HT := Lib.hid (HA2.out.2 (by omega))
        go_wp2
        go_ret
        exact PBool.yes HT.out hb
      · have HN := Lib.hid (show ¬ SOk x from fun h => tm (by have := HA2.out.1 h; omega))
        go_wp2
        go_ret
        exact PBool.no HN.out hb
end Go.Proofs.Ytppfgepoegicgaa
