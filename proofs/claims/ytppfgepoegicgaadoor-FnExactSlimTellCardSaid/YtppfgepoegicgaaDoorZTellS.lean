/- How much a filter tells: the reference's l6Tell. -/
import Derived.Test.YtppfgepoegicgaaDoorGf
import Derived.Deep.QuietTactic
import Derived.BigQuiet
namespace Go.Proofs.YtppfgepoegicgaaDoor
open Go Go.RowKit

theorem max_calls (a b : Int) (w : World) : Calls Tryd.prog 46 #[.int .i64 a, .int .i64 b] w fun e w' => e = .returned (.int .i64 (max a b)) ∧ w' = w := by
  by_cases h : b < a
  · have e : max a b = a := Int.max_eq_left (by omega)
    rw [e]
    go_enter Tryd.func46, Tryd.ntmps46
    go_wp2
    go_ret
    exact ⟨rfl, rfl⟩
  · have e : max a b = b := Int.max_eq_right (by omega)
    rw [e]
    go_enter Tryd.func46, Tryd.ntmps46
    go_wp2
    go_ret
    exact ⟨rfl, rfl⟩

set_option maxRecDepth 100000 in
set_option maxHeartbeats 4000000 in
theorem sTell_of (x : Filt) (ih : ∀ kind n s v kids, x = .mk kind n s v kids → ∀ y ∈ kids, TellC 29 y) : TellC 29 x := by
  intro us w B d hB h hF hC
  obtain ⟨kind, n, s, v, kids, a3, a4, a5, A6, n6, q6, A7, n7, q7, A8, q8, rfl, rfl, hs, hv, hk⟩ := filtDs_all h
  have IH := Lib.hid (ih _ _ _ _ _ rfl)
  have hff := (fform_iff (fform_pos hF)).1 hF
  have hk1 := hff.1.1
  have HFK := Lib.hid hff.2.1
  have hkn : kids.length ≤ 3 := by
    have h1 : kidsOf kind ≤ 3 := kidsOf_le kind
    omega
  have HK1 := Lib.hid hk1
  have HR := Lib.hid (kidsOf_range (k := kind) (by omega))
  have HK := Lib.hid hk
  have hC2 : ∀ y ∈ kids, filtCnt y ≤ 16 := fun y hy => by
    have := filtsCnt_mem hy
    simp only [filtCnt] at hC
    omega
  have HC := Lib.hid hC2
  have HT := Lib.hid (fun y (hy : y ∈ kids) => tl_small (hC2 y hy))
  have HCX := Lib.hid hC
  clear ih hF hff h hv hk hs hk1 hC hC2
  obtain ⟨iI, hiI, zI0, zI1, zI2⟩ := info_parts' Tryd.info_int
  have W1e := Lib.hid (Blk.new w 36 [.int .i64 kind, .int .i64 n, .string s, .int .i64 a3, .int .i64 a4, .string a5, .slice A6 n6 q6, .slice A7 n7 q7, .slice A8 kids.length q8])
  have q0 := fun o => (show ((w.alloc (.cells #[.int .i64 kind, .int .i64 n, .string s, .int .i64 a3, .int .i64 a4, .string a5, .slice A6 n6 q6, .slice A7 n7 q7, .slice A8 kids.length q8] 36)).alloc o).cell? ⟨w.heap.size, 8, none⟩ = some (.slice A8 kids.length q8) from (W1e.out.alloc o).cell 8)
  go_enter Tryd.func29, Tryd.ntmps29
  go_wp2
  go_loopw [3, 4] (fun nv i w' => ∃ (k : Nat), k ≤ kids.length ∧ i = .int .i64 k ∧ Hid (Acc w.heap.size (w.heap.size + 1) 3 1 w' nv k (ints (tls (kids.take k)))) ∧ Hid (Below (w.heap.size + 1) (w.alloc (.cells #[.int .i64 kind, .int .i64 n, .string s, .int .i64 a3, .int .i64 a4, .string a5, .slice A6 n6 q6, .slice A7 n7 q7, .slice A8 kids.length q8] 36)) w')) (fun _ i _ => kids.length - (intOf i).toNat)
  case atStart => exact ⟨0, by omega, rfl, acc_made 3 1 (w.alloc (.cells #[.int .i64 kind, .int .i64 n, .string s, .int .i64 a3, .int .i64 a4, .string a5, .slice A6 n6 q6, .slice A7 n7 q7, .slice A8 kids.length q8] 36)) (by simp) (by omega), (Below.refl _ _).alloc (by simp) _⟩
  case round =>
    clear q0
    obtain ⟨k, hk, rfl, HA, HB⟩ := hrel
    have hz : w.heap.size + 1 ≤ wr.heap.size := by have := HB.out.size; simpa using this
    have hb := Lib.hid ((below_box w _).trans (HB.out.mono (by omega)))
    have HP := Lib.hid (W1e.out.same (HB.out.block w.heap.size (by omega)))
    obtain ⟨cP, fP⟩ := blk_rules HP.out
    by_cases hlt : k < kids.length
    · obtain ⟨ad, y, x0, x1, x2, x3, x4, x5, x6, x7, x8, rfl, hbl, hv, hm, hd, z0, z1, z2, z3, z4, z5, z6, z7, z8⟩ := row9_at (HK.out.upto (hb.out.mono hB) (Nat.le_refl _)) rfl hlt
      have hBr : B ≤ wr.heap.size := by omega
      have j0 : (0 : Int) ≤ (k : Int) := by omega
      have j1 : (k : Int) < (kids.length : Int) := by omega
      have HV := Lib.hid hv
      clear hv
      go_wp2_with fail
      refine (IH.out y hm [_, _, _, _, _, _, _, _, _] wr B (d - 1) hBr HV.out (HFK.out y hm) (HC.out y hm)).mono ?_
      rintro e w4 ⟨rfl, hb1⟩
      have HB4 := Lib.hid hb1
      have hr := HT.out y hm
      clear hb1 z0 z1 z2 z3 z4 z5 z6 z7 z8 cP fP
      go_wp2_with (at_builtin; (refine wpList_append_acc rfl _ _ 65 rfl 3 iI (.int .i64 0) 1 8 Tryd.underlying65 hiI zI0 zI1 zI2 rfl (by decide) rfl rfl HA.out HB4.out (us1 := [_]) (show ODv w4 [.int (tl y)] [.int .i64 (tl y)] [] from ⟨_, _, [], [], rfl, rfl, ⟨rfl, rfl⟩, rfl, rfl⟩) (Fresh.nil _ _) rfl (by unfold maxLen; omega) (by omega) hz (by omega) ?_; intro v5 w5 hA5 hB5 hz6; have HA5 := Lib.hid hA5; have HB5 := Lib.hid hB5; clear hA5 hB5 hz6))
      have HA6 := Lib.hid (show Acc w.heap.size (w.heap.size + 1) 3 1 w5 v5 (k + 1) (ints (tls (kids.take (k + 1)))) by
        rw [take_of_drop hd.out, tls_eq, List.map_append, ints_append, ← tls_eq]
        exact HA5.out)
      have HB6 := Lib.hid (HB.out.trans ((HB4.out.mono hz).trans HB5.out))
      clear HA HB HA5 HB5 HB4 HP hb hr
      go_wp2
      go_roundw
      case rel => exact ⟨k + 1, by omega, by go_num, HA6, HB6⟩
      case measure => simp [intOf]; omega
    · obtain rfl : k = kids.length := by omega
      obtain ⟨La, Lm, Lc, rfl⟩ := HA.out.shape
      have HA0 := Lib.hid (show Acc w.heap.size (w.heap.size + 1) 3 1 wr (.slice La Lm Lc) kids.length (ints (tls kids)) by have h := HA.out; rwa [List.take_length] at h)
      have hLm : Lm = kids.length := by
        obtain ⟨us, fp, ⟨h1, h2⟩, _⟩ := HA0.out
        rcases h2 with ⟨e1, e2⟩ | ⟨g, cap, cur, e1, _⟩
        · injection e1 with e1 e3 e4
          omega
        · injection e1
      subst hLm
      clear HA HB
      have HL := Lib.hid (tls_length kids)
      by_cases h5 : kind = 5
      · subst h5
        go_wp2
        go_ret
        exact ⟨by simp [tl, tlK], hb.out⟩
      by_cases h18 : kind = 18
      · subst h18
        go_wp2
        go_ret
        exact ⟨by simp [tl, tlK], hb.out⟩
      by_cases h19 : kind = 19
      · subst h19
        go_wp2
        go_ret
        exact ⟨by simp [tl, tlK], hb.out⟩
      by_cases h12 : kind = 12
      · subst h12
        go_wp2
        go_ret
        exact ⟨by simp [tl, tlK], hb.out⟩
      by_cases h20 : kind = 20
      · subst h20
        go_wp2
        go_ret
        exact ⟨by simp [tl, tlK], hb.out⟩
      by_cases h17 : kind = 17
      · subst h17
        have hl1 : (tls kids).length = 1 := by
          rw [HL.out]
          have h1 := HK1.out
          have h2 : kidsOf 17 = 1 := by decide
          omega
        obtain ⟨t0, et⟩ := len1 hl1
        obtain ⟨g, cap, e1, e0, hc⟩ := HA0.out.ints_open (by omega)
        injection e1 with e1 _ e3
        subst e1 e3
        have y0 : wr.cell? ⟨g, 0, none⟩ = some (.int .i64 t0) := hc 0 t0 (by rw [et]; rfl)
        have m0 : 0 < kids.length := by omega
        have m1 : (0 : Int) < (kids.length : Int) := by omega
        have HE := Lib.hid et
        clear et hc hl1 e0
        go_wp2
        go_ret
        exact ⟨by simp [tl, tlK, HE.out], hb.out⟩
      by_cases h21 : kind = 21
      · subst h21
        have hl1 : (tls kids).length = 1 := by
          rw [HL.out]
          have h1 := HK1.out
          have h2 : kidsOf 21 = 1 := by decide
          omega
        obtain ⟨t0, et⟩ := len1 hl1
        obtain ⟨g, cap, e1, e0, hc⟩ := HA0.out.ints_open (by omega)
        injection e1 with e1 _ e3
        subst e1 e3
        have y0 : wr.cell? ⟨g, 0, none⟩ = some (.int .i64 t0) := hc 0 t0 (by rw [et]; rfl)
        have m0 : 0 < kids.length := by omega
        have m1 : (0 : Int) < (kids.length : Int) := by omega
        have HE := Lib.hid et
        clear et hc hl1 e0
        go_wp2
        go_ret
        exact ⟨by simp [tl, tlK, HE.out], hb.out⟩
      have HFINE := Lib.hid (fun hn => tlK_fine (n := tls kids) h5 h18 h19 h12 h20 h17 h21 hn)
      have HNEG := Lib.hid (fun t hm ht => tlK_neg (n := tls kids) h5 h18 h19 h12 h20 h17 h21 (t := t) hm ht)
      have c5 : (kind == 5) = false := by simpa using h5
      have c18 : (kind == 18) = false := by simpa using h18
      have c19 : (kind == 19) = false := by simpa using h19
      have c12 : (kind == 12) = false := by simpa using h12
      have c20 : (kind == 20) = false := by simpa using h20
      have c17 : (kind == 17) = false := by simpa using h17
      have c21 : (kind == 21) = false := by simpa using h21
      clear h5 h18 h19 h12 h20 h17 h21
      obtain ⟨wo, rfl⟩ : ∃ wo : World, wo = wr := ⟨_, rfl⟩
      go_wp2
      go_loopw [5] (fun i w' => ∃ (j : Nat), j ≤ kids.length ∧ i = .int .i64 j ∧ Hid (∀ t ∈ (tls kids).take j, ¬ t < 0) ∧ w' = wo) (fun i _ => kids.length - (intOf i).toNat)
      case atStart => exact ⟨0, by omega, rfl, (by simp : ∀ t ∈ (tls kids).take 0, ¬ t < 0), rfl⟩
      case round =>
        obtain ⟨j, hj, rfl, HTK, rfl⟩ := hrel
        by_cases hlt2 : j < kids.length
        · obtain ⟨g, cap, e1, e0, hc⟩ := HA0.out.ints_open (by rw [HL.out]; omega)
          injection e1 with e1 _ e3
          subst e1 e3
          have hjl : j < (tls kids).length := by rw [HL.out]; exact hlt2
          obtain ⟨t, et⟩ : ∃ t, t = (tls kids)[j] := ⟨_, rfl⟩
          have y0 : wr.cell? ⟨g, j, none⟩ = some (.int .i64 t) := hc j t (by rw [List.getElem?_eq_getElem hjl, et])
          have hm : t ∈ tls kids := by rw [et]; exact List.getElem_mem hjl
          have j0 : (0 : Int) ≤ (j : Int) := by omega
          have j1 : (j : Int) < (kids.length : Int) := by omega
          have HTK2 := Lib.hid (show ¬ t < 0 → ∀ t ∈ (tls kids).take (j + 1), ¬ t < 0 from fun h t' ht' => by
            rw [List.take_succ_eq_append_getElem hjl, ← et] at ht'
            rcases List.mem_append.1 ht' with h1 | h1
            · exact HTK.out t' h1
            · rw [List.mem_singleton.1 h1]; exact h)
          clear hc et e0 hjl
          by_cases tn : t < 0
          · have HV := Lib.hid (show tl (.mk kind n s v kids) = -1 from HNEG.out t hm tn)
            clear hm
            go_wp2
            go_ret
            exact ⟨by rw [HV.out]; rfl, hb.out⟩
          · have HT3 := Lib.hid (HTK2.out tn)
            clear hm
            go_wp2
            go_roundw
            case rel => exact ⟨j + 1, by omega, by go_num, HT3, trivial⟩
            case measure => simp [intOf]; omega
        · have hall : ∀ t ∈ tls kids, ¬ t < 0 := by
            have h := HTK.out
            rwa [show j = (tls kids).length by rw [HL.out]; omega, List.take_length] at h
          clear HTK
          by_cases h6 : kind = 6
          · subst h6
            have hln : (tls kids).length = 2 := by
              rw [HL.out]
              have h1 := HK1.out
              have h2 : kidsOf 6 = 2 := by decide
              omega
            obtain ⟨t0, t1, et⟩ := len2 hln
            obtain ⟨g, cap, e1, e0, hc⟩ := HA0.out.ints_open (by omega)
            injection e1 with e1 _ e3
            subst e1 e3
            have y0 : wr.cell? ⟨g, 0, none⟩ = some (.int .i64 t0) := hc 0 t0 (by rw [et]; rfl)
            have m0 : 0 < kids.length := by omega
            have mm0 : (0 : Int) < (kids.length : Int) := by omega
            have y1 : wr.cell? ⟨g, 1, none⟩ = some (.int .i64 t1) := hc 1 t1 (by rw [et]; rfl)
            have m1 : 1 < kids.length := by omega
            have mm1 : (1 : Int) < (kids.length : Int) := by omega
            have HVal := Lib.hid (show tl (.mk 6 n s v kids) = t0 * t1 by
              simp only [tl]
              rw [HFINE.out (fun t ht => by have := hall t ht; omega), et]
              simp)
            have hran : -1 ≤ tl (.mk 6 n s v kids) ∧ tl (.mk 6 n s v kids) ≤ 65536 := tl_small HCX.out
            rw [HVal.out] at hran
            have hw : IntKind.i64.wrap (t0 * t1) = t0 * t1 := IntWalk.i64_in _ (by omega)
            clear et hc hln e0 hran
            go_wp2
            go_quiet (fail)
            go_wp2
            go_ret
            exact ⟨by rw [HVal.out]; rfl, below_drewN hb.out _⟩
          by_cases h9 : kind = 9
          · subst h9
            have hln : (tls kids).length = 2 := by
              rw [HL.out]
              have h1 := HK1.out
              have h2 : kidsOf 9 = 2 := by decide
              omega
            obtain ⟨t0, t1, et⟩ := len2 hln
            obtain ⟨g, cap, e1, e0, hc⟩ := HA0.out.ints_open (by omega)
            injection e1 with e1 _ e3
            subst e1 e3
            have y0 : wr.cell? ⟨g, 0, none⟩ = some (.int .i64 t0) := hc 0 t0 (by rw [et]; rfl)
            have m0 : 0 < kids.length := by omega
            have mm0 : (0 : Int) < (kids.length : Int) := by omega
            have y1 : wr.cell? ⟨g, 1, none⟩ = some (.int .i64 t1) := hc 1 t1 (by rw [et]; rfl)
            have m1 : 1 < kids.length := by omega
            have mm1 : (1 : Int) < (kids.length : Int) := by omega
            have HVal := Lib.hid (show tl (.mk 9 n s v kids) = t0 * t1 by
              simp only [tl]
              rw [HFINE.out (fun t ht => by have := hall t ht; omega), et]
              simp)
            have hran : -1 ≤ tl (.mk 9 n s v kids) ∧ tl (.mk 9 n s v kids) ≤ 65536 := tl_small HCX.out
            rw [HVal.out] at hran
            have hw : IntKind.i64.wrap (t0 * t1) = t0 * t1 := IntWalk.i64_in _ (by omega)
            clear et hc hln e0 hran
            go_wp2
            go_quiet (fail)
            go_wp2
            go_ret
            exact ⟨by rw [HVal.out]; rfl, below_drewN hb.out _⟩
          by_cases h10 : kind = 10
          · subst h10
            have hln : (tls kids).length = 2 := by
              rw [HL.out]
              have h1 := HK1.out
              have h2 : kidsOf 10 = 2 := by decide
              omega
            obtain ⟨t0, t1, et⟩ := len2 hln
            obtain ⟨g, cap, e1, e0, hc⟩ := HA0.out.ints_open (by omega)
            injection e1 with e1 _ e3
            subst e1 e3
            have y0 : wr.cell? ⟨g, 0, none⟩ = some (.int .i64 t0) := hc 0 t0 (by rw [et]; rfl)
            have m0 : 0 < kids.length := by omega
            have mm0 : (0 : Int) < (kids.length : Int) := by omega
            have y1 : wr.cell? ⟨g, 1, none⟩ = some (.int .i64 t1) := hc 1 t1 (by rw [et]; rfl)
            have m1 : 1 < kids.length := by omega
            have mm1 : (1 : Int) < (kids.length : Int) := by omega
            have HVal := Lib.hid (show tl (.mk 10 n s v kids) = t0 * t1 by
              simp only [tl]
              rw [HFINE.out (fun t ht => by have := hall t ht; omega), et]
              simp)
            have hran : -1 ≤ tl (.mk 10 n s v kids) ∧ tl (.mk 10 n s v kids) ≤ 65536 := tl_small HCX.out
            rw [HVal.out] at hran
            have hw : IntKind.i64.wrap (t0 * t1) = t0 * t1 := IntWalk.i64_in _ (by omega)
            clear et hc hln e0 hran
            go_wp2
            go_quiet (fail)
            go_wp2
            go_ret
            exact ⟨by rw [HVal.out]; rfl, below_drewN hb.out _⟩
          by_cases h11 : kind = 11
          · subst h11
            have hln : (tls kids).length = 2 := by
              rw [HL.out]
              have h1 := HK1.out
              have h2 : kidsOf 11 = 2 := by decide
              omega
            obtain ⟨t0, t1, et⟩ := len2 hln
            obtain ⟨g, cap, e1, e0, hc⟩ := HA0.out.ints_open (by omega)
            injection e1 with e1 _ e3
            subst e1 e3
            have y0 : wr.cell? ⟨g, 0, none⟩ = some (.int .i64 t0) := hc 0 t0 (by rw [et]; rfl)
            have m0 : 0 < kids.length := by omega
            have mm0 : (0 : Int) < (kids.length : Int) := by omega
            have y1 : wr.cell? ⟨g, 1, none⟩ = some (.int .i64 t1) := hc 1 t1 (by rw [et]; rfl)
            have m1 : 1 < kids.length := by omega
            have mm1 : (1 : Int) < (kids.length : Int) := by omega
            have HVal := Lib.hid (show tl (.mk 11 n s v kids) = t0 * t1 by
              simp only [tl]
              rw [HFINE.out (fun t ht => by have := hall t ht; omega), et]
              simp)
            have hran : -1 ≤ tl (.mk 11 n s v kids) ∧ tl (.mk 11 n s v kids) ≤ 65536 := tl_small HCX.out
            rw [HVal.out] at hran
            have hw : IntKind.i64.wrap (t0 * t1) = t0 * t1 := IntWalk.i64_in _ (by omega)
            clear et hc hln e0 hran
            go_wp2
            go_quiet (fail)
            go_wp2
            go_ret
            exact ⟨by rw [HVal.out]; rfl, below_drewN hb.out _⟩
          by_cases h7 : kind = 7
          · subst h7
            have hln : (tls kids).length = 2 := by
              rw [HL.out]
              have h1 := HK1.out
              have h2 : kidsOf 7 = 2 := by decide
              omega
            obtain ⟨t0, t1, et⟩ := len2 hln
            obtain ⟨g, cap, e1, e0, hc⟩ := HA0.out.ints_open (by omega)
            injection e1 with e1 _ e3
            subst e1 e3
            have y0 : wr.cell? ⟨g, 0, none⟩ = some (.int .i64 t0) := hc 0 t0 (by rw [et]; rfl)
            have m0 : 0 < kids.length := by omega
            have mm0 : (0 : Int) < (kids.length : Int) := by omega
            have y1 : wr.cell? ⟨g, 1, none⟩ = some (.int .i64 t1) := hc 1 t1 (by rw [et]; rfl)
            have m1 : 1 < kids.length := by omega
            have mm1 : (1 : Int) < (kids.length : Int) := by omega
            have HVal := Lib.hid (show tl (.mk 7 n s v kids) = t0 + t1 by
              simp only [tl]
              rw [HFINE.out (fun t ht => by have := hall t ht; omega), et]
              simp)
            have hran : -1 ≤ tl (.mk 7 n s v kids) ∧ tl (.mk 7 n s v kids) ≤ 65536 := tl_small HCX.out
            rw [HVal.out] at hran
            have hw : IntKind.i64.wrap (t0 + t1) = t0 + t1 := IntWalk.i64_in _ (by omega)
            clear et hc hln e0 hran
            go_wp2
            go_quiet (fail)
            go_wp2
            go_ret
            exact ⟨by rw [HVal.out]; rfl, below_drewN hb.out _⟩
          by_cases h8 : kind = 8
          · subst h8
            have hln : (tls kids).length = 3 := by
              rw [HL.out]
              have h1 := HK1.out
              have h2 : kidsOf 8 = 3 := by decide
              omega
            obtain ⟨t0, t1, t2, et⟩ := len3 hln
            obtain ⟨g, cap, e1, e0, hc⟩ := HA0.out.ints_open (by omega)
            injection e1 with e1 _ e3
            subst e1 e3
            have y0 : wr.cell? ⟨g, 0, none⟩ = some (.int .i64 t0) := hc 0 t0 (by rw [et]; rfl)
            have m0 : 0 < kids.length := by omega
            have mm0 : (0 : Int) < (kids.length : Int) := by omega
            have y1 : wr.cell? ⟨g, 1, none⟩ = some (.int .i64 t1) := hc 1 t1 (by rw [et]; rfl)
            have m1 : 1 < kids.length := by omega
            have mm1 : (1 : Int) < (kids.length : Int) := by omega
            have y2 : wr.cell? ⟨g, 2, none⟩ = some (.int .i64 t2) := hc 2 t2 (by rw [et]; rfl)
            have m2 : 2 < kids.length := by omega
            have mm2 : (2 : Int) < (kids.length : Int) := by omega
            have HVal := Lib.hid (show tl (.mk 8 n s v kids) = t0 * max t1 t2 by
              simp only [tl]
              rw [HFINE.out (fun t ht => by have := hall t ht; omega), et]
              simp)
            have hran : -1 ≤ tl (.mk 8 n s v kids) ∧ tl (.mk 8 n s v kids) ≤ 65536 := tl_small HCX.out
            rw [HVal.out] at hran
            have hw : IntKind.i64.wrap (t0 * max t1 t2) = t0 * max t1 t2 := IntWalk.i64_in _ (by omega)
            clear et hc hln e0 hran
            go_wp2
            go_quiet ((go_at_call 46; exact Calls.quiet_of_same (max_calls _ _ _)))
            go_wp2
            go_ret
            exact ⟨by rw [HVal.out]; rfl, below_drewN hb.out _⟩
          by_cases h16 : kind = 16
          · subst h16
            have hln : (tls kids).length = 2 := by
              rw [HL.out]
              have h1 := HK1.out
              have h2 : kidsOf 16 = 2 := by decide
              omega
            obtain ⟨t0, t1, et⟩ := len2 hln
            obtain ⟨g, cap, e1, e0, hc⟩ := HA0.out.ints_open (by omega)
            injection e1 with e1 _ e3
            subst e1 e3
            have y0 : wr.cell? ⟨g, 0, none⟩ = some (.int .i64 t0) := hc 0 t0 (by rw [et]; rfl)
            have m0 : 0 < kids.length := by omega
            have mm0 : (0 : Int) < (kids.length : Int) := by omega
            have y1 : wr.cell? ⟨g, 1, none⟩ = some (.int .i64 t1) := hc 1 t1 (by rw [et]; rfl)
            have m1 : 1 < kids.length := by omega
            have mm1 : (1 : Int) < (kids.length : Int) := by omega
            have HVal := Lib.hid (show tl (.mk 16 n s v kids) = max t0 t1 by
              simp only [tl]
              rw [HFINE.out (fun t ht => by have := hall t ht; omega), et]
              simp)
            have hran : -1 ≤ tl (.mk 16 n s v kids) ∧ tl (.mk 16 n s v kids) ≤ 65536 := tl_small HCX.out
            rw [HVal.out] at hran
            clear et hc hln e0 hran
            go_wp2
            go_quiet ((go_at_call 46; exact Calls.quiet_of_same (max_calls _ _ _)))
            go_wp2
            go_ret
            exact ⟨by rw [HVal.out]; rfl, below_drewN hb.out _⟩

          have HVal := Lib.hid (show tl (.mk kind n s v kids) = 1 by
            simp only [tl]
            rw [HFINE.out (fun t ht => by have := hall t ht; omega), if_neg (by omega), if_neg (by omega), if_neg (by omega), if_neg (by omega)])
          have c6 : (kind == 6) = false := by simpa using h6
          have c9 : (kind == 9) = false := by simpa using h9
          have c10 : (kind == 10) = false := by simpa using h10
          have c11 : (kind == 11) = false := by simpa using h11
          have c7 : (kind == 7) = false := by simpa using h7
          have c8 : (kind == 8) = false := by simpa using h8
          have c16 : (kind == 16) = false := by simpa using h16
          clear h6 h9 h10 h11 h7 h8 h16
          go_wp2
          go_ret
          exact ⟨by rw [HVal.out]; rfl, hb.out⟩
theorem sTell_calls : ∀ x, TellC 29 x := Filt.ind fun kind n s v kids ih => sTell_of _ fun _ _ _ _ _ e => by
  injection e with e1 e2 e3 e4 e5
  subst e5
  exact ih
end Go.Proofs.YtppfgepoegicgaaDoor
