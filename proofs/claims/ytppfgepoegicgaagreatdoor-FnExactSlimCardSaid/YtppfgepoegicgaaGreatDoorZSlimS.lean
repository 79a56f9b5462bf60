/- Slim: the reference's l6Slim. -/
import Derived.Test.YtppfgepoegicgaaGreatDoorGm
import Derived.Test.YtppfgepoegicgaaGreatDoorGw
import Derived.Test.YtppfgepoegicgaaGreatDoorGx
namespace Go.Proofs.YtppfgepoegicgaaGreatDoor
open Go Go.RowKit

set_option maxRecDepth 100000 in
set_option maxHeartbeats 16000000 in
theorem slimS_of (x : Filt) (ih : ∀ kind n s v kids, x = .mk kind n s v kids → ∀ y ∈ kids, SlimC 15 y) : SlimC 15 x := by
  intro us w fp L d hLw ho hnd hLf hF
  obtain ⟨kind, n, s, v, kids⟩ := x
  have IH := Lib.hid (ih _ _ _ _ _ rfl)
  obtain ⟨vs5, c8, fv, f0, fk, uk, rfl, rfl, hs, hv, hosl, hk⟩ := odf_open ho
  obtain ⟨f3, f4, f5, A6, n6, q6, A7, n7, q7, rfl⟩ := valDs_shape hv.rd'
  obtain ⟨A8, q8, rfl, -, -, -⟩ := hosl.reads hosl.lt
  obtain ⟨hn1, hn2, hn3⟩ := List.nodup_append.1 hnd
  obtain ⟨hn4, hn5, hn6⟩ := List.nodup_append.1 hn2
  have hlt0 := hosl.lt
  have hltv := ODv.lt _ _ _ hv
  have hf0 : ∀ b ∈ f0, L ≤ b ∧ b < w.heap.size := fun b hb => ⟨hLf b (List.mem_append_right _ (List.mem_append_left _ hb)), hlt0 b hb⟩
  have HFV := Lib.hid (show ∀ b ∈ fv, L ≤ b ∧ b < w.heap.size ∧ b ∉ f0 from fun b hb => ⟨hLf b (List.mem_append_left _ hb), hltv b hb, fun h => hn3 b hb b (List.mem_append_left _ h) rfl⟩)
  have HFO := Lib.hid hf0
  obtain ⟨g1, g2, g3⟩ := (fform_iff (fform_pos hF)).1 hF
  have hkl : kids.length ≤ 3 := by have h1 := g1.1; have h2 := kidsOf_le kind; omega
  have HKO := Lib.hid g1.1
  have HFK := Lib.hid g2
  have HMF := Lib.hid (mids_form hF)
  obtain ⟨w1, EW⟩ : ∃ W : World, W = (w.alloc (.cells #[.int .i64 kind, .int .i64 n, .string s, .int .i64 f3, .int .i64 f4, .string f5, .slice A6 n6 q6, .slice A7 n7 q7, .slice A8 kids.length q8] 35)).alloc (.cells #[.int .i64 0, .int .i64 0, .string ⟨#[]⟩, .int .i64 0, .int .i64 0, .string ⟨#[]⟩, .slice none 0 0, .slice none 0 0, .slice none 0 0] 35) := ⟨_, rfl⟩
  have HI1 := Lib.hid (LInv.start (L := L) (us := [.int .i64 kind, .int .i64 n, .string s, .int .i64 f3, .int .i64 f4, .string f5, .slice A6 n6 q6, .slice A7 n7 q7, .slice A8 kids.length q8]) EW hosl hk (fun b hb => hLf b (List.mem_append_right _ (List.mem_append_right _ hb))) (fun b hb h => hn6 b h b hb rfl))
  have HE := Lib.hid EW
  have HV := Lib.hid hv
  clear ih ho hnd hLf hF hosl hk hn1 hn2 hn3 hn4 hn5 hn6 hlt0 hltv hf0 g1 g2 g3 EW hv
  go_enter Tryz.func15, Tryz.ntmps15
  go_upto_region 1 with fail
  rw [← HE.out]
  have b1 := HI1.out.bP
  obtain ⟨cP, fP⟩ := blk_rules b1
  clear b1
  go_wp2
  go_loopw [3] (fun i w' => ∃ (k : Nat), k ≤ kids.length ∧ i = .int .i64 k ∧ Hid (LInv L w [.int .i64 kind, .int .i64 n, .string s, .int .i64 f3, .int .i64 f4, .string f5, .slice A6 n6 q6, .slice A7 n7 q7, .slice A8 kids.length q8] (.slice A8 kids.length q8) kids.length f0 ((mids kind kids).take k ++ kids.drop k) w')) (fun i _ => kids.length - (intOf i).toNat)
  case atStart => exact ⟨0, by omega, rfl, by simpa using HI1⟩
  case round =>
    obtain ⟨k, hk, rfl, HI⟩ := hrel
    clear cP fP
    obtain ⟨cP, fP⟩ := blk_rules HI.out.bP
    have hbig := HI.out.big
    by_cases hlt : k < kids.length
    · obtain ⟨uk2, hosl2, -⟩ := HI.out.row
      obtain ⟨g, rfl, rfl, hgr, -, -, hfg⟩ := osl_at hosl2 hlt
      have hgw : g < w.heap.size := (HFO.out g (List.mem_singleton.2 rfl)).2
      have hLr : L ≤ wr.heap.size := by omega
      clear hosl2
      obtain ⟨_, _, er, hrow, -⟩ := HI.out.rd
      obtain ⟨rfl, rfl⟩ := List.cons.inj er
      clear er
      have hlen : ((mids kind kids).take k ++ kids.drop k).length = kids.length := by rw [List.length_append, List.length_take, mids_length, List.length_drop]; omega
      obtain ⟨ad, y, c0, c1, c2, c3, c4, c5, c6, c7, c8, ea, -, hy, -, hd, z0, z1, z2, z3, z4, z5, z6, z7, z8⟩ := row9_at hrow hlen.symm hlt
      injection ea with ea
      subst ea
      have hkx := mix_at (drop_at hd.out)
      obtain ⟨d0, d1, d2, d3, d4, d5, dA, dB, dC, dD, dE, dG, dH, dI, dJ, ec⟩ := filtDs_shape hy
      simp only [List.cons.injEq, and_true] at ec
      obtain ⟨rfl, rfl, rfl, rfl, rfl, rfl, rfl, rfl, rfl⟩ := ec
      have hmem : y ∈ kids := List.mem_of_getElem? hkx
      have HFY := Lib.hid (HFK.out y hmem)
      have HY := Lib.hid hy
      have HSM := Lib.hid (small_filt y _ HFY.out)
      have HIY := Lib.hid (IH.out y hmem)
      have HKX := Lib.hid hkx
      have HLEN := Lib.hid hlen
      have y0 : wr.cell? ⟨g, k * 9, none⟩ = some (.int .i64 d0) := by have h := z0; rw [add_lit0] at h; exact h
      have y1 : wr.cell? ⟨g, k * 9 + 1, none⟩ = some (.int .i64 d1) := by have h := z1; rw [add_lit0] at h; exact h
      have y2 : wr.cell? ⟨g, k * 9 + 2, none⟩ = some (.string d2) := by have h := z2; rw [add_lit0] at h; exact h
      have y3 : wr.cell? ⟨g, k * 9 + 3, none⟩ = some (.int .i64 d3) := by have h := z3; rw [add_lit0] at h; exact h
      have y4 : wr.cell? ⟨g, k * 9 + 4, none⟩ = some (.int .i64 d4) := by have h := z4; rw [add_lit0] at h; exact h
      have y5 : wr.cell? ⟨g, k * 9 + 5, none⟩ = some (.string d5) := by have h := z5; rw [add_lit0] at h; exact h
      have y6 : wr.cell? ⟨g, k * 9 + 6, none⟩ = some (.slice dA dB dC) := by have h := z6; rw [add_lit0] at h; exact h
      have y7 : wr.cell? ⟨g, k * 9 + 7, none⟩ = some (.slice dD dE dG) := by have h := z7; rw [add_lit0] at h; exact h
      have y8 : wr.cell? ⟨g, k * 9 + 8, none⟩ = some (.slice dH dI dJ) := by have h := z8; rw [add_lit0] at h; exact h
      clear hrow hd hy hkx hmem hlen z0 z1 z2 z3 z4 z5 z6 z7 z8
      have j0 : (0 : Int) ≤ (k : Int) := by omega
      have j1 : (k : Int) < (kids.length : Int) := by omega
      go_wp2_with fail
      refine (copyF_calls y [_, _, _, _, _, _, _, _, _] wr wr.heap.size (Nat.le_refl _) HY.out HSM.out).mono ?_
      rintro e w4 ⟨vs4, fp4, rfl, hO4, hF4, hb4⟩
      obtain ⟨e0, e1, e2, e3, e4, e5, eA, eB, eC, eD, eE, eG, eH, eI, eJ, rfl⟩ := filtDs_shape hO4.rd'
      have HO4 := Lib.hid hO4
      have HF4 := Lib.hid hF4
      have HB4 := Lib.hid hb4
      clear hO4 hF4 hb4
      go_wp2_with fail
      refine (HIY.out [_, _, _, _, _, _, _, _, _] w4 fp4 wr.heap.size (d - 1) HB4.out.size HO4.out HF4.out.1 (fun b hb => (HF4.out.2 b hb).1) HFY.out).mono ?_
      rintro e w5 ⟨zs, rfl, hz5, hb5⟩
      obtain ⟨m0, m1, m2, m3, m4, m5, mA, mB, mC, mD, mE, mG, mH, mI, mJ, rfl⟩ := filtDs_shape hz5.rd
      obtain ⟨w6, e6⟩ : ∃ W : World, W = w5.alloc (.cells #[.int .i64 m0, .int .i64 m1, .string m2, .int .i64 m3, .int .i64 m4, .string m5, .slice mA mB mC, .slice mD mE mG, .slice mH mI mJ] 35) := ⟨_, rfl⟩
      have hb6 : Below w5.heap.size w5 w6 := by rw [e6]; exact below_box _ _
      have hwr5 : wr.heap.size ≤ w5.heap.size := Nat.le_trans HB4.out.size hb5.size
      have HB6 := Lib.hid (show Below wr.heap.size wr w6 from (HB4.out.trans hb5).trans (hb6.mono hwr5))
      have HZ6 := Lib.hid (hz5.below hb6)
      have HX6 := Lib.hid (show Blk w6 w5.heap.size 35 [.int .i64 m0, .int .i64 m1, .string m2, .int .i64 m3, .int .i64 m4, .string m5, .slice mA mB mC, .slice mD mE mG, .slice mH mI mJ] from by rw [e6]; exact Blk.new _ _ _)
      have HI6 := Lib.hid (HI.out.keep (fun b hb => by rw [List.mem_singleton.1 hb]; exact hgw) HB6.out)
      have hg6 := hgr
      have x0 := cell_below y0 HB6.out
      have x1 := cell_below y1 HB6.out
      have x2 := cell_below y2 HB6.out
      have x3 := cell_below y3 HB6.out
      have x4 := cell_below y4 HB6.out
      have x5 := cell_below y5 HB6.out
      have x6 := cell_below y6 HB6.out
      have x7 := cell_below y7 HB6.out
      have x8 := cell_below y8 HB6.out
      obtain ⟨uk6, hosl6, -⟩ := HI6.out.row
      obtain ⟨g', eg', -, -, -, -, hfg6⟩ := osl_at hosl6 hlt
      obtain rfl : g = g' := by injection eg' with eg'; injection eg'
      clear hb5 hb6 hz5 hosl6 eg' cP fP hfg y0 y1 y2 y3 y4 y5 y6 y7 y8
      go_upto_region 5 with fail
      rw [← e6]
      clear e6
      obtain ⟨cP, fP⟩ := blk_rules HI6.out.bP
      obtain ⟨cX, fX⟩ := blk_rules HX6.out
      have hgX : w5.heap.size ≠ g := by omega
      have hPg : w.heap.size ≠ g := by omega
      by_cases h20 : kind = 20
      · subst h20
        by_cases hk0 : k = 0
        · subst hk0
          go_wp2_with fail
          refine (evWay_calls (slimF y) [_, _, _, _, _, _, _, _, _] w6 w6.heap.size (d - 1) (Nat.le_refl _) HZ6.out.rd (slimF_form y _ HFY.out)).mono ?_
          rintro e w7 ⟨r, rfl, hr, hb7⟩
          have HB7 := Lib.hid (HB6.out.trans (hb7.mono HB6.out.size))
          have HZ7 := Lib.hid (HZ6.out.below hb7)
          have HX7 := Lib.hid (HX6.out.below hb7)
          have HI7 := Lib.hid (HI.out.keep (fun b hb => by rw [List.mem_singleton.1 hb]; exact hgw) HB7.out)
          have v0 := cell_below x0 hb7
          have v1 := cell_below x1 hb7
          have v2 := cell_below x2 hb7
          have v3 := cell_below x3 hb7
          have v4 := cell_below x4 hb7
          have v5 := cell_below x5 hb7
          have v6 := cell_below x6 hb7
          have v7 := cell_below x7 hb7
          have v8 := cell_below x8 hb7
          obtain ⟨uk7, hosl7, -⟩ := HI7.out.row
          obtain ⟨g', eg', -, -, -, -, hfg7⟩ := osl_at hosl7 hlt
          obtain rfl : g = g' := by injection eg' with eg'; injection eg'
          clear hosl7 eg' hb7 cP fP cX fX hfg6 x0 x1 x2 x3 x4 x5 x6 x7 x8
          obtain ⟨cP, fP⟩ := blk_rules HI7.out.bP
          obtain ⟨cX, fX⟩ := blk_rules HX7.out
          cases r with
          | true =>
            have HEV := Lib.hid (show ev tabLooks (slimF y) = true from hr.1 rfl)
            clear hr
            have HM := Lib.hid (show (mids 20 kids)[0]? = some (slimF y) from by rw [mids_at HKX.out, if_neg (fun e => by have h1 := HEV.out; rw [e.2.2] at h1; cases h1)])
            have HIP := Lib.hid (show LInv L w [.int .i64 20, .int .i64 n, .string s, .int .i64 f3, .int .i64 f4, .string f5, .slice A6 n6 q6, .slice A7 n7 q7, .slice (some ⟨g, 0, none⟩) kids.length q8] _ kids.length _ ((mids 20 kids).take (0 + 1) ++ kids.drop (0 + 1)) (setAll w7 g (0 * 9) [.int .i64 m0, .int .i64 m1, .string m2, .int .i64 m3, .int .i64 m4, .string m5, .slice mA mB mC, .slice mD mE mG, .slice mH mI mJ]) from by have h := HI.out.put hLr hgw HLEN.out hlt HB7.out HZ7.out; rwa [mix_put HKX.out HM.out] at h)
            go_wp2
            go_roundw
            case rel => exact ⟨0 + 1, by omega, by go_num, HIP⟩
            case measure => simp [intOf]; omega
          | false =>
            have HEV := Lib.hid (show ev tabLooks (slimF y) = false from by cases hq : ev tabLooks (slimF y) with | false => rfl | true => have h1 := hr.2 hq; cases h1)
            clear hr
            have HM := Lib.hid (show (mids 20 kids)[0]? = some y from by rw [mids_at HKX.out, if_pos ⟨rfl, rfl, HEV.out⟩])
            have HIP := Lib.hid (show LInv L w [.int .i64 20, .int .i64 n, .string s, .int .i64 f3, .int .i64 f4, .string f5, .slice A6 n6 q6, .slice A7 n7 q7, .slice (some ⟨g, 0, none⟩) kids.length q8] _ kids.length _ ((mids 20 kids).take (0 + 1) ++ kids.drop (0 + 1)) w7 from by have h := HI7.out; rwa [mix_same HKX.out HM.out] at h)
            go_wp2
            go_roundw
            case rel => exact ⟨0 + 1, by omega, by go_num, HIP⟩
            case measure => simp [intOf]; omega
        · skip
          have HM := Lib.hid (show (mids 20 kids)[k]? = some (slimF y) from by rw [mids_at HKX.out, if_neg (fun e => hk0 e.2.1)])
          have HIP := Lib.hid (show LInv L w [.int .i64 20, .int .i64 n, .string s, .int .i64 f3, .int .i64 f4, .string f5, .slice A6 n6 q6, .slice A7 n7 q7, .slice (some ⟨g, 0, none⟩) kids.length q8] _ kids.length _ ((mids 20 kids).take (k + 1) ++ kids.drop (k + 1)) (setAll w6 g (k * 9) [.int .i64 m0, .int .i64 m1, .string m2, .int .i64 m3, .int .i64 m4, .string m5, .slice mA mB mC, .slice mD mE mG, .slice mH mI mJ]) from by have h := HI.out.put hLr hgw HLEN.out hlt HB6.out HZ6.out; rwa [mix_put HKX.out HM.out] at h)
          go_wp2
          go_roundw
          case rel => exact ⟨k + 1, by omega, by go_num, HIP⟩
          case measure => simp [intOf]; omega
      · have hq20 : (kind == 20) = false := by simpa using h20
        have HM := Lib.hid (show (mids kind kids)[k]? = some (slimF y) from by rw [mids_at HKX.out, if_neg (fun e => h20 e.1)])
        have HIP := Lib.hid (show LInv L w [.int .i64 kind, .int .i64 n, .string s, .int .i64 f3, .int .i64 f4, .string f5, .slice A6 n6 q6, .slice A7 n7 q7, .slice (some ⟨g, 0, none⟩) kids.length q8] _ kids.length _ ((mids kind kids).take (k + 1) ++ kids.drop (k + 1)) (setAll w6 g (k * 9) [.int .i64 m0, .int .i64 m1, .string m2, .int .i64 m3, .int .i64 m4, .string m5, .slice mA mB mC, .slice mD mE mG, .slice mH mI mJ]) from by have h := HI.out.put hLr hgw HLEN.out hlt HB6.out HZ6.out; rwa [mix_put HKX.out HM.out] at h)
        go_wp2
        go_roundw
        case rel => exact ⟨k + 1, by omega, by go_num, HIP⟩
        case measure => simp [intOf]; omega
    · obtain rfl : k = kids.length := by omega
      obtain ⟨M, EM⟩ : ∃ M, M = mids kind kids := ⟨_, rfl⟩
      have hML : M.length = kids.length := by rw [EM, mids_length]
      have HLI := Lib.hid (show LInv L w [.int .i64 kind, .int .i64 n, .string s, .int .i64 f3, .int .i64 f4, .string f5, .slice A6 n6 q6, .slice A7 n7 q7, .slice A8 kids.length q8] _ kids.length _ M wr from by have h := HI.out; rwa [List.take_of_length_le (by rw [mids_length]; exact Nat.le_refl _), List.drop_of_length_le (Nat.le_refl _), List.append_nil, ← EM] at h)
      have HT := Lib.hid (HLI.out.trow HFO.out)
      have HFM := Lib.hid (show FForm d (.mk kind n s v M) ∧ ∀ x ∈ M, FForm (d - 1) x from by rw [EM]; exact HMF.out)
      have HFULL := Lib.hid (show RT (fun b => L ≤ b ∧ b ≠ w.heap.size ∧ b ≠ w.heap.size + 1) wr (filtDs (.mk kind n s v M)) [.int .i64 kind, .int .i64 n, .string s, .int .i64 f3, .int .i64 f4, .string f5, .slice A6 n6 q6, .slice A7 n7 q7, .slice A8 kids.length q8] from rdf_mk hs (RT.of_od (ODv.keep _ _ _ (fun b hb => HLI.out.upd.block b (HFV.out b hb).2.1 (HFV.out b hb).2.2) HV.out) (fun b hb => ⟨(HFV.out b hb).1, by have := (HFV.out b hb).2.1; omega, by have := (HFV.out b hb).2.1; omega⟩)) (by rw [hML]; exact HT.out))
      have HSK := Lib.hid (show slimF (.mk kind n s v kids) = slimK (.mk kind n s v M) M from by rw [EM]; exact slimF_mk _ _ _ _ _)
      have HBL := Lib.hid (show Below L w wr from HLI.out.upd.to_below (fun b hb => (HFO.out b hb).1) hLw)
      have HS2 := Lib.hid (show ∀ b, wr.heap.size ≤ b → (fun b => L ≤ b ∧ b ≠ w.heap.size ∧ b ≠ w.heap.size + 1) b from fun b hb => ⟨by omega, by omega, by omega⟩)
      have HBR := Lib.hid HLI.out.bR
      obtain ⟨cR, fR⟩ := blk_rules HBR.out
      clear HI HMF EM
      by_cases h6 : kind = 6
      · subst h6
        obtain ⟨a, b, rfl⟩ : ∃ a b, M = [a, b] := by
          have h2 : kidsOf 6 = 2 := by decide
          have h3 := HKO.out
          have h1 : M.length = 2 := by omega
          match M, h1 with
          | [a, b], _ => exact ⟨a, b, rfl⟩
        go_wp2_with fail
        refine (pipe_calls (fun b => L ≤ b ∧ b ≠ w.heap.size ∧ b ≠ w.heap.size + 1) wr HS2.out n s v a b [_, _, _, _, _, _, _, _, _] HFULL.out).mono ?_
        rintro e w7 ⟨zs, rfl, hz7, hb7⟩
        obtain ⟨m0, m1, m2, m3, m4, m5, mA, mB, mC, mD, mE, mG, mH, mI, mJ, rfl⟩ := filtDs_shape hz7.rd
        have HZ7 := Lib.hid hz7
        have HBW := Lib.hid (HBL.out.trans (hb7.mono (by omega)))
        have HR7 := Lib.hid (HBR.out.below hb7)
        clear hz7 hb7 cP fP cR fR
        obtain ⟨cR, fR⟩ := blk_rules HR7.out
        go_wp2
        refine bodyPost_ret (v := .agg #[.int .i64 m0, .int .i64 m1, .string m2, .int .i64 m3, .int .i64 m4, .string m5, .slice mA mB mC, .slice mD mE mG, .slice mH mI mJ]) (by simp [results, Tryz.results15, go_sem, cR]) rfl ?_
        exact sl_end (zs := [.int .i64 m0, .int .i64 m1, .string m2, .int .i64 m3, .int .i64 m4, .string m5, .slice mA mB mC, .slice mD mE mG, .slice mH mI mJ]) HZ7.out HBW.out hLw HSK.out
      have qk6 : (kind == 6) = false := by simpa using h6
      by_cases h7 : kind = 7
      · subst h7
        obtain ⟨a, b, rfl⟩ : ∃ a b, M = [a, b] := by
          have h2 : kidsOf 7 = 2 := by decide
          have h3 := HKO.out
          have h1 : M.length = 2 := by omega
          match M, h1 with
          | [a, b], _ => exact ⟨a, b, rfl⟩
        go_wp2_with fail
        refine (both_calls (fun b => L ≤ b ∧ b ≠ w.heap.size ∧ b ≠ w.heap.size + 1) wr HS2.out n s v a b [_, _, _, _, _, _, _, _, _] HFULL.out).mono ?_
        rintro e w7 ⟨zs, rfl, hz7, hb7⟩
        obtain ⟨m0, m1, m2, m3, m4, m5, mA, mB, mC, mD, mE, mG, mH, mI, mJ, rfl⟩ := filtDs_shape hz7.rd
        have HZ7 := Lib.hid hz7
        have HBW := Lib.hid (HBL.out.trans (hb7.mono (by omega)))
        have HR7 := Lib.hid (HBR.out.below hb7)
        clear hz7 hb7 cP fP cR fR
        obtain ⟨cR, fR⟩ := blk_rules HR7.out
        go_wp2
        refine bodyPost_ret (v := .agg #[.int .i64 m0, .int .i64 m1, .string m2, .int .i64 m3, .int .i64 m4, .string m5, .slice mA mB mC, .slice mD mE mG, .slice mH mI mJ]) (by simp [results, Tryz.results15, go_sem, cR]) rfl ?_
        exact sl_end (zs := [.int .i64 m0, .int .i64 m1, .string m2, .int .i64 m3, .int .i64 m4, .string m5, .slice mA mB mC, .slice mD mE mG, .slice mH mI mJ]) HZ7.out HBW.out hLw HSK.out
      have qk7 : (kind == 7) = false := by simpa using h7
      by_cases h8 : kind = 8
      · subst h8
        obtain ⟨a, b, c, rfl⟩ : ∃ a b c, M = [a, b, c] := by
          have h2 : kidsOf 8 = 3 := by decide
          have h3 := HKO.out
          have h1 : M.length = 3 := by omega
          match M, h1 with
          | [a, b, c], _ => exact ⟨a, b, c, rfl⟩
        go_wp2_with fail
        refine (if_calls (fun b => L ≤ b ∧ b ≠ w.heap.size ∧ b ≠ w.heap.size + 1) wr HS2.out n s v a b c [_, _, _, _, _, _, _, _, _] HFULL.out).mono ?_
        rintro e w7 ⟨zs, rfl, hz7, hb7⟩
        obtain ⟨m0, m1, m2, m3, m4, m5, mA, mB, mC, mD, mE, mG, mH, mI, mJ, rfl⟩ := filtDs_shape hz7.rd
        have HZ7 := Lib.hid hz7
        have HBW := Lib.hid (HBL.out.trans (hb7.mono (by omega)))
        have HR7 := Lib.hid (HBR.out.below hb7)
        clear hz7 hb7 cP fP cR fR
        obtain ⟨cR, fR⟩ := blk_rules HR7.out
        go_wp2
        refine bodyPost_ret (v := .agg #[.int .i64 m0, .int .i64 m1, .string m2, .int .i64 m3, .int .i64 m4, .string m5, .slice mA mB mC, .slice mD mE mG, .slice mH mI mJ]) (by simp [results, Tryz.results15, go_sem, cR]) rfl ?_
        exact sl_end (zs := [.int .i64 m0, .int .i64 m1, .string m2, .int .i64 m3, .int .i64 m4, .string m5, .slice mA mB mC, .slice mD mE mG, .slice mH mI mJ]) HZ7.out HBW.out hLw HSK.out
      have qk8 : (kind == 8) = false := by simpa using h8
      by_cases h9 : kind = 9
      · subst h9
        obtain ⟨a, b, rfl⟩ : ∃ a b, M = [a, b] := by
          have h2 : kidsOf 9 = 2 := by decide
          have h3 := HKO.out
          have h1 : M.length = 2 := by omega
          match M, h1 with
          | [a, b], _ => exact ⟨a, b, rfl⟩
        go_wp2_with fail
        refine (two_calls (fun b => L ≤ b ∧ b ≠ w.heap.size ∧ b ≠ w.heap.size + 1) wr HS2.out 9 n s v a b [_, _, _, _, _, _, _, _, _] HFULL.out (by decide) (fform_val (HFM.out.2 a (by simp))) (fform_val (HFM.out.2 b (by simp)))).mono ?_
        rintro e w7 ⟨zs, rfl, hz7, hb7⟩
        obtain ⟨m0, m1, m2, m3, m4, m5, mA, mB, mC, mD, mE, mG, mH, mI, mJ, rfl⟩ := filtDs_shape hz7.rd
        have HZ7 := Lib.hid hz7
        have HBW := Lib.hid (HBL.out.trans (hb7.mono (by omega)))
        have HR7 := Lib.hid (HBR.out.below hb7)
        clear hz7 hb7 cP fP cR fR
        obtain ⟨cR, fR⟩ := blk_rules HR7.out
        go_wp2
        refine bodyPost_ret (v := .agg #[.int .i64 m0, .int .i64 m1, .string m2, .int .i64 m3, .int .i64 m4, .string m5, .slice mA mB mC, .slice mD mE mG, .slice mH mI mJ]) (by simp [results, Tryz.results15, go_sem, cR]) rfl ?_
        exact sl_end (zs := [.int .i64 m0, .int .i64 m1, .string m2, .int .i64 m3, .int .i64 m4, .string m5, .slice mA mB mC, .slice mD mE mG, .slice mH mI mJ]) HZ7.out HBW.out hLw HSK.out
      have qk9 : (kind == 9) = false := by simpa using h9
      by_cases h10 : kind = 10
      · subst h10
        obtain ⟨a, b, rfl⟩ : ∃ a b, M = [a, b] := by
          have h2 : kidsOf 10 = 2 := by decide
          have h3 := HKO.out
          have h1 : M.length = 2 := by omega
          match M, h1 with
          | [a, b], _ => exact ⟨a, b, rfl⟩
        go_wp2_with fail
        refine (two_calls (fun b => L ≤ b ∧ b ≠ w.heap.size ∧ b ≠ w.heap.size + 1) wr HS2.out 10 n s v a b [_, _, _, _, _, _, _, _, _] HFULL.out (by decide) (fform_val (HFM.out.2 a (by simp))) (fform_val (HFM.out.2 b (by simp)))).mono ?_
        rintro e w7 ⟨zs, rfl, hz7, hb7⟩
        obtain ⟨m0, m1, m2, m3, m4, m5, mA, mB, mC, mD, mE, mG, mH, mI, mJ, rfl⟩ := filtDs_shape hz7.rd
        have HZ7 := Lib.hid hz7
        have HBW := Lib.hid (HBL.out.trans (hb7.mono (by omega)))
        have HR7 := Lib.hid (HBR.out.below hb7)
        clear hz7 hb7 cP fP cR fR
        obtain ⟨cR, fR⟩ := blk_rules HR7.out
        go_wp2
        refine bodyPost_ret (v := .agg #[.int .i64 m0, .int .i64 m1, .string m2, .int .i64 m3, .int .i64 m4, .string m5, .slice mA mB mC, .slice mD mE mG, .slice mH mI mJ]) (by simp [results, Tryz.results15, go_sem, cR]) rfl ?_
        exact sl_end (zs := [.int .i64 m0, .int .i64 m1, .string m2, .int .i64 m3, .int .i64 m4, .string m5, .slice mA mB mC, .slice mD mE mG, .slice mH mI mJ]) HZ7.out HBW.out hLw HSK.out
      have qk10 : (kind == 10) = false := by simpa using h10
      by_cases h11 : kind = 11
      · subst h11
        obtain ⟨a, b, rfl⟩ : ∃ a b, M = [a, b] := by
          have h2 : kidsOf 11 = 2 := by decide
          have h3 := HKO.out
          have h1 : M.length = 2 := by omega
          match M, h1 with
          | [a, b], _ => exact ⟨a, b, rfl⟩
        go_wp2_with fail
        refine (two_calls (fun b => L ≤ b ∧ b ≠ w.heap.size ∧ b ≠ w.heap.size + 1) wr HS2.out 11 n s v a b [_, _, _, _, _, _, _, _, _] HFULL.out (by decide) (fform_val (HFM.out.2 a (by simp))) (fform_val (HFM.out.2 b (by simp)))).mono ?_
        rintro e w7 ⟨zs, rfl, hz7, hb7⟩
        obtain ⟨m0, m1, m2, m3, m4, m5, mA, mB, mC, mD, mE, mG, mH, mI, mJ, rfl⟩ := filtDs_shape hz7.rd
        have HZ7 := Lib.hid hz7
        have HBW := Lib.hid (HBL.out.trans (hb7.mono (by omega)))
        have HR7 := Lib.hid (HBR.out.below hb7)
        clear hz7 hb7 cP fP cR fR
        obtain ⟨cR, fR⟩ := blk_rules HR7.out
        go_wp2
        refine bodyPost_ret (v := .agg #[.int .i64 m0, .int .i64 m1, .string m2, .int .i64 m3, .int .i64 m4, .string m5, .slice mA mB mC, .slice mD mE mG, .slice mH mI mJ]) (by simp [results, Tryz.results15, go_sem, cR]) rfl ?_
        exact sl_end (zs := [.int .i64 m0, .int .i64 m1, .string m2, .int .i64 m3, .int .i64 m4, .string m5, .slice mA mB mC, .slice mD mE mG, .slice mH mI mJ]) HZ7.out HBW.out hLw HSK.out
      have qk11 : (kind == 11) = false := by simpa using h11
      by_cases h17 : kind = 17
      · subst h17
        obtain ⟨a, rfl⟩ : ∃ a, M = [a] := by
          have h2 : kidsOf 17 = 1 := by decide
          have h3 := HKO.out
          have h1 : M.length = 1 := by omega
          match M, h1 with
          | [a], _ => exact ⟨a, rfl⟩
        have h2 : kidsOf 17 = 1 := by decide
        have h3 := HKO.out
        have hk1 : (kids.length : Int) = 1 := by omega
        clear h2 h3
        have l0 : (0 : Int) < (kids.length : Int) := by omega
        obtain ⟨ada, ya, c0, c1, c2, c3, c4, c5, c6, c7, c8, ea, hya, hga, z0, z1, z2, z3, z4, z5, z6, z7, z8⟩ := rt_at HT.out hML.symm (k := 0) (by rw [← hML]; simp)
        obtain ⟨ad, rfl⟩ : ∃ ad, A8 = some ad := ⟨_, ea⟩
        injection ea with ea
        subst ea
        obtain rfl : a = ya := by simpa using hga
        clear hga
        obtain ⟨a0, a1, a2, a3, a4, a5, aA, aB, aC, aD, aE, aG, aH, aI, aJ, ec⟩ := filtDs_shape hya
        simp only [List.cons.injEq, and_true] at ec
        obtain ⟨rfl, rfl, rfl, rfl, rfl, rfl, rfl, rfl, rfl⟩ := ec
        have Ha := Lib.hid (show RT (fun b => L ≤ b ∧ b ≠ w.heap.size ∧ b ≠ w.heap.size + 1) wr (filtDs a) _ from hya)
        clear hya
        have au0 : wr.cell? ad = some (.int .i64 a0) := by simpa [Addr.add] using z0
        have au1 : wr.cell? ⟨ad.block, ad.off + 1, none⟩ = some (.int .i64 a1) := by simpa [Addr.add] using z1
        have au2 : wr.cell? ⟨ad.block, ad.off + 2, none⟩ = some (.string a2) := by simpa [Addr.add] using z2
        have au3 : wr.cell? ⟨ad.block, ad.off + 3, none⟩ = some (.int .i64 a3) := by simpa [Addr.add] using z3
        have au4 : wr.cell? ⟨ad.block, ad.off + 4, none⟩ = some (.int .i64 a4) := by simpa [Addr.add] using z4
        have au5 : wr.cell? ⟨ad.block, ad.off + 5, none⟩ = some (.string a5) := by simpa [Addr.add] using z5
        have au6 : wr.cell? ⟨ad.block, ad.off + 6, none⟩ = some (.slice aA aB aC) := by simpa [Addr.add] using z6
        have au7 : wr.cell? ⟨ad.block, ad.off + 7, none⟩ = some (.slice aD aE aG) := by simpa [Addr.add] using z7
        have au8 : wr.cell? ⟨ad.block, ad.off + 8, none⟩ = some (.slice aH aI aJ) := by simpa [Addr.add] using z8
        clear z0 z1 z2 z3 z4 z5 z6 z7 z8
        go_wp2_with fail
        refine (evSureS_calls a [_, _, _, _, _, _, _, _, _] wr wr.heap.size (d - 1) (Nat.le_refl _) Ha.out.rd (HFM.out.2 a (by simp))).mono ?_
        rintro e w7 ⟨r, rfl, hr, hb7⟩
        have HBW := Lib.hid (HBL.out.trans (hb7.mono (by omega)))
        have HR7 := Lib.hid (HBR.out.below hb7)
        have HP7 := Lib.hid (HLI.out.bP.below hb7)
        have HA7 := Lib.hid (Ha.out.below hb7)
        have HF7 := Lib.hid (HFULL.out.below hb7)
        have av0 := cell_below au0 hb7
        have av1 := cell_below au1 hb7
        have av2 := cell_below au2 hb7
        have av3 := cell_below au3 hb7
        have av4 := cell_below au4 hb7
        have av5 := cell_below au5 hb7
        have av6 := cell_below au6 hb7
        have av7 := cell_below au7 hb7
        have av8 := cell_below au8 hb7
        clear hb7 cP fP cR fR au0 au1 au2 au3 au4 au5 au6 au7 au8
        obtain ⟨cP, fP⟩ := blk_rules HP7.out
        obtain ⟨cR, fR⟩ := blk_rules HR7.out
        cases r with
        | true =>
          have hev : ev tabSure a = true := hr.1 rfl
          have HX := Lib.hid (HSK.out.trans (show slimK _ _ = a from by simp [slimK, fKind, hev]))
          clear hr hev
          go_wp2
          refine bodyPost_ret (v := .agg #[.int .i64 a0, .int .i64 a1, .string a2, .int .i64 a3, .int .i64 a4, .string a5, .slice aA aB aC, .slice aD aE aG, .slice aH aI aJ]) (by simp [results, Tryz.results15, go_sem, cR]) rfl ?_
          exact sl_end (zs := [.int .i64 a0, .int .i64 a1, .string a2, .int .i64 a3, .int .i64 a4, .string a5, .slice aA aB aC, .slice aD aE aG, .slice aH aI aJ]) HA7.out HBW.out hLw HX.out
        | false =>
          have hev : ev tabSure a = false := by
            cases hq : ev tabSure a with
            | false => rfl
            | true => have h1 := hr.2 hq; cases h1
          have HX := Lib.hid (HSK.out.trans (show slimK _ _ = (.mk 17 n s v [a]) from by simp [slimK, fKind, hev]))
          clear hr hev
          go_wp2
          refine bodyPost_ret (v := .agg #[.int .i64 17, .int .i64 n, .string s, .int .i64 f3, .int .i64 f4, .string f5, .slice A6 n6 q6, .slice A7 n7 q7, .slice (some ad) kids.length q8]) (by simp [results, Tryz.results15, go_sem, cR]) rfl ?_
          exact sl_end (zs := [.int .i64 17, .int .i64 n, .string s, .int .i64 f3, .int .i64 f4, .string f5, .slice A6 n6 q6, .slice A7 n7 q7, .slice (some ad) kids.length q8]) HF7.out HBW.out hLw HX.out
      have qk17 : (kind == 17) = false := by simpa using h17
      by_cases h16 : kind = 16
      · subst h16
        obtain ⟨a, b, rfl⟩ : ∃ a b, M = [a, b] := by
          have h2 : kidsOf 16 = 2 := by decide
          have h3 := HKO.out
          have h1 : M.length = 2 := by omega
          match M, h1 with
          | [a, b], _ => exact ⟨a, b, rfl⟩
        have h2 : kidsOf 16 = 2 := by decide
        have h3 := HKO.out
        have hk1 : (kids.length : Int) = 2 := by omega
        clear h2 h3
        have l0 : (0 : Int) < (kids.length : Int) := by omega
        have l1 : (1 : Int) < (kids.length : Int) := by omega
        obtain ⟨ada, ya, c0, c1, c2, c3, c4, c5, c6, c7, c8, ea, hya, hga, z0, z1, z2, z3, z4, z5, z6, z7, z8⟩ := rt_at HT.out hML.symm (k := 0) (by rw [← hML]; simp)
        obtain ⟨ad, rfl⟩ : ∃ ad, A8 = some ad := ⟨_, ea⟩
        injection ea with ea
        subst ea
        obtain rfl : a = ya := by simpa using hga
        clear hga
        obtain ⟨a0, a1, a2, a3, a4, a5, aA, aB, aC, aD, aE, aG, aH, aI, aJ, ec⟩ := filtDs_shape hya
        simp only [List.cons.injEq, and_true] at ec
        obtain ⟨rfl, rfl, rfl, rfl, rfl, rfl, rfl, rfl, rfl⟩ := ec
        have Ha := Lib.hid (show RT (fun b => L ≤ b ∧ b ≠ w.heap.size ∧ b ≠ w.heap.size + 1) wr (filtDs a) _ from hya)
        clear hya
        have au0 : wr.cell? ad = some (.int .i64 a0) := by simpa [Addr.add] using z0
        have au1 : wr.cell? ⟨ad.block, ad.off + 1, none⟩ = some (.int .i64 a1) := by simpa [Addr.add] using z1
        have au2 : wr.cell? ⟨ad.block, ad.off + 2, none⟩ = some (.string a2) := by simpa [Addr.add] using z2
        have au3 : wr.cell? ⟨ad.block, ad.off + 3, none⟩ = some (.int .i64 a3) := by simpa [Addr.add] using z3
        have au4 : wr.cell? ⟨ad.block, ad.off + 4, none⟩ = some (.int .i64 a4) := by simpa [Addr.add] using z4
        have au5 : wr.cell? ⟨ad.block, ad.off + 5, none⟩ = some (.string a5) := by simpa [Addr.add] using z5
        have au6 : wr.cell? ⟨ad.block, ad.off + 6, none⟩ = some (.slice aA aB aC) := by simpa [Addr.add] using z6
        have au7 : wr.cell? ⟨ad.block, ad.off + 7, none⟩ = some (.slice aD aE aG) := by simpa [Addr.add] using z7
        have au8 : wr.cell? ⟨ad.block, ad.off + 8, none⟩ = some (.slice aH aI aJ) := by simpa [Addr.add] using z8
        clear z0 z1 z2 z3 z4 z5 z6 z7 z8
        obtain ⟨adb, yb, c0, c1, c2, c3, c4, c5, c6, c7, c8, eb, hyb, hgb, z0, z1, z2, z3, z4, z5, z6, z7, z8⟩ := rt_at HT.out hML.symm (k := 1) (by rw [← hML]; simp)
        injection eb with eb
        subst eb
        obtain rfl : b = yb := by simpa using hgb
        clear hgb
        obtain ⟨b0, b1, b2, b3, b4, b5, bA, bB, bC, bD, bE, bG, bH, bI, bJ, ec⟩ := filtDs_shape hyb
        simp only [List.cons.injEq, and_true] at ec
        obtain ⟨rfl, rfl, rfl, rfl, rfl, rfl, rfl, rfl, rfl⟩ := ec
        have Hb := Lib.hid (show RT (fun b => L ≤ b ∧ b ≠ w.heap.size ∧ b ≠ w.heap.size + 1) wr (filtDs b) _ from hyb)
        clear hyb
        have bu0 : wr.cell? ⟨ad.block, ad.off + 9, none⟩ = some (.int .i64 b0) := by simpa [Addr.add] using z0
        have bu1 : wr.cell? ⟨ad.block, ad.off + 10, none⟩ = some (.int .i64 b1) := by simpa [Addr.add] using z1
        have bu2 : wr.cell? ⟨ad.block, ad.off + 11, none⟩ = some (.string b2) := by simpa [Addr.add] using z2
        have bu3 : wr.cell? ⟨ad.block, ad.off + 12, none⟩ = some (.int .i64 b3) := by simpa [Addr.add] using z3
        have bu4 : wr.cell? ⟨ad.block, ad.off + 13, none⟩ = some (.int .i64 b4) := by simpa [Addr.add] using z4
        have bu5 : wr.cell? ⟨ad.block, ad.off + 14, none⟩ = some (.string b5) := by simpa [Addr.add] using z5
        have bu6 : wr.cell? ⟨ad.block, ad.off + 15, none⟩ = some (.slice bA bB bC) := by simpa [Addr.add] using z6
        have bu7 : wr.cell? ⟨ad.block, ad.off + 16, none⟩ = some (.slice bD bE bG) := by simpa [Addr.add] using z7
        have bu8 : wr.cell? ⟨ad.block, ad.off + 17, none⟩ = some (.slice bH bI bJ) := by simpa [Addr.add] using z8
        clear z0 z1 z2 z3 z4 z5 z6 z7 z8
        have HKA := Lib.hid (show fKind a = a0 from by obtain ⟨_, _, _, _, _, _, _, _, _, _, _, _, _, _, _, _, rfl, e, _⟩ := filtDs_all Ha.out; injection e with e; injection e with _ e; rw [e]; rfl)
        by_cases a18 : a0 = 18
        · subst a18
          have HX := Lib.hid (HSK.out.trans (slimK_else (.inl (HKA.out.trans rfl))))
          go_wp2
          refine bodyPost_ret (v := .agg #[.int .i64 b0, .int .i64 b1, .string b2, .int .i64 b3, .int .i64 b4, .string b5, .slice bA bB bC, .slice bD bE bG, .slice bH bI bJ]) (by simp [results, Tryz.results15, go_sem, cR]) rfl ?_
          exact sl_end (zs := [.int .i64 b0, .int .i64 b1, .string b2, .int .i64 b3, .int .i64 b4, .string b5, .slice bA bB bC, .slice bD bE bG, .slice bH bI bJ]) Hb.out HBL.out hLw HX.out
        have qa18 : (a0 == 18) = false := by simpa using a18
        by_cases a19 : a0 = 19
        · subst a19
          have HX := Lib.hid (HSK.out.trans (slimK_else (.inr (HKA.out.trans rfl))))
          go_wp2
          refine bodyPost_ret (v := .agg #[.int .i64 b0, .int .i64 b1, .string b2, .int .i64 b3, .int .i64 b4, .string b5, .slice bA bB bC, .slice bD bE bG, .slice bH bI bJ]) (by simp [results, Tryz.results15, go_sem, cR]) rfl ?_
          exact sl_end (zs := [.int .i64 b0, .int .i64 b1, .string b2, .int .i64 b3, .int .i64 b4, .string b5, .slice bA bB bC, .slice bD bE bG, .slice bH bI bJ]) Hb.out HBL.out hLw HX.out
        have qa19 : (a0 == 19) = false := by simpa using a19
        have HX := Lib.hid (HSK.out.trans (slimK_else2 (by rw [HKA.out]; exact a18) (by rw [HKA.out]; exact a19)))
        go_wp2
        refine bodyPost_ret (v := .agg #[.int .i64 16, .int .i64 n, .string s, .int .i64 f3, .int .i64 f4, .string f5, .slice A6 n6 q6, .slice A7 n7 q7, .slice (some ad) kids.length q8]) (by simp [results, Tryz.results15, go_sem, cR]) rfl ?_
        exact sl_end (zs := [.int .i64 16, .int .i64 n, .string s, .int .i64 f3, .int .i64 f4, .string f5, .slice A6 n6 q6, .slice A7 n7 q7, .slice (some ad) kids.length q8]) HFULL.out HBL.out hLw HX.out
      have qk16 : (kind == 16) = false := by simpa using h16
      have HX := Lib.hid (HSK.out.trans (slimK_none h6 h7 h8 h9 h10 h11 h17 h16))
      go_wp2
      refine bodyPost_ret (v := .agg #[.int .i64 kind, .int .i64 n, .string s, .int .i64 f3, .int .i64 f4, .string f5, .slice A6 n6 q6, .slice A7 n7 q7, .slice A8 kids.length q8]) (by simp [results, Tryz.results15, go_sem, cR]) rfl ?_
      exact sl_end (zs := [.int .i64 kind, .int .i64 n, .string s, .int .i64 f3, .int .i64 f4, .string f5, .slice A6 n6 q6, .slice A7 n7 q7, .slice A8 kids.length q8]) HFULL.out HBL.out hLw HX.out
theorem slimS_calls : ∀ x, SlimC 15 x := Filt.ind fun kind n s v kids ih => slimS_of _ fun _ _ _ _ _ e => by
  injection e with e1 e2 e3 e4 e5
  subst e5
  exact ih
end Go.Proofs.YtppfgepoegicgaaGreatDoor
