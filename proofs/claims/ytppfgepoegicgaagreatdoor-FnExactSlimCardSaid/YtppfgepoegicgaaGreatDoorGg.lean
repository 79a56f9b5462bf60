/- Parts of the proof: FOkG2, FOkG3. -/
import Derived.Test.YtppfgepoegicgaaGreatDoorGab
import Derived.IntWalk
namespace Go.Proofs.YtppfgepoegicgaaGreatDoor
open Go Go.RowKit

theorem filtsCnt_append : ∀ a b : List Filt, filtsCnt (a ++ b) = filtsCnt a + filtsCnt b
  | [], b => by simp [filtsCnt]
  | x :: a, b => by simp [filtsCnt, filtsCnt_append a b, Nat.add_assoc]
theorem filtsCnt_take {vs : List Filt} {v : Filt} {k : Nat} (hd : vs.drop k = v :: vs.drop (k + 1)) : filtsCnt (vs.take (k + 1)) = filtsCnt (vs.take k) + filtCnt v := by
  have e : vs.take (k + 1) = vs.take k ++ [v] := by rw [List.take_add, hd]; rfl
  rw [e, filtsCnt_append]
  simp [filtsCnt]
theorem filtsCnt_take_le (vs : List Filt) (k : Nat) : filtsCnt (vs.take k) ≤ filtsCnt vs := by
  have := filtsCnt_append (vs.take k) (vs.drop k)
  rw [List.take_append_drop] at this
  omega
theorem fcnt_pos (v : Filt) : 1 ≤ filtCnt v := by
  obtain ⟨_, _, _, _, _⟩ := v
  simp only [filtCnt]
  omega
theorem grown_then {w W w1 : World} {g : Option Nat} (h : w.grownBy W g) (h2 : Below W.heap.size W w1) : w.grownBy w1 g :=
  ⟨h2.os.trans h.os, h2.tape.trans h.tape, h2.output.trans h.output, Nat.le_trans h.size h2.size, fun k hk hne => (h2.block k (Nat.lt_of_lt_of_le hk h.size)).trans (h.block k hk hne)⟩
theorem grown_refl (w : World) (g : Option Nat) : w.grownBy w g := ⟨rfl, rfl, rfl, Nat.le_refl _, fun _ _ _ => rfl⟩

set_option maxRecDepth 100000 in
set_option maxHeartbeats 8000000 in
theorem iFOk_2 (n : Int) (s : ByteArray) (v : Val) (kids : List Filt) (a3 a4 : Int) (a5 : ByteArray) (A6 : Option Addr) (n6 q6 : Nat) (A7 : Option Addr) (n7 q7 : Nat) (A8 : Option Addr) (q8 g d B : Nat) (l : Int) (w : World) (hd : d ≤ 7) (hB : B ≤ g) (hg : Blk w g 3 [.int .i64 l]) (hl0 : 1 ≤ l) (hl1 : l ≤ 16) (hs : s.size ≤ 9223372036854775807)
    (hT : Tab w B) (hv : RDv w B (valDs v) [.int .i64 a3, .int .i64 a4, .string a5, .slice A6 n6 q6, .slice A7 n7 q7]) (hk : RD w B (.row 9 kids.length (filtsDs kids)) (.slice A8 kids.length q8)) (hd0 : d ≠ 0) (TK : kidsOf 2 = kids.length) (ih : ∀ x ∈ kids, IFOk x) :
    Calls Tryz.prog 40 #[.agg #[.int .i64 2, .int .i64 n, .string s, .int .i64 a3, .int .i64 a4, .string a5, .slice A6 n6 q6, .slice A7 n7 q7, .slice A8 kids.length q8], .int .i64 (8 - (d : Int)), .pointer (some ⟨g, 0, none⟩)] w (POk (FForm d (.mk 2 n s v kids)) (filtCnt (.mk 2 n s v kids)) l g w) := by
  have hlt := hg.lt
  have q0 : w.cell? ⟨g, 0, none⟩ = some (.int .i64 l) := hg.cell 0
  have f0 : w.frozen? ⟨g, 0, none⟩ = false := hg.frozen 0
  have hne : g ≠ w.heap.size := by omega
  have hn := hk.len
  have tk := kidsOf_range (k := 2) (by omega)
  have HTK := Lib.hid TK
  have HIH := Lib.hid ih
  have HF := Lib.hid (fform_iff hd0 (kind := 2) (n := n) (s := s) (v := v) (kids := kids))
  obtain ⟨W, eW⟩ : ∃ W, W = (w.setCell ⟨g, 0, none⟩ (.int .i64 (l - 1))).alloc (.cells #[.int .i64 2, .int .i64 n, .string s, .int .i64 a3, .int .i64 a4, .string a5, .slice A6 n6 q6, .slice A7 n7 q7, .slice A8 kids.length q8] 35) := ⟨_, rfl⟩
  have bW : Blk W g 3 [.int .i64 (l - 1)] := by rw [eW]; exact blk_box hg _ _
  have gW : w.grownBy W (some g) := by rw [eW]; exact grown_box _ _ _ _
  have pW : Blk W w.heap.size 35 [.int .i64 2, .int .i64 n, .string s, .int .i64 a3, .int .i64 a4, .string a5, .slice A6 n6 q6, .slice A7 n7 q7, .slice A8 kids.length q8] := by
    rw [eW]
    have := Blk.new (w.setCell ⟨g, 0, none⟩ (.int .i64 (l - 1))) 35 [.int .i64 2, .int .i64 n, .string s, .int .i64 a3, .int .i64 a4, .string a5, .slice A6 n6 q6, .slice A7 n7 q7, .slice A8 kids.length q8]
    rw [show (w.setCell ⟨g, 0, none⟩ (.int .i64 (l - 1))).heap.size = w.heap.size by simp [World.setCell]] at this
    exact this
  have hbw := grown_below gW hB hlt
  have zW : w.heap.size < W.heap.size := pW.lt
  have HT := Lib.hid (hT.below hbw)
  have HV := Lib.hid (hv.below hbw)
  have HK := Lib.hid (hk.below hbw)
  have EW := Lib.hid eW
  have BW := Lib.hid bW
  have GW := Lib.hid gW
  have PW := Lib.hid pW
  have cW := pW.cell
  have gc : W.cell? ⟨g, 0, none⟩ = some (.int .i64 (l - 1)) := bW.cell 0
  have dl : decide (l - 1 < 0) = false := by simp; omega
  have dd : decide ((7 : Int) < 8 - (d : Int)) = false := by simp; omega
  have d5 : ((kids.length : Int) != kidsOf 2) = false := by simpa using TK.symm
  obtain ⟨tb, tc, hT0, hT1⟩ := HT.out.at tk.1 tk.2
  have i0 : (0 : Int) ≤ 2 := by omega
  have i1 : (2 : Int) < 22 := by omega
  clear hg hT hv hk ih eW bW gW pW hbw TK
  have hT2 : W.cell? ⟨tb.block, tb.off + 2, none⟩ = some (.int .i64 (kidsOf 2)) := by simpa [Addr.add] using hT1
  have hT3 : W.cell? (tb.add 2) = some (.int .i64 (kidsOf 2)) := hT1
  by_cases n0 : n = 0
  case neg =>
    have HN := Lib.hid (show ¬ (FForm d (.mk 2 n s v kids) ∧ ((filtCnt (.mk 2 n s v kids) : Nat) : Int) ≤ l) from fun h => by
      rcases (HF.out.1 h.1).1.2.1.1 with h | h <;> omega)
    have n1 : (n != 0) = true := by simpa using n0
    clear n0
    go_enter Tryz.func40, Tryz.ntmps40
    go_wp2_with fail
    rw [← EW.out]
    clear q0 f0 hne
    go_quiet ((go_at_call 60; exact Calls.quiet_of_same ((within_calls 2 1 21 _).mono fun e w' h => h.true_ tk)))
    go_wp2
    go_ret
    exact POk.no HN.out (BW.out.drewN _) (grown_drewN GW.out _)
  have n1 : (n != 0) = false := by simpa using n0
  have N0 := Lib.hid n0
  clear n0
  by_cases s0 : s = ⟨#[]⟩
  case neg =>
    have HN := Lib.hid (show ¬ (FForm d (.mk 2 n s v kids) ∧ ((filtCnt (.mk 2 n s v kids) : Nat) : Int) ≤ l) from fun h => by
      rcases (HF.out.1 h.1).1.2.1.2.1 with h | h
      · omega
      · exact s0 h)
    have s1 := empty_ne s0
    clear s0
    go_enter Tryz.func40, Tryz.ntmps40
    go_wp2_with fail
    rw [← EW.out]
    clear q0 f0 hne
    go_quiet ((go_at_call 60; exact Calls.quiet_of_same ((within_calls 2 1 21 _).mono fun e w' h => h.true_ tk)))
    go_wp2
    go_ret
    exact POk.no HN.out (BW.out.drewN _) (grown_drewN GW.out _)
  have s1 : s.toList.isEmpty = true := by rw [s0, ByteArray.toList_eq]; rfl
  have S0 := Lib.hid s0
  clear s0
  go_enter Tryz.func40, Tryz.ntmps40
  go_wp2_with fail
  rw [← EW.out]
  clear q0 f0 hne
  go_quiet ((go_at_call 60; exact Calls.quiet_of_same ((within_calls 2 1 21 _).mono fun e w' h => h.true_ tk)))
  have tn : (-60 : Int) ≤ n ∧ n ≤ 59 := by rw [N0.out]; omega
  have ts : TextOk s := by rw [S0.out]; exact textOk_nil
  go_wp2_with fail
  refine ((within_calls _ _ _ _).mono fun e w' h => h.true_ tn).mono ?_
  rintro e w1 ⟨rfl, rfl⟩
  go_wp2_with fail
  refine ((iTextOk_calls _ _ hs).mono fun e w' h => h.true_ ts).mono ?_
  rintro e w1 ⟨rfl, rfl⟩
  go_wp2_with fail
  refine (iValOk_calls v [_, _, _, _, _] _ B (by show B ≤ W.heap.size; omega) (HV.out.below ((below_drewN (Below.refl W.heap.size W) _).mono (by omega)))).mono ?_
  rintro e w2 ⟨r2, rfl, hr2, hb2⟩
  have HR2 := Lib.hid hr2
  have hbw2 : Below W.heap.size W w2 := (below_drewN (Below.refl W.heap.size W) _).trans (hb2)
  have zz2 := hbw2.size
  obtain ⟨c2, f2⟩ := blk_rules (PW.out.below hbw2)
  clear hr2 hb2 cW gc hT0 hT1 hT2 hT3 d5
  cases r2 with
  | false =>
    have HN := Lib.hid (show ¬ (FForm d (.mk 2 n s v kids) ∧ ((filtCnt (.mk 2 n s v kids) : Nat) : Int) ≤ l) from fun h => absurd (HR2.out.2 (HF.out.1 h.1).1.2.2.2.2) (by simp))
    go_wp2
    go_ret
    exact POk.no HN.out (BW.out.below hbw2) (grown_then GW.out hbw2)
  | true =>
    have HI := Lib.hid (show FForm d (.mk 2 n s v kids) ↔ (∀ x ∈ kids, FForm (d - 1) x) ∧ ((2 : Int) = 20 → evAt tabLooks kids 0 = true) from HF.out.trans ⟨fun h => h.2, fun h => ⟨⟨HTK.out, ⟨.inr N0.out, .inr S0.out, .inl rfl⟩, ts, ⟨tn.1, by omega⟩, HR2.out.1 rfl⟩, h⟩⟩)
    have BG2 := Lib.hid (BW.out.below hbw2)
    have GG2 := Lib.hid (grown_then (grown_refl W (some g)) hbw2)
    have gltW := BW.out.lt
    clear HF hbw2 tn ts dl dd
    go_wp2
    clear c2 f2
    go_loopw [95] (fun i w' => ∃ (m : Nat) (j : Int), m ≤ kids.length ∧ i = .int .i64 m ∧ Hid (∀ y ∈ kids.take m, FForm (d - 1) y) ∧ 0 ≤ j ∧ j ≤ 16 ∧ Hid (j + (filtsCnt (kids.take m) : Int) = l - 1) ∧ Blk w' g 3 [.int .i64 j] ∧ W.grownBy w' (some g)) (fun i _ => kids.length - (intOf i).toNat)
    case atStart => exact ⟨0, l - 1, by omega, rfl, (fun y hy => by simp at hy), by omega, by omega, (show (l - 1) + ((filtsCnt (kids.take 0) : Nat) : Int) = l - 1 by simp [filtsCnt]), BG2.out, GG2.out⟩
    case round =>
      obtain ⟨m, j, hm0, rfl, HT2, hj0, hj1, HJ, hbg, hgr⟩ := hrel
      have hwz := hgr.size
      have hrd := grown_below hgr hB gltW
      by_cases hlt3 : m < kids.length
      · obtain ⟨ad, y, x0, x1, x2, x3, x4, x5, x6, x7, x8, rfl, hbl, hy, hmem, hd1, z0, z1, z2, z3, z4, z5, z6, z7, z8⟩ := row9_at (HK.out.below hrd) rfl hlt3
        obtain ⟨e0, e1, e2, e3, e4, e5, E6, m6, p6, E7, m7, p7, E8, m8, p8, es⟩ := filtDs_shape hy
        simp only [List.cons.injEq, and_true] at es
        obtain ⟨rfl, rfl, rfl, rfl, rfl, rfl, rfl, rfl, rfl⟩ := es
        have HY1 := Lib.hid hy
        have HBG := Lib.hid hbg
        have HGR := Lib.hid hgr
        have HRD := Lib.hid hrd
        have hW := fun o1 => below_box wr o1
        clear hy hbg hgr hrd
        go_wp2_with fail
        refine (HIH.out y hmem [_, _, _, _, _, _, _, _, _] _ B g (d - 1) j _ (by omega) (by omega) hB (HBG.out.alloc _) hj0 hj1 (HY1.out.below ((hW _).mono (by omega))) (HT.out.below (HRD.out.trans ((hW _).mono (by omega))))).mono ?_
        rintro e w3 ⟨r, j', rfl, hr1, hr3, hb1, hg1⟩
        have HR1 := Lib.hid hr1
        have HR3 := Lib.hid hr3
        have HB1 := Lib.hid hb1
        have HG1 := Lib.hid (show W.grownBy w3 (some g) from HGR.out.trans (World.grownBy.trans (World.grownBy_alloc wr _ _) hg1))
        clear hr1 hr3 hb1 hg1 hW z0 z1 z2 z3 z4 z5 z6 z7 z8
        cases r with
        | true =>
          have h1 := HR1.out.1 rfl
          have h2 := HR3.out rfl
          have HT3 := Lib.hid ((take_all_succ hd1.out).2 ⟨HT2.out, h1.1⟩)
          have HJ3 := Lib.hid (show j' + (filtsCnt (kids.take (m + 1)) : Int) = l - 1 by
            rw [filtsCnt_take hd1.out, h2]
            have := HJ.out
            omega)
          have hp := fcnt_pos y
          have hj0' : 0 ≤ j' := by omega
          have hj1' : j' ≤ 16 := by omega
          clear h1 h2 hp
          go_wp2
          go_roundw
          case rel => exact ⟨m + 1, j', by omega, by go_num, HT3, hj0', hj1', HJ3, HB1.out, HG1.out⟩
          case measure => simp [intOf]; omega
        | false =>
          have HN := Lib.hid (show ¬ (FForm d (.mk 2 n s v kids) ∧ ((filtCnt (.mk 2 n s v kids) : Nat) : Int) ≤ l) from fun h => absurd (HR1.out.2 ⟨(HI.out.1 h.1).1 y hmem, by
            have h1 := HJ.out
            have h2 := h.2
            have h3 := filtsCnt_take hd1.out
            have h4 := filtsCnt_take_le kids (m + 1)
            simp only [filtCnt] at h2
            omega⟩) (by simp))
          go_wp2
          go_ret
          exact POk.no HN.out HB1.out (GW.out.trans HG1.out)
      · have HA := Lib.hid (show ∀ y ∈ kids, FForm (d - 1) y by have := HT2.out; rwa [show m = kids.length by omega, List.take_length] at this)
        have HE := Lib.hid (show ((filtCnt (.mk 2 n s v kids) : Nat) : Int) ≤ l ∧ j = l - ((filtCnt (.mk 2 n s v kids) : Nat) : Int) by
          have h1 := HJ.out
          rw [show m = kids.length by omega, List.take_length] at h1
          constructor
          · simp only [filtCnt]; omega
          · simp only [filtCnt]; omega)
        obtain ⟨c4, f4⟩ := blk_rules (PW.out.same (hgr.block w.heap.size zW (fun e => by injection e; omega)))
        have HBG := Lib.hid hbg
        have HGR := Lib.hid hgr
        have HY := Lib.hid (HI.out.2 ⟨HA.out, fun e => absurd e (by omega)⟩)
        clear hbg hgr hrd
        go_wp2
        go_ret
        exact ⟨true, j, rfl, ⟨fun _ => ⟨HY.out, HE.out.1⟩, fun _ => rfl⟩, fun _ => HE.out.2, HBG.out, GW.out.trans HGR.out⟩
end Go.Proofs.YtppfgepoegicgaaGreatDoor
namespace Go.Proofs.YtppfgepoegicgaaGreatDoor
open Go Go.RowKit

set_option maxRecDepth 100000 in
set_option maxHeartbeats 8000000 in
theorem iFOk_3 (n : Int) (s : ByteArray) (v : Val) (kids : List Filt) (a3 a4 : Int) (a5 : ByteArray) (A6 : Option Addr) (n6 q6 : Nat) (A7 : Option Addr) (n7 q7 : Nat) (A8 : Option Addr) (q8 g d B : Nat) (l : Int) (w : World) (hd : d ≤ 7) (hB : B ≤ g) (hg : Blk w g 3 [.int .i64 l]) (hl0 : 1 ≤ l) (hl1 : l ≤ 16) (hs : s.size ≤ 9223372036854775807)
    (hT : Tab w B) (hv : RDv w B (valDs v) [.int .i64 a3, .int .i64 a4, .string a5, .slice A6 n6 q6, .slice A7 n7 q7]) (hk : RD w B (.row 9 kids.length (filtsDs kids)) (.slice A8 kids.length q8)) (hd0 : d ≠ 0) (TK : kidsOf 3 = kids.length) (ih : ∀ x ∈ kids, IFOk x) :
    Calls Tryz.prog 40 #[.agg #[.int .i64 3, .int .i64 n, .string s, .int .i64 a3, .int .i64 a4, .string a5, .slice A6 n6 q6, .slice A7 n7 q7, .slice A8 kids.length q8], .int .i64 (8 - (d : Int)), .pointer (some ⟨g, 0, none⟩)] w (POk (FForm d (.mk 3 n s v kids)) (filtCnt (.mk 3 n s v kids)) l g w) := by
  have hlt := hg.lt
  have q0 : w.cell? ⟨g, 0, none⟩ = some (.int .i64 l) := hg.cell 0
  have f0 : w.frozen? ⟨g, 0, none⟩ = false := hg.frozen 0
  have hne : g ≠ w.heap.size := by omega
  have hn := hk.len
  have tk := kidsOf_range (k := 3) (by omega)
  have HTK := Lib.hid TK
  have HIH := Lib.hid ih
  have HF := Lib.hid (fform_iff hd0 (kind := 3) (n := n) (s := s) (v := v) (kids := kids))
  obtain ⟨W, eW⟩ : ∃ W, W = (w.setCell ⟨g, 0, none⟩ (.int .i64 (l - 1))).alloc (.cells #[.int .i64 3, .int .i64 n, .string s, .int .i64 a3, .int .i64 a4, .string a5, .slice A6 n6 q6, .slice A7 n7 q7, .slice A8 kids.length q8] 35) := ⟨_, rfl⟩
  have bW : Blk W g 3 [.int .i64 (l - 1)] := by rw [eW]; exact blk_box hg _ _
  have gW : w.grownBy W (some g) := by rw [eW]; exact grown_box _ _ _ _
  have pW : Blk W w.heap.size 35 [.int .i64 3, .int .i64 n, .string s, .int .i64 a3, .int .i64 a4, .string a5, .slice A6 n6 q6, .slice A7 n7 q7, .slice A8 kids.length q8] := by
    rw [eW]
    have := Blk.new (w.setCell ⟨g, 0, none⟩ (.int .i64 (l - 1))) 35 [.int .i64 3, .int .i64 n, .string s, .int .i64 a3, .int .i64 a4, .string a5, .slice A6 n6 q6, .slice A7 n7 q7, .slice A8 kids.length q8]
    rw [show (w.setCell ⟨g, 0, none⟩ (.int .i64 (l - 1))).heap.size = w.heap.size by simp [World.setCell]] at this
    exact this
  have hbw := grown_below gW hB hlt
  have zW : w.heap.size < W.heap.size := pW.lt
  have HT := Lib.hid (hT.below hbw)
  have HV := Lib.hid (hv.below hbw)
  have HK := Lib.hid (hk.below hbw)
  have EW := Lib.hid eW
  have BW := Lib.hid bW
  have GW := Lib.hid gW
  have PW := Lib.hid pW
  have cW := pW.cell
  have gc : W.cell? ⟨g, 0, none⟩ = some (.int .i64 (l - 1)) := bW.cell 0
  have dl : decide (l - 1 < 0) = false := by simp; omega
  have dd : decide ((7 : Int) < 8 - (d : Int)) = false := by simp; omega
  have d5 : ((kids.length : Int) != kidsOf 3) = false := by simpa using TK.symm
  obtain ⟨tb, tc, hT0, hT1⟩ := HT.out.at tk.1 tk.2
  have i0 : (0 : Int) ≤ 3 := by omega
  have i1 : (3 : Int) < 22 := by omega
  clear hg hT hv hk ih eW bW gW pW hbw TK
  have hT2 : W.cell? ⟨tb.block, tb.off + 3, none⟩ = some (.int .i64 (kidsOf 3)) := by simpa [Addr.add] using hT1
  have hT3 : W.cell? (tb.add 3) = some (.int .i64 (kidsOf 3)) := hT1
  by_cases n0 : n = 0
  case neg =>
    have HN := Lib.hid (show ¬ (FForm d (.mk 3 n s v kids) ∧ ((filtCnt (.mk 3 n s v kids) : Nat) : Int) ≤ l) from fun h => by
      rcases (HF.out.1 h.1).1.2.1.1 with h | h <;> omega)
    have n1 : (n != 0) = true := by simpa using n0
    clear n0
    go_enter Tryz.func40, Tryz.ntmps40
    go_wp2_with fail
    rw [← EW.out]
    clear q0 f0 hne
    go_quiet ((go_at_call 60; exact Calls.quiet_of_same ((within_calls 3 1 21 _).mono fun e w' h => h.true_ tk)))
    go_wp2
    go_ret
    exact POk.no HN.out (BW.out.drewN _) (grown_drewN GW.out _)
  have n1 : (n != 0) = false := by simpa using n0
  have N0 := Lib.hid n0
  clear n0
  go_enter Tryz.func40, Tryz.ntmps40
  go_wp2_with fail
  rw [← EW.out]
  clear q0 f0 hne
  go_quiet ((go_at_call 60; exact Calls.quiet_of_same ((within_calls 3 1 21 _).mono fun e w' h => h.true_ tk)))
  clear hT0 hT1 hT2 hT3 d5
  go_wp2_with fail
  refine (iNone_calls v [_, _, _, _, _] _ B (by show B ≤ W.heap.size; omega) (HV.out.below (below_drewN (Below.refl _ _) _))).mono ?_
  rintro e w1 ⟨r, rfl, hr, hb1⟩
  have HR := Lib.hid hr
  have hbw1 : Below W.heap.size W w1 := (below_drewN (Below.refl W.heap.size W) _).trans hb1
  have zz1 := hbw1.size
  obtain ⟨c1, f1⟩ := blk_rules (PW.out.below hbw1)
  clear hr hb1 cW gc
  cases r with
  | false =>
    have HN := Lib.hid (show ¬ (FForm d (.mk 3 n s v kids) ∧ ((filtCnt (.mk 3 n s v kids) : Nat) : Int) ≤ l) from fun h => by
      rcases (HF.out.1 h.1).1.2.1.2.2 with h2 | h2
      · omega
      · exact absurd (HR.out.2 h2) (by simp))
    go_wp2
    go_ret
    exact POk.no HN.out (BW.out.below hbw1) (grown_then GW.out hbw1)
  | true =>
    have VZ := Lib.hid (HR.out.1 rfl)
    have tn : (-60 : Int) ≤ n ∧ n ≤ 59 := by rw [N0.out]; omega
    by_cases ts : TextOk s
    case neg =>
      have HN := Lib.hid (show ¬ (FForm d (.mk 3 n s v kids) ∧ ((filtCnt (.mk 3 n s v kids) : Nat) : Int) ≤ l) from fun h => ts (HF.out.1 h.1).1.2.2.1)
      go_wp2_with fail
      refine ((within_calls _ _ _ _).mono fun e w' h => h.true_ tn).mono ?_
      rintro e w1 ⟨rfl, rfl⟩
      go_wp2_with fail
      refine ((iTextOk_calls _ _ hs).mono fun e w' h => h.false_ ts).mono ?_
      rintro e w1 ⟨rfl, rfl⟩
      go_wp2
      go_ret
      exact POk.no HN.out (BW.out.below hbw1) (grown_then GW.out hbw1)
    go_wp2_with fail
    refine ((within_calls _ _ _ _).mono fun e w' h => h.true_ tn).mono ?_
    rintro e w1 ⟨rfl, rfl⟩
    go_wp2_with fail
    refine ((iTextOk_calls _ _ hs).mono fun e w' h => h.true_ ts).mono ?_
    rintro e w1 ⟨rfl, rfl⟩
    go_wp2_with fail
    refine (iValOk_calls v [_, _, _, _, _] _ B (by show B ≤ w1.heap.size; omega) (HV.out.below (hbw1.mono (by omega)))).mono ?_
    rintro e w2 ⟨r2, rfl, hr2, hb2⟩
    have HR2 := Lib.hid hr2
    have hbw2 : Below W.heap.size W w2 := hbw1.trans (hb2.mono zz1)
    have zz2 := hbw2.size
    obtain ⟨c2, f2⟩ := blk_rules (PW.out.below hbw2)
    clear hr2 hb2 c1 f1 hbw1 zz1
    cases r2 with
    | false =>
      have HN := Lib.hid (show ¬ (FForm d (.mk 3 n s v kids) ∧ ((filtCnt (.mk 3 n s v kids) : Nat) : Int) ≤ l) from fun h => absurd (HR2.out.2 (HF.out.1 h.1).1.2.2.2.2) (by simp))
      go_wp2
      go_ret
      exact POk.no HN.out (BW.out.below hbw2) (grown_then GW.out hbw2)
    | true =>
      have HI := Lib.hid (show FForm d (.mk 3 n s v kids) ↔ (∀ x ∈ kids, FForm (d - 1) x) ∧ ((3 : Int) = 20 → evAt tabLooks kids 0 = true) from HF.out.trans ⟨fun h => h.2, fun h => ⟨⟨HTK.out, ⟨.inr N0.out, .inl (.inl rfl), .inr VZ.out⟩, ts, ⟨tn.1, by omega⟩, HR2.out.1 rfl⟩, h⟩⟩)
      have BG2 := Lib.hid (BW.out.below hbw2)
      have GG2 := Lib.hid (grown_then (grown_refl W (some g)) hbw2)
      have gltW := BW.out.lt
      clear HF hbw2 tn ts dl dd
      go_wp2
      clear c2 f2
      go_loopw [95] (fun i w' => ∃ (m : Nat) (j : Int), m ≤ kids.length ∧ i = .int .i64 m ∧ Hid (∀ y ∈ kids.take m, FForm (d - 1) y) ∧ 0 ≤ j ∧ j ≤ 16 ∧ Hid (j + (filtsCnt (kids.take m) : Int) = l - 1) ∧ Blk w' g 3 [.int .i64 j] ∧ W.grownBy w' (some g)) (fun i _ => kids.length - (intOf i).toNat)
      case atStart => exact ⟨0, l - 1, by omega, rfl, (fun y hy => by simp at hy), by omega, by omega, (show (l - 1) + ((filtsCnt (kids.take 0) : Nat) : Int) = l - 1 by simp [filtsCnt]), BG2.out, GG2.out⟩
      case round =>
        obtain ⟨m, j, hm0, rfl, HT2, hj0, hj1, HJ, hbg, hgr⟩ := hrel
        have hwz := hgr.size
        have hrd := grown_below hgr hB gltW
        by_cases hlt3 : m < kids.length
        · obtain ⟨ad, y, x0, x1, x2, x3, x4, x5, x6, x7, x8, rfl, hbl, hy, hmem, hd1, z0, z1, z2, z3, z4, z5, z6, z7, z8⟩ := row9_at (HK.out.below hrd) rfl hlt3
          obtain ⟨e0, e1, e2, e3, e4, e5, E6, m6, p6, E7, m7, p7, E8, m8, p8, es⟩ := filtDs_shape hy
          simp only [List.cons.injEq, and_true] at es
          obtain ⟨rfl, rfl, rfl, rfl, rfl, rfl, rfl, rfl, rfl⟩ := es
          have HY1 := Lib.hid hy
          have HBG := Lib.hid hbg
          have HGR := Lib.hid hgr
          have HRD := Lib.hid hrd
          have hW := fun o1 => below_box wr o1
          clear hy hbg hgr hrd
          go_wp2_with fail
          refine (HIH.out y hmem [_, _, _, _, _, _, _, _, _] _ B g (d - 1) j _ (by omega) (by omega) hB (HBG.out.alloc _) hj0 hj1 (HY1.out.below ((hW _).mono (by omega))) (HT.out.below (HRD.out.trans ((hW _).mono (by omega))))).mono ?_
          rintro e w3 ⟨r, j', rfl, hr1, hr3, hb1, hg1⟩
          have HR1 := Lib.hid hr1
          have HR3 := Lib.hid hr3
          have HB1 := Lib.hid hb1
          have HG1 := Lib.hid (show W.grownBy w3 (some g) from HGR.out.trans (World.grownBy.trans (World.grownBy_alloc wr _ _) hg1))
          clear hr1 hr3 hb1 hg1 hW z0 z1 z2 z3 z4 z5 z6 z7 z8
          cases r with
          | true =>
            have h1 := HR1.out.1 rfl
            have h2 := HR3.out rfl
            have HT3 := Lib.hid ((take_all_succ hd1.out).2 ⟨HT2.out, h1.1⟩)
            have HJ3 := Lib.hid (show j' + (filtsCnt (kids.take (m + 1)) : Int) = l - 1 by
              rw [filtsCnt_take hd1.out, h2]
              have := HJ.out
              omega)
            have hp := fcnt_pos y
            have hj0' : 0 ≤ j' := by omega
            have hj1' : j' ≤ 16 := by omega
            clear h1 h2 hp
            go_wp2
            go_roundw
            case rel => exact ⟨m + 1, j', by omega, by go_num, HT3, hj0', hj1', HJ3, HB1.out, HG1.out⟩
            case measure => simp [intOf]; omega
          | false =>
            have HN := Lib.hid (show ¬ (FForm d (.mk 3 n s v kids) ∧ ((filtCnt (.mk 3 n s v kids) : Nat) : Int) ≤ l) from fun h => absurd (HR1.out.2 ⟨(HI.out.1 h.1).1 y hmem, by
              have h1 := HJ.out
              have h2 := h.2
              have h3 := filtsCnt_take hd1.out
              have h4 := filtsCnt_take_le kids (m + 1)
              simp only [filtCnt] at h2
              omega⟩) (by simp))
            go_wp2
            go_ret
            exact POk.no HN.out HB1.out (GW.out.trans HG1.out)
        · have HA := Lib.hid (show ∀ y ∈ kids, FForm (d - 1) y by have := HT2.out; rwa [show m = kids.length by omega, List.take_length] at this)
          have HE := Lib.hid (show ((filtCnt (.mk 3 n s v kids) : Nat) : Int) ≤ l ∧ j = l - ((filtCnt (.mk 3 n s v kids) : Nat) : Int) by
            have h1 := HJ.out
            rw [show m = kids.length by omega, List.take_length] at h1
            constructor
            · simp only [filtCnt]; omega
            · simp only [filtCnt]; omega)
          obtain ⟨c4, f4⟩ := blk_rules (PW.out.same (hgr.block w.heap.size zW (fun e => by injection e; omega)))
          have HBG := Lib.hid hbg
          have HGR := Lib.hid hgr
          have HY := Lib.hid (HI.out.2 ⟨HA.out, fun e => absurd e (by omega)⟩)
          clear hbg hgr hrd
          go_wp2
          go_ret
          exact ⟨true, j, rfl, ⟨fun _ => ⟨HY.out, HE.out.1⟩, fun _ => rfl⟩, fun _ => HE.out.2, HBG.out, GW.out.trans HGR.out⟩
end Go.Proofs.YtppfgepoegicgaaGreatDoor
