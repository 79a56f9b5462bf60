/- Parts of the proof: OkI6, OkILo, OkIHi, OkIV. -/
import Derived.Test.YtppfgepoegicgaaGreatDoorGd
import Derived.IntWalk
namespace Go.Proofs.YtppfgepoegicgaaGreatDoor
open Go Go.RowKit

set_option maxRecDepth 100000 in
set_option maxHeartbeats 8000000 in
theorem iOk_6 (kind n : Int) (s : ByteArray) (keys : List ByteArray) (list : List Val) (A1 A2 : Option Addr) (c1 c2 g d B : Nat) (l : Int) (w : World) (hd : d ≤ 6) (hB : B ≤ g) (hg : Blk w g 3 [.int .i64 l]) (hl0 : 1 ≤ l) (hl1 : l ≤ 60) (hs : s.size ≤ 9223372036854775807)
    (hk : RD w B (.row 1 keys.length (strDs keys)) (.slice A1 keys.length c1)) (hl : RD w B (.row 5 list.length (valsDs list)) (.slice A2 list.length c2)) (hd0 : d ≠ 0) (hC : Clean kind n s keys list) (ih : ∀ x ∈ list, IOk x) (hc : kind = 6) :
    Calls Tryz.prog 75 #[.agg #[.int .i64 kind, .int .i64 n, .string s, .slice A1 keys.length c1, .slice A2 list.length c2], .int .i64 (7 - (d : Int)), .pointer (some ⟨g, 0, none⟩)] w (POk (Form d (.mk kind n s keys list)) (valCnt (.mk kind n s keys list)) l g w) := by
  subst hc
  have hgx := fun o u => grown_box w g o u
  have hbx := fun o u => blk_box hg o u
  have hlt := hg.lt
  have q0 : w.cell? ⟨g, 0, none⟩ = some (.int .i64 l) := hg.cell 0
  have f0 : w.frozen? ⟨g, 0, none⟩ = false := hg.frozen 0
  have hne : g ≠ w.heap.size := by omega
  have hn1 := hk.len
  have hn2 := hl.len
  have tl' : ¬ (l - 1 < 0) := by omega
  have t0' : ¬ ((6 : Int) < 7 - (d : Int)) := by omega
  have HIH := Lib.hid ih
  have HL := Lib.hid hl
  have HK := Lib.hid hk
  have HC := Lib.hid hC
  have HF := Lib.hid (form_iff hd0 (kind := 6) (n := n) (s := s) (keys := keys) (list := list))
  clear hg ih hl hk hC
  have n0 : (n != 0) = false := by have := HC.out.1 (by omega); simp [this]
  have ls : s.toList = [] := by rw [HC.out.2.1 (by omega), ByteArray.toList_eq]
  have tk : (0 : Int) ≤ 6 ∧ (6 : Int) ≤ 6 := by omega
  have tn : (-1000000 : Int) ≤ n ∧ n ≤ 1000000 := by have := HC.out.1 (by omega); omega
  have ts : TextOk s := by rw [HC.out.2.1 (by omega)]; exact textOk_nil
  by_cases te : keys.length = list.length
  case neg =>
    have HN := Lib.hid (show ¬ (Form d (.mk 6 n s keys list) ∧ ((valCnt (.mk 6 n s keys list) : Nat) : Int) ≤ l) from fun h => te ((HF.out.1 h.1).1.2.2.2.2 rfl).1)
    have d5 : ((keys.length : Int) != (list.length : Int)) = true := by simp; omega
    go_enter Tryz.func75, Tryz.ntmps75
    go_wp2_with fail
    refine ((within_calls _ _ _ _).mono fun e w' h => h.true_ tk).mono ?_
    rintro e w1 ⟨rfl, rfl⟩
    go_wp2_with fail
    refine ((within_calls _ _ _ _).mono fun e w' h => h.true_ tn).mono ?_
    rintro e w1 ⟨rfl, rfl⟩
    go_wp2_with fail
    refine ((iTextOk_calls _ _ hs).mono fun e w' h => h.true_ ts).mono ?_
    rintro e w1 ⟨rfl, rfl⟩
    go_wp2
    go_ret
    exact POk.no HN.out (hbx _ _) (hgx _ _)
  have d5 : ((keys.length : Int) != (list.length : Int)) = false := by simp; omega
  have TE := Lib.hid te
  clear te
  have HKF := Lib.hid (show Form d (.mk 6 n s keys list) → KeysOk keys from fun h => ((HF.out.1 h).1.2.2.2.2 rfl).2)
  have HHD := Lib.hid (show KeysOk keys → (∀ v ∈ list, Form (d - 1) v) → Form d (.mk 6 n s keys list) from fun h1 h2 => HF.out.2 ⟨⟨HC.out, tk, tn, ts, fun h6 => ⟨TE.out, h1⟩⟩, h2⟩)
  obtain ⟨W, eW⟩ : ∃ W, W = ((w.setCell ⟨g, 0, none⟩ (.int .i64 (l - 1))).alloc (.cells #[.int .i64 6, .int .i64 n, .string s, .slice A1 keys.length c1, .slice A2 list.length c2] 32)) := ⟨_, rfl⟩
  have bW : Blk W g 3 [.int .i64 (l - 1)] := by rw [eW]; exact hbx _ _
  have gW : w.grownBy W (some g) := by rw [eW]; exact hgx _ _
  have pW : Blk W w.heap.size 32 [.int .i64 6, .int .i64 n, .string s, .slice A1 keys.length c1, .slice A2 list.length c2] := by
    rw [eW]
    have := Blk.new (w.setCell ⟨g, 0, none⟩ (.int .i64 (l - 1))) 32 [.int .i64 6, .int .i64 n, .string s, .slice A1 keys.length c1, .slice A2 list.length c2]
    rw [show (w.setCell ⟨g, 0, none⟩ (.int .i64 (l - 1))).heap.size = w.heap.size by simp [World.setCell]] at this
    exact this
  have EW := Lib.hid eW
  have BW := Lib.hid bW
  have GW := Lib.hid gW
  have PW := Lib.hid pW
  have hdW := Lib.hid (grown_below gW hB hlt)
  have zW : w.heap.size < W.heap.size := pW.lt
  have HLW := Lib.hid (HL.out.below hdW.out)
  have HKW := Lib.hid (HK.out.below hdW.out)
  clear eW bW gW pW
  go_enter Tryz.func75, Tryz.ntmps75
  go_wp2_with fail
  refine ((within_calls _ _ _ _).mono fun e w' h => h.true_ tk).mono ?_
  rintro e w1 ⟨rfl, rfl⟩
  go_wp2_with fail
  refine ((within_calls _ _ _ _).mono fun e w' h => h.true_ tn).mono ?_
  rintro e w1 ⟨rfl, rfl⟩
  go_wp2_with fail
  refine ((iTextOk_calls _ _ hs).mono fun e w' h => h.true_ ts).mono ?_
  rintro e w1 ⟨rfl, rfl⟩
  go_wp2
  rw [← EW.out]
  clear q0 f0 hne tl' t0' hgx hbx d5 n0
  have cP := PW.out.cell
  go_loopw [97] (fun i w' => ∃ k : Nat, k ≤ keys.length ∧ i = .int .i64 k ∧ Hid (KeysTo keys k) ∧ w' = W) (fun i _ => keys.length - (intOf i).toNat)
  case atStart => exact ⟨0, by omega, rfl, KeysTo.zero keys, rfl⟩
  case round =>
    obtain ⟨k, hk, rfl, HI, rfl⟩ := hrel
    by_cases hlt2 : k < keys.length
    · obtain ⟨ad, s1, rfl, hbl, hc1, hs1, hd1⟩ := row1_at HKW.out rfl hlt2
      have E1 := Lib.hid (getD_of_drop hd1.out)
      have j0 : (0 : Int) ≤ (k : Int) := by omega
      have j1 : (k : Int) < (keys.length : Int) := by omega
      have hz0 : k = 0 → wr.cell? ad = some (.string s1) := fun e => by subst e; simpa [Addr.add] using hc1
      by_cases t : TextOk s1
      · by_cases k0 : k = 0
        · subst k0
          have hz := hz0 rfl
          have HN := Lib.hid (HI.out.step (by rw [E1.out]; exact t) (fun j h => by omega))
          clear hz0 hc1
          go_wp2_with fail
          refine ((iTextOk_calls s1 _ hs1).mono fun e w' h => h.true_ t).mono ?_
          rintro e w1 ⟨rfl, rfl⟩
          go_wp2
          go_roundw
          case rel => exact ⟨1, by omega, rfl, HN, trivial⟩
          case measure => simp [intOf]; omega
        · obtain ⟨ad', s0, ea, hbl0, hc0, hs0, hd0'⟩ := row1_at HKW.out rfl (show k - 1 < keys.length by omega)
          injection ea with ea
          subst ea
          have E0 := Lib.hid (getD_of_drop hd0'.out)
          have j2 : (0 : Int) ≤ (k : Int) - 1 := by omega
          have j3 : (k : Int) - 1 < (keys.length : Int) := by omega
          have j4 : 0 < k := by omega
          have j5 : ((k : Int) - 1).toNat = k - 1 := by omega
          have j6 : IntKind.i64.wrap ((k : Int) - 1) = (k : Int) - 1 := IntWalk.i64_in _ (by omega)
          clear hz0
          by_cases t2 : Op.bytesLess s0.toList s1.toList = true
          · have HN := Lib.hid (HI.out.step (by rw [E1.out]; exact t) (fun j h => by
              obtain rfl : j = k - 1 := by omega
              rw [E0.out, E1.out]
              exact t2))
            go_wp2_with fail
            refine ((iTextOk_calls s1 _ hs1).mono fun e w' h => h.true_ t).mono ?_
            rintro e w1 ⟨rfl, rfl⟩
            go_wp2
            go_roundw
            case rel => exact ⟨k + 1, by omega, by go_num, HN, trivial⟩
            case measure => simp [intOf]; omega
          · have HN := Lib.hid (show ¬ (Form d (.mk 6 n s keys list) ∧ ((valCnt (.mk 6 n s keys list) : Nat) : Int) ≤ l) from fun h => t2 (by
              have := (HKF.out h.1).2 (k - 1) (by omega)
              rw [show k - 1 + 1 = k by omega, E0.out, E1.out] at this
              exact this))
            have t2' : Op.bytesLess s0.toList s1.toList = false := by simpa using t2
            clear t2
            go_wp2_with fail
            refine ((iTextOk_calls s1 _ hs1).mono fun e w' h => h.true_ t).mono ?_
            rintro e w1 ⟨rfl, rfl⟩
            go_wp2
            go_ret
            exact POk.no HN.out BW.out GW.out
      · have HN := Lib.hid (show ¬ (Form d (.mk 6 n s keys list) ∧ ((valCnt (.mk 6 n s keys list) : Nat) : Int) ≤ l) from fun h => t (by have := (HKF.out h.1).text k hlt2; rwa [E1.out] at this))
        by_cases k0 : k = 0
        · subst k0
          have hz := hz0 rfl
          clear hz0 hc1
          go_wp2_with fail
          refine ((iTextOk_calls s1 _ hs1).mono fun e w' h => h.false_ t).mono ?_
          rintro e w1 ⟨rfl, rfl⟩
          go_wp2
          go_ret
          exact POk.no HN.out BW.out GW.out
        · clear hz0
          go_wp2_with fail
          refine ((iTextOk_calls s1 _ hs1).mono fun e w' h => h.false_ t).mono ?_
          rintro e w1 ⟨rfl, rfl⟩
          go_wp2
          go_ret
          exact POk.no HN.out BW.out GW.out
    · have HKO := Lib.hid (show KeysOk keys from KeysTo.all (by have := HI.out; rwa [show k = keys.length by omega] at this))
      go_wp2
      clear cP
      go_loopw [123] (fun i w' => ∃ (k : Nat) (j : Int), k ≤ list.length ∧ i = .int .i64 k ∧ Hid (∀ y ∈ list.take k, Form (d - 1) y) ∧ 0 ≤ j ∧ j ≤ 60 ∧ Hid (j + (valsCnt (list.take k) : Int) = l - 1) ∧ Blk w' g 3 [.int .i64 j] ∧ w.grownBy w' (some g)) (fun i _ => list.length - (intOf i).toNat)
      case atStart => exact ⟨0, l - 1, by omega, rfl, (fun y hy => by simp at hy), by omega, by omega, (show (l - 1) + ((valsCnt (list.take 0) : Nat) : Int) = l - 1 by simp [valsCnt]), BW.out, GW.out⟩
      case round =>
        obtain ⟨k2, j, hk2, rfl, HT, hj0, hj1, HJ, hbg, hgr⟩ := hrel
        have hzr := hgr.size
        by_cases hlt3 : k2 < list.length
        · have hrd := grown_below hgr hB hlt
          obtain ⟨ad, v, x0, x1, x2, x3, x4, rfl, hbl, hv, hm, hd1, y0, y1, y2, y3, y4⟩ := row5_at (HL.out.below hrd) rfl hlt3
          obtain ⟨m0, m1, m2, A3, n3, q3, A4, n4, q4, es⟩ := valDs_shape hv
          simp only [List.cons.injEq, and_true] at es
          obtain ⟨rfl, rfl, rfl, rfl, rfl⟩ := es
          have HV := Lib.hid hv
          have HBG := Lib.hid hbg
          have HGR := Lib.hid hgr
          have hW := fun o1 => below_box wr o1
          clear hv hbg hgr hrd
          go_wp2_with fail
          refine (HIH.out v hm [_, _, _, _, _] _ B g (d - 1) j _ (by omega) (by omega) hB (HBG.out.alloc _) hj0 hj1 (HV.out.below ((hW _).mono (by omega)))).mono ?_
          rintro e w1 ⟨r, j', rfl, hr1, hr2, hb1, hg1⟩
          have HR1 := Lib.hid hr1
          have HR2 := Lib.hid hr2
          have HB1 := Lib.hid hb1
          have HG1 := Lib.hid (show w.grownBy w1 (some g) from HGR.out.trans (World.grownBy.trans (World.grownBy_alloc wr _ _) hg1))
          clear hr1 hr2 hb1 hg1 hW
          cases r with
          | true =>
            have h1 := HR1.out.1 rfl
            have h2 := HR2.out rfl
            have HT3 := Lib.hid ((take_all_succ hd1.out).2 ⟨HT.out, h1.1⟩)
            have HJ3 := Lib.hid (show j' + (valsCnt (list.take (k2 + 1)) : Int) = l - 1 by
              rw [valsCnt_take hd1.out, h2]
              have := HJ.out
              omega)
            have hp := cnt_pos v
            have hj0' : 0 ≤ j' := by omega
            have hj1' : j' ≤ 60 := by omega
            clear h1 h2 hp
            go_wp2
            go_roundw
            case rel => exact ⟨k2 + 1, j', by omega, by go_num, HT3, hj0', hj1', HJ3, HB1.out, HG1.out⟩
            case measure => simp [intOf]; omega
          | false =>
            have HN := Lib.hid (show ¬ (Form d (.mk 6 n s keys list) ∧ ((valCnt (.mk 6 n s keys list) : Nat) : Int) ≤ l) from fun h => absurd (HR1.out.2 ⟨(HF.out.1 h.1).2 v hm, by
              have h1 := HJ.out
              have h2 := h.2
              have h3 := valsCnt_take hd1.out
              have h4 := valsCnt_take_le list (k2 + 1)
              simp only [valCnt] at h2
              omega⟩) (by simp))
            go_wp2
            go_ret
            exact POk.no HN.out HB1.out HG1.out
        · have HE := Lib.hid (show Form d (.mk 6 n s keys list) ∧ ((valCnt (.mk 6 n s keys list) : Nat) : Int) ≤ l ∧ j = l - ((valCnt (.mk 6 n s keys list) : Nat) : Int) by
            have h1 := HJ.out
            have h2 := HT.out
            rw [show k2 = list.length by omega, List.take_length] at h1 h2
            refine ⟨HHD.out HKO.out h2, ?_, ?_⟩
            · simp only [valCnt]; omega
            · simp only [valCnt]; omega)
          have HBG := Lib.hid hbg
          have HGR := Lib.hid hgr
          clear hbg hgr
          go_wp2
          go_ret
          exact ⟨true, j, rfl, ⟨fun _ => ⟨HE.out.1, HE.out.2.1⟩, fun _ => rfl⟩, fun _ => HE.out.2.2, HBG.out, HGR.out⟩
end Go.Proofs.YtppfgepoegicgaaGreatDoor
namespace Go.Proofs.YtppfgepoegicgaaGreatDoor
open Go Go.RowKit

set_option maxRecDepth 100000 in
set_option maxHeartbeats 8000000 in
theorem iOk_Lo (kind n : Int) (s : ByteArray) (keys : List ByteArray) (list : List Val) (A1 A2 : Option Addr) (c1 c2 g d B : Nat) (l : Int) (w : World) (hd : d ≤ 6) (hB : B ≤ g) (hg : Blk w g 3 [.int .i64 l]) (hl0 : 1 ≤ l) (hl1 : l ≤ 60) (hs : s.size ≤ 9223372036854775807)
    (hk : RD w B (.row 1 keys.length (strDs keys)) (.slice A1 keys.length c1)) (hl : RD w B (.row 5 list.length (valsDs list)) (.slice A2 list.length c2)) (hd0 : d ≠ 0) (hC : Clean kind n s keys list) (ih : ∀ x ∈ list, IOk x) (hc : kind < 5 ∧ kind ≠ 3 ∧ kind ≠ 4) :
    Calls Tryz.prog 75 #[.agg #[.int .i64 kind, .int .i64 n, .string s, .slice A1 keys.length c1, .slice A2 list.length c2], .int .i64 (7 - (d : Int)), .pointer (some ⟨g, 0, none⟩)] w (POk (Form d (.mk kind n s keys list)) (valCnt (.mk kind n s keys list)) l g w) := by
  have hgx := fun o u => grown_box w g o u
  have hbx := fun o u => blk_box hg o u
  have hlt := hg.lt
  have q0 : w.cell? ⟨g, 0, none⟩ = some (.int .i64 l) := hg.cell 0
  have f0 : w.frozen? ⟨g, 0, none⟩ = false := hg.frozen 0
  have hne : g ≠ w.heap.size := by omega
  have hn1 := hk.len
  have hn2 := hl.len
  have tl' : ¬ (l - 1 < 0) := by omega
  have t0' : ¬ ((6 : Int) < 7 - (d : Int)) := by omega
  have HIH := Lib.hid ih
  have HL := Lib.hid hl
  have HK := Lib.hid hk
  have HC := Lib.hid hC
  have HF := Lib.hid (form_iff hd0 (kind := kind) (n := n) (s := s) (keys := keys) (list := list))
  clear hg ih hl hk hC
  have n0 : (n != 0) = false := by have := HC.out.1 (by omega); simp [this]
  have ls : s.toList = [] := by rw [HC.out.2.1 (by omega), ByteArray.toList_eq]
  have lk : ¬ 0 < keys.length := by rw [HC.out.2.2.1 (by omega)]; simp
  have ll : ¬ 0 < list.length := by rw [HC.out.2.2.2 (by omega)]; simp
  have b3 : (kind != 3) = true := by simp; omega
  have b4 : (kind != 4) = true := by simp; omega
  have b6 : (kind != 6) = true := by simp; omega
  have e6 : (kind == 6) = false := by simp; omega
  have b5 : kind < 5 := by omega
  by_cases tk : (0 : Int) ≤ kind ∧ kind ≤ 6
  case neg =>
    have HN := Lib.hid (show ¬ (Form d (.mk kind n s keys list) ∧ ((valCnt (.mk kind n s keys list) : Nat) : Int) ≤ l) from fun h => tk (HF.out.1 h.1).1.2.1)
    clear hc
    go_enter Tryz.func75, Tryz.ntmps75
    go_wp2_with fail
    refine ((within_calls _ _ _ _).mono fun e w' h => h.false_ tk).mono ?_
    rintro e w1 ⟨rfl, rfl⟩
    go_wp2
    go_ret
    exact POk.no HN.out (hbx _ _) (hgx _ _)
  have tn : (-1000000 : Int) ≤ n ∧ n ≤ 1000000 := by have := HC.out.1 (by omega); omega
  have ts : TextOk s := by rw [HC.out.2.1 (by omega)]; exact textOk_nil
  have HKF := Lib.hid (show Form d (.mk kind n s keys list) → KeysOk keys from fun _ => by rw [HC.out.2.2.1 (by omega)]; exact ⟨fun k hk => absurd hk (by simp), fun i hi => absurd hi (by simp)⟩)
  have HHD := Lib.hid (show KeysOk keys → (∀ v ∈ list, Form (d - 1) v) → Form d (.mk kind n s keys list) from fun h1 h2 => HF.out.2 ⟨⟨HC.out, tk, tn, ts, fun h6 => absurd h6 (by omega)⟩, h2⟩)
  clear hc
  obtain ⟨W, eW⟩ : ∃ W, W = ((w.setCell ⟨g, 0, none⟩ (.int .i64 (l - 1))).alloc (.cells #[.int .i64 kind, .int .i64 n, .string s, .slice A1 keys.length c1, .slice A2 list.length c2] 32)) := ⟨_, rfl⟩
  have bW : Blk W g 3 [.int .i64 (l - 1)] := by rw [eW]; exact hbx _ _
  have gW : w.grownBy W (some g) := by rw [eW]; exact hgx _ _
  have pW : Blk W w.heap.size 32 [.int .i64 kind, .int .i64 n, .string s, .slice A1 keys.length c1, .slice A2 list.length c2] := by
    rw [eW]
    have := Blk.new (w.setCell ⟨g, 0, none⟩ (.int .i64 (l - 1))) 32 [.int .i64 kind, .int .i64 n, .string s, .slice A1 keys.length c1, .slice A2 list.length c2]
    rw [show (w.setCell ⟨g, 0, none⟩ (.int .i64 (l - 1))).heap.size = w.heap.size by simp [World.setCell]] at this
    exact this
  have EW := Lib.hid eW
  have BW := Lib.hid bW
  have GW := Lib.hid gW
  have PW := Lib.hid pW
  have hdW := Lib.hid (grown_below gW hB hlt)
  have zW : w.heap.size < W.heap.size := pW.lt
  have HLW := Lib.hid (HL.out.below hdW.out)
  have HKW := Lib.hid (HK.out.below hdW.out)
  clear eW bW gW pW
  go_enter Tryz.func75, Tryz.ntmps75
  go_wp2_with fail
  refine ((within_calls _ _ _ _).mono fun e w' h => h.true_ tk).mono ?_
  rintro e w1 ⟨rfl, rfl⟩
  go_wp2_with fail
  refine ((within_calls _ _ _ _).mono fun e w' h => h.true_ tn).mono ?_
  rintro e w1 ⟨rfl, rfl⟩
  go_wp2_with fail
  refine ((iTextOk_calls _ _ hs).mono fun e w' h => h.true_ ts).mono ?_
  rintro e w1 ⟨rfl, rfl⟩
  go_wp2
  rw [← EW.out]
  clear q0 f0 hne tl' t0' hgx hbx b3 b4 b6 b5 e6 lk ll
  have cP := PW.out.cell
  go_loopw [97] (fun i w' => ∃ k : Nat, k ≤ keys.length ∧ i = .int .i64 k ∧ Hid (KeysTo keys k) ∧ w' = W) (fun i _ => keys.length - (intOf i).toNat)
  case atStart => exact ⟨0, by omega, rfl, KeysTo.zero keys, rfl⟩
  case round =>
    obtain ⟨k, hk, rfl, HI, rfl⟩ := hrel
    by_cases hlt2 : k < keys.length
    · obtain ⟨ad, s1, rfl, hbl, hc1, hs1, hd1⟩ := row1_at HKW.out rfl hlt2
      have E1 := Lib.hid (getD_of_drop hd1.out)
      have j0 : (0 : Int) ≤ (k : Int) := by omega
      have j1 : (k : Int) < (keys.length : Int) := by omega
      have hz0 : k = 0 → wr.cell? ad = some (.string s1) := fun e => by subst e; simpa [Addr.add] using hc1
      by_cases t : TextOk s1
      · by_cases k0 : k = 0
        · subst k0
          have hz := hz0 rfl
          have HN := Lib.hid (HI.out.step (by rw [E1.out]; exact t) (fun j h => by omega))
          clear hz0 hc1
          go_wp2_with fail
          refine ((iTextOk_calls s1 _ hs1).mono fun e w' h => h.true_ t).mono ?_
          rintro e w1 ⟨rfl, rfl⟩
          go_wp2
          go_roundw
          case rel => exact ⟨1, by omega, rfl, HN, trivial⟩
          case measure => simp [intOf]; omega
        · obtain ⟨ad', s0, ea, hbl0, hc0, hs0, hd0'⟩ := row1_at HKW.out rfl (show k - 1 < keys.length by omega)
          injection ea with ea
          subst ea
          have E0 := Lib.hid (getD_of_drop hd0'.out)
          have j2 : (0 : Int) ≤ (k : Int) - 1 := by omega
          have j3 : (k : Int) - 1 < (keys.length : Int) := by omega
          have j4 : 0 < k := by omega
          have j5 : ((k : Int) - 1).toNat = k - 1 := by omega
          have j6 : IntKind.i64.wrap ((k : Int) - 1) = (k : Int) - 1 := IntWalk.i64_in _ (by omega)
          clear hz0
          by_cases t2 : Op.bytesLess s0.toList s1.toList = true
          · have HN := Lib.hid (HI.out.step (by rw [E1.out]; exact t) (fun j h => by
              obtain rfl : j = k - 1 := by omega
              rw [E0.out, E1.out]
              exact t2))
            go_wp2_with fail
            refine ((iTextOk_calls s1 _ hs1).mono fun e w' h => h.true_ t).mono ?_
            rintro e w1 ⟨rfl, rfl⟩
            go_wp2
            go_roundw
            case rel => exact ⟨k + 1, by omega, by go_num, HN, trivial⟩
            case measure => simp [intOf]; omega
          · have HN := Lib.hid (show ¬ (Form d (.mk kind n s keys list) ∧ ((valCnt (.mk kind n s keys list) : Nat) : Int) ≤ l) from fun h => t2 (by
              have := (HKF.out h.1).2 (k - 1) (by omega)
              rw [show k - 1 + 1 = k by omega, E0.out, E1.out] at this
              exact this))
            have t2' : Op.bytesLess s0.toList s1.toList = false := by simpa using t2
            clear t2
            go_wp2_with fail
            refine ((iTextOk_calls s1 _ hs1).mono fun e w' h => h.true_ t).mono ?_
            rintro e w1 ⟨rfl, rfl⟩
            go_wp2
            go_ret
            exact POk.no HN.out BW.out GW.out
      · have HN := Lib.hid (show ¬ (Form d (.mk kind n s keys list) ∧ ((valCnt (.mk kind n s keys list) : Nat) : Int) ≤ l) from fun h => t (by have := (HKF.out h.1).text k hlt2; rwa [E1.out] at this))
        by_cases k0 : k = 0
        · subst k0
          have hz := hz0 rfl
          clear hz0 hc1
          go_wp2_with fail
          refine ((iTextOk_calls s1 _ hs1).mono fun e w' h => h.false_ t).mono ?_
          rintro e w1 ⟨rfl, rfl⟩
          go_wp2
          go_ret
          exact POk.no HN.out BW.out GW.out
        · clear hz0
          go_wp2_with fail
          refine ((iTextOk_calls s1 _ hs1).mono fun e w' h => h.false_ t).mono ?_
          rintro e w1 ⟨rfl, rfl⟩
          go_wp2
          go_ret
          exact POk.no HN.out BW.out GW.out
    · have HKO := Lib.hid (show KeysOk keys from KeysTo.all (by have := HI.out; rwa [show k = keys.length by omega] at this))
      go_wp2
      clear cP
      go_loopw [123] (fun i w' => ∃ (k : Nat) (j : Int), k ≤ list.length ∧ i = .int .i64 k ∧ Hid (∀ y ∈ list.take k, Form (d - 1) y) ∧ 0 ≤ j ∧ j ≤ 60 ∧ Hid (j + (valsCnt (list.take k) : Int) = l - 1) ∧ Blk w' g 3 [.int .i64 j] ∧ w.grownBy w' (some g)) (fun i _ => list.length - (intOf i).toNat)
      case atStart => exact ⟨0, l - 1, by omega, rfl, (fun y hy => by simp at hy), by omega, by omega, (show (l - 1) + ((valsCnt (list.take 0) : Nat) : Int) = l - 1 by simp [valsCnt]), BW.out, GW.out⟩
      case round =>
        obtain ⟨k2, j, hk2, rfl, HT, hj0, hj1, HJ, hbg, hgr⟩ := hrel
        have hzr := hgr.size
        by_cases hlt3 : k2 < list.length
        · have hrd := grown_below hgr hB hlt
          obtain ⟨ad, v, x0, x1, x2, x3, x4, rfl, hbl, hv, hm, hd1, y0, y1, y2, y3, y4⟩ := row5_at (HL.out.below hrd) rfl hlt3
          obtain ⟨m0, m1, m2, A3, n3, q3, A4, n4, q4, es⟩ := valDs_shape hv
          simp only [List.cons.injEq, and_true] at es
          obtain ⟨rfl, rfl, rfl, rfl, rfl⟩ := es
          have HV := Lib.hid hv
          have HBG := Lib.hid hbg
          have HGR := Lib.hid hgr
          have hW := fun o1 => below_box wr o1
          clear hv hbg hgr hrd
          go_wp2_with fail
          refine (HIH.out v hm [_, _, _, _, _] _ B g (d - 1) j _ (by omega) (by omega) hB (HBG.out.alloc _) hj0 hj1 (HV.out.below ((hW _).mono (by omega)))).mono ?_
          rintro e w1 ⟨r, j', rfl, hr1, hr2, hb1, hg1⟩
          have HR1 := Lib.hid hr1
          have HR2 := Lib.hid hr2
          have HB1 := Lib.hid hb1
          have HG1 := Lib.hid (show w.grownBy w1 (some g) from HGR.out.trans (World.grownBy.trans (World.grownBy_alloc wr _ _) hg1))
          clear hr1 hr2 hb1 hg1 hW
          cases r with
          | true =>
            have h1 := HR1.out.1 rfl
            have h2 := HR2.out rfl
            have HT3 := Lib.hid ((take_all_succ hd1.out).2 ⟨HT.out, h1.1⟩)
            have HJ3 := Lib.hid (show j' + (valsCnt (list.take (k2 + 1)) : Int) = l - 1 by
              rw [valsCnt_take hd1.out, h2]
              have := HJ.out
              omega)
            have hp := cnt_pos v
            have hj0' : 0 ≤ j' := by omega
            have hj1' : j' ≤ 60 := by omega
            clear h1 h2 hp
            go_wp2
            go_roundw
            case rel => exact ⟨k2 + 1, j', by omega, by go_num, HT3, hj0', hj1', HJ3, HB1.out, HG1.out⟩
            case measure => simp [intOf]; omega
          | false =>
            have HN := Lib.hid (show ¬ (Form d (.mk kind n s keys list) ∧ ((valCnt (.mk kind n s keys list) : Nat) : Int) ≤ l) from fun h => absurd (HR1.out.2 ⟨(HF.out.1 h.1).2 v hm, by
              have h1 := HJ.out
              have h2 := h.2
              have h3 := valsCnt_take hd1.out
              have h4 := valsCnt_take_le list (k2 + 1)
              simp only [valCnt] at h2
              omega⟩) (by simp))
            go_wp2
            go_ret
            exact POk.no HN.out HB1.out HG1.out
        · have HE := Lib.hid (show Form d (.mk kind n s keys list) ∧ ((valCnt (.mk kind n s keys list) : Nat) : Int) ≤ l ∧ j = l - ((valCnt (.mk kind n s keys list) : Nat) : Int) by
            have h1 := HJ.out
            have h2 := HT.out
            rw [show k2 = list.length by omega, List.take_length] at h1 h2
            refine ⟨HHD.out HKO.out h2, ?_, ?_⟩
            · simp only [valCnt]; omega
            · simp only [valCnt]; omega)
          have HBG := Lib.hid hbg
          have HGR := Lib.hid hgr
          clear hbg hgr
          go_wp2
          go_ret
          exact ⟨true, j, rfl, ⟨fun _ => ⟨HE.out.1, HE.out.2.1⟩, fun _ => rfl⟩, fun _ => HE.out.2.2, HBG.out, HGR.out⟩
end Go.Proofs.YtppfgepoegicgaaGreatDoor
namespace Go.Proofs.YtppfgepoegicgaaGreatDoor
open Go Go.RowKit

set_option maxRecDepth 100000 in
set_option maxHeartbeats 8000000 in
theorem iOk_Hi (kind n : Int) (s : ByteArray) (keys : List ByteArray) (list : List Val) (A1 A2 : Option Addr) (c1 c2 g d B : Nat) (l : Int) (w : World) (hd : d ≤ 6) (hB : B ≤ g) (hg : Blk w g 3 [.int .i64 l]) (hl0 : 1 ≤ l) (hl1 : l ≤ 60) (hs : s.size ≤ 9223372036854775807)
    (hk : RD w B (.row 1 keys.length (strDs keys)) (.slice A1 keys.length c1)) (hl : RD w B (.row 5 list.length (valsDs list)) (.slice A2 list.length c2)) (hd0 : d ≠ 0) (hC : Clean kind n s keys list) (ih : ∀ x ∈ list, IOk x) (hc : 5 ≤ kind ∧ kind ≠ 6) :
    Calls Tryz.prog 75 #[.agg #[.int .i64 kind, .int .i64 n, .string s, .slice A1 keys.length c1, .slice A2 list.length c2], .int .i64 (7 - (d : Int)), .pointer (some ⟨g, 0, none⟩)] w (POk (Form d (.mk kind n s keys list)) (valCnt (.mk kind n s keys list)) l g w) := by
  have hgx := fun o u => grown_box w g o u
  have hbx := fun o u => blk_box hg o u
  have hlt := hg.lt
  have q0 : w.cell? ⟨g, 0, none⟩ = some (.int .i64 l) := hg.cell 0
  have f0 : w.frozen? ⟨g, 0, none⟩ = false := hg.frozen 0
  have hne : g ≠ w.heap.size := by omega
  have hn1 := hk.len
  have hn2 := hl.len
  have tl' : ¬ (l - 1 < 0) := by omega
  have t0' : ¬ ((6 : Int) < 7 - (d : Int)) := by omega
  have HIH := Lib.hid ih
  have HL := Lib.hid hl
  have HK := Lib.hid hk
  have HC := Lib.hid hC
  have HF := Lib.hid (form_iff hd0 (kind := kind) (n := n) (s := s) (keys := keys) (list := list))
  clear hg ih hl hk hC
  have n0 : (n != 0) = false := by have := HC.out.1 (by omega); simp [this]
  have ls : s.toList = [] := by rw [HC.out.2.1 (by omega), ByteArray.toList_eq]
  have lk : ¬ 0 < keys.length := by rw [HC.out.2.2.1 (by omega)]; simp
  have b3 : (kind != 3) = true := by simp; omega
  have b4 : (kind != 4) = true := by simp; omega
  have b6 : (kind != 6) = true := by simp; omega
  have e6 : (kind == 6) = false := by simp; omega
  have b5 : ¬ kind < 5 := by omega
  by_cases tk : (0 : Int) ≤ kind ∧ kind ≤ 6
  case neg =>
    have HN := Lib.hid (show ¬ (Form d (.mk kind n s keys list) ∧ ((valCnt (.mk kind n s keys list) : Nat) : Int) ≤ l) from fun h => tk (HF.out.1 h.1).1.2.1)
    clear hc
    go_enter Tryz.func75, Tryz.ntmps75
    go_wp2_with fail
    refine ((within_calls _ _ _ _).mono fun e w' h => h.false_ tk).mono ?_
    rintro e w1 ⟨rfl, rfl⟩
    go_wp2
    go_ret
    exact POk.no HN.out (hbx _ _) (hgx _ _)
  have tn : (-1000000 : Int) ≤ n ∧ n ≤ 1000000 := by have := HC.out.1 (by omega); omega
  have ts : TextOk s := by rw [HC.out.2.1 (by omega)]; exact textOk_nil
  have HKF := Lib.hid (show Form d (.mk kind n s keys list) → KeysOk keys from fun _ => by rw [HC.out.2.2.1 (by omega)]; exact ⟨fun k hk => absurd hk (by simp), fun i hi => absurd hi (by simp)⟩)
  have HHD := Lib.hid (show KeysOk keys → (∀ v ∈ list, Form (d - 1) v) → Form d (.mk kind n s keys list) from fun h1 h2 => HF.out.2 ⟨⟨HC.out, tk, tn, ts, fun h6 => absurd h6 (by omega)⟩, h2⟩)
  clear hc
  obtain ⟨W, eW⟩ : ∃ W, W = ((w.setCell ⟨g, 0, none⟩ (.int .i64 (l - 1))).alloc (.cells #[.int .i64 kind, .int .i64 n, .string s, .slice A1 keys.length c1, .slice A2 list.length c2] 32)) := ⟨_, rfl⟩
  have bW : Blk W g 3 [.int .i64 (l - 1)] := by rw [eW]; exact hbx _ _
  have gW : w.grownBy W (some g) := by rw [eW]; exact hgx _ _
  have pW : Blk W w.heap.size 32 [.int .i64 kind, .int .i64 n, .string s, .slice A1 keys.length c1, .slice A2 list.length c2] := by
    rw [eW]
    have := Blk.new (w.setCell ⟨g, 0, none⟩ (.int .i64 (l - 1))) 32 [.int .i64 kind, .int .i64 n, .string s, .slice A1 keys.length c1, .slice A2 list.length c2]
    rw [show (w.setCell ⟨g, 0, none⟩ (.int .i64 (l - 1))).heap.size = w.heap.size by simp [World.setCell]] at this
    exact this
  have EW := Lib.hid eW
  have BW := Lib.hid bW
  have GW := Lib.hid gW
  have PW := Lib.hid pW
  have hdW := Lib.hid (grown_below gW hB hlt)
  have zW : w.heap.size < W.heap.size := pW.lt
  have HLW := Lib.hid (HL.out.below hdW.out)
  have HKW := Lib.hid (HK.out.below hdW.out)
  clear eW bW gW pW
  go_enter Tryz.func75, Tryz.ntmps75
  go_wp2_with fail
  refine ((within_calls _ _ _ _).mono fun e w' h => h.true_ tk).mono ?_
  rintro e w1 ⟨rfl, rfl⟩
  go_wp2_with fail
  refine ((within_calls _ _ _ _).mono fun e w' h => h.true_ tn).mono ?_
  rintro e w1 ⟨rfl, rfl⟩
  go_wp2_with fail
  refine ((iTextOk_calls _ _ hs).mono fun e w' h => h.true_ ts).mono ?_
  rintro e w1 ⟨rfl, rfl⟩
  go_wp2
  rw [← EW.out]
  clear q0 f0 hne tl' t0' hgx hbx b3 b4 b6 b5 e6 lk
  have cP := PW.out.cell
  go_loopw [97] (fun i w' => ∃ k : Nat, k ≤ keys.length ∧ i = .int .i64 k ∧ Hid (KeysTo keys k) ∧ w' = W) (fun i _ => keys.length - (intOf i).toNat)
  case atStart => exact ⟨0, by omega, rfl, KeysTo.zero keys, rfl⟩
  case round =>
    obtain ⟨k, hk, rfl, HI, rfl⟩ := hrel
    by_cases hlt2 : k < keys.length
    · obtain ⟨ad, s1, rfl, hbl, hc1, hs1, hd1⟩ := row1_at HKW.out rfl hlt2
      have E1 := Lib.hid (getD_of_drop hd1.out)
      have j0 : (0 : Int) ≤ (k : Int) := by omega
      have j1 : (k : Int) < (keys.length : Int) := by omega
      have hz0 : k = 0 → wr.cell? ad = some (.string s1) := fun e => by subst e; simpa [Addr.add] using hc1
      by_cases t : TextOk s1
      · by_cases k0 : k = 0
        · subst k0
          have hz := hz0 rfl
          have HN := Lib.hid (HI.out.step (by rw [E1.out]; exact t) (fun j h => by omega))
          clear hz0 hc1
          go_wp2_with fail
          refine ((iTextOk_calls s1 _ hs1).mono fun e w' h => h.true_ t).mono ?_
          rintro e w1 ⟨rfl, rfl⟩
          go_wp2
          go_roundw
          case rel => exact ⟨1, by omega, rfl, HN, trivial⟩
          case measure => simp [intOf]; omega
        · obtain ⟨ad', s0, ea, hbl0, hc0, hs0, hd0'⟩ := row1_at HKW.out rfl (show k - 1 < keys.length by omega)
          injection ea with ea
          subst ea
          have E0 := Lib.hid (getD_of_drop hd0'.out)
          have j2 : (0 : Int) ≤ (k : Int) - 1 := by omega
          have j3 : (k : Int) - 1 < (keys.length : Int) := by omega
          have j4 : 0 < k := by omega
          have j5 : ((k : Int) - 1).toNat = k - 1 := by omega
          have j6 : IntKind.i64.wrap ((k : Int) - 1) = (k : Int) - 1 := IntWalk.i64_in _ (by omega)
          clear hz0
          by_cases t2 : Op.bytesLess s0.toList s1.toList = true
          · have HN := Lib.hid (HI.out.step (by rw [E1.out]; exact t) (fun j h => by
              obtain rfl : j = k - 1 := by omega
              rw [E0.out, E1.out]
              exact t2))
            go_wp2_with fail
            refine ((iTextOk_calls s1 _ hs1).mono fun e w' h => h.true_ t).mono ?_
            rintro e w1 ⟨rfl, rfl⟩
            go_wp2
            go_roundw
            case rel => exact ⟨k + 1, by omega, by go_num, HN, trivial⟩
            case measure => simp [intOf]; omega
          · have HN := Lib.hid (show ¬ (Form d (.mk kind n s keys list) ∧ ((valCnt (.mk kind n s keys list) : Nat) : Int) ≤ l) from fun h => t2 (by
              have := (HKF.out h.1).2 (k - 1) (by omega)
              rw [show k - 1 + 1 = k by omega, E0.out, E1.out] at this
              exact this))
            have t2' : Op.bytesLess s0.toList s1.toList = false := by simpa using t2
            clear t2
            go_wp2_with fail
            refine ((iTextOk_calls s1 _ hs1).mono fun e w' h => h.true_ t).mono ?_
            rintro e w1 ⟨rfl, rfl⟩
            go_wp2
            go_ret
            exact POk.no HN.out BW.out GW.out
      · have HN := Lib.hid (show ¬ (Form d (.mk kind n s keys list) ∧ ((valCnt (.mk kind n s keys list) : Nat) : Int) ≤ l) from fun h => t (by have := (HKF.out h.1).text k hlt2; rwa [E1.out] at this))
        by_cases k0 : k = 0
        · subst k0
          have hz := hz0 rfl
          clear hz0 hc1
          go_wp2_with fail
          refine ((iTextOk_calls s1 _ hs1).mono fun e w' h => h.false_ t).mono ?_
          rintro e w1 ⟨rfl, rfl⟩
          go_wp2
          go_ret
          exact POk.no HN.out BW.out GW.out
        · clear hz0
          go_wp2_with fail
          refine ((iTextOk_calls s1 _ hs1).mono fun e w' h => h.false_ t).mono ?_
          rintro e w1 ⟨rfl, rfl⟩
          go_wp2
          go_ret
          exact POk.no HN.out BW.out GW.out
    · have HKO := Lib.hid (show KeysOk keys from KeysTo.all (by have := HI.out; rwa [show k = keys.length by omega] at this))
      go_wp2
      clear cP
      go_loopw [123] (fun i w' => ∃ (k : Nat) (j : Int), k ≤ list.length ∧ i = .int .i64 k ∧ Hid (∀ y ∈ list.take k, Form (d - 1) y) ∧ 0 ≤ j ∧ j ≤ 60 ∧ Hid (j + (valsCnt (list.take k) : Int) = l - 1) ∧ Blk w' g 3 [.int .i64 j] ∧ w.grownBy w' (some g)) (fun i _ => list.length - (intOf i).toNat)
      case atStart => exact ⟨0, l - 1, by omega, rfl, (fun y hy => by simp at hy), by omega, by omega, (show (l - 1) + ((valsCnt (list.take 0) : Nat) : Int) = l - 1 by simp [valsCnt]), BW.out, GW.out⟩
      case round =>
        obtain ⟨k2, j, hk2, rfl, HT, hj0, hj1, HJ, hbg, hgr⟩ := hrel
        have hzr := hgr.size
        by_cases hlt3 : k2 < list.length
        · have hrd := grown_below hgr hB hlt
          obtain ⟨ad, v, x0, x1, x2, x3, x4, rfl, hbl, hv, hm, hd1, y0, y1, y2, y3, y4⟩ := row5_at (HL.out.below hrd) rfl hlt3
          obtain ⟨m0, m1, m2, A3, n3, q3, A4, n4, q4, es⟩ := valDs_shape hv
          simp only [List.cons.injEq, and_true] at es
          obtain ⟨rfl, rfl, rfl, rfl, rfl⟩ := es
          have HV := Lib.hid hv
          have HBG := Lib.hid hbg
          have HGR := Lib.hid hgr
          have hW := fun o1 => below_box wr o1
          clear hv hbg hgr hrd
          go_wp2_with fail
          refine (HIH.out v hm [_, _, _, _, _] _ B g (d - 1) j _ (by omega) (by omega) hB (HBG.out.alloc _) hj0 hj1 (HV.out.below ((hW _).mono (by omega)))).mono ?_
          rintro e w1 ⟨r, j', rfl, hr1, hr2, hb1, hg1⟩
          have HR1 := Lib.hid hr1
          have HR2 := Lib.hid hr2
          have HB1 := Lib.hid hb1
          have HG1 := Lib.hid (show w.grownBy w1 (some g) from HGR.out.trans (World.grownBy.trans (World.grownBy_alloc wr _ _) hg1))
          clear hr1 hr2 hb1 hg1 hW
          cases r with
          | true =>
            have h1 := HR1.out.1 rfl
            have h2 := HR2.out rfl
            have HT3 := Lib.hid ((take_all_succ hd1.out).2 ⟨HT.out, h1.1⟩)
            have HJ3 := Lib.hid (show j' + (valsCnt (list.take (k2 + 1)) : Int) = l - 1 by
              rw [valsCnt_take hd1.out, h2]
              have := HJ.out
              omega)
            have hp := cnt_pos v
            have hj0' : 0 ≤ j' := by omega
            have hj1' : j' ≤ 60 := by omega
            clear h1 h2 hp
            go_wp2
            go_roundw
            case rel => exact ⟨k2 + 1, j', by omega, by go_num, HT3, hj0', hj1', HJ3, HB1.out, HG1.out⟩
            case measure => simp [intOf]; omega
          | false =>
            have HN := Lib.hid (show ¬ (Form d (.mk kind n s keys list) ∧ ((valCnt (.mk kind n s keys list) : Nat) : Int) ≤ l) from fun h => absurd (HR1.out.2 ⟨(HF.out.1 h.1).2 v hm, by
              have h1 := HJ.out
              have h2 := h.2
              have h3 := valsCnt_take hd1.out
              have h4 := valsCnt_take_le list (k2 + 1)
              simp only [valCnt] at h2
              omega⟩) (by simp))
            go_wp2
            go_ret
            exact POk.no HN.out HB1.out HG1.out
        · have HE := Lib.hid (show Form d (.mk kind n s keys list) ∧ ((valCnt (.mk kind n s keys list) : Nat) : Int) ≤ l ∧ j = l - ((valCnt (.mk kind n s keys list) : Nat) : Int) by
            have h1 := HJ.out
            have h2 := HT.out
            rw [show k2 = list.length by omega, List.take_length] at h1 h2
            refine ⟨HHD.out HKO.out h2, ?_, ?_⟩
            · simp only [valCnt]; omega
            · simp only [valCnt]; omega)
          have HBG := Lib.hid hbg
          have HGR := Lib.hid hgr
          clear hbg hgr
          go_wp2
          go_ret
          exact ⟨true, j, rfl, ⟨fun _ => ⟨HE.out.1, HE.out.2.1⟩, fun _ => rfl⟩, fun _ => HE.out.2.2, HBG.out, HGR.out⟩
end Go.Proofs.YtppfgepoegicgaaGreatDoor
namespace Go.Proofs.YtppfgepoegicgaaGreatDoor
open Go Go.RowKit

theorem iOk_calls : ∀ v, IOk v := Val.ind fun kind n s keys list ih => by
  intro us w B g d l di hdi hd hB hg hl0 hl1 h
  obtain ⟨_, _, _, _, _, A1, c1, A2, c2, e, rfl, hs, hk, hl⟩ := valDs_open h
  injection e with e1 e2 e3 e4 e5
  subst e1; subst e2; subst e3; subst e4; subst e5; subst hdi
  by_cases hbad : l = 0 ∨ d = 0 ∨ ¬ Clean kind n s keys list
  · exact iOk_bad kind n s keys list A1 A2 c1 c2 g d l w hd hg hl0 hl1 hk.len hl.len hbad
  · have hd0 : d ≠ 0 := fun e => hbad (.inr (.inl e))
    have hC : Clean kind n s keys list := Classical.byContradiction fun e => hbad (.inr (.inr e))
    have hl2 : 1 ≤ l := by have : l ≠ 0 := fun e => hbad (.inl e); omega
    by_cases h3 : kind = 3
    · exact iOk_3 kind n s keys list A1 A2 c1 c2 g d B l w hd hB hg hl2 hl1 hs hk hl hd0 hC ih h3
    by_cases h4 : kind = 4
    · exact iOk_4 kind n s keys list A1 A2 c1 c2 g d B l w hd hB hg hl2 hl1 hs hk hl hd0 hC ih h4
    by_cases h6 : kind = 6
    · exact iOk_6 kind n s keys list A1 A2 c1 c2 g d B l w hd hB hg hl2 hl1 hs hk hl hd0 hC ih h6
    by_cases h5 : kind < 5
    · exact iOk_Lo kind n s keys list A1 A2 c1 c2 g d B l w hd hB hg hl2 hl1 hs hk hl hd0 hC ih ⟨h5, h3, h4⟩
    · exact iOk_Hi kind n s keys list A1 A2 c1 c2 g d B l w hd hB hg hl2 hl1 hs hk hl hd0 hC ih ⟨by omega, h6⟩

set_option maxHeartbeats 2000000 in
theorem iValOk_calls (v : Val) (us : List Value) (w : World) (B : Nat) (hB : B ≤ w.heap.size) (h : RDv w B (valDs v) us) :
    Calls Tryz.prog 63 #[.agg us.toArray] w (PBool (ValOk v) w) := by
  obtain ⟨a0, a1, a2, A3, n3, q3, A4, n4, q4, rfl⟩ := valDs_shape h
  have H := Lib.hid h
  clear h
  have hbx := fun o1 o2 => below_box2 w o1 o2
  have hbk : ∀ o1, Blk ((w.alloc o1).alloc (.cells #[.int .i64 60] 3)) (w.heap.size + 1) 3 [.int .i64 60] := fun o1 => by
    have := Blk.new (w.alloc o1) 3 [.int .i64 60]
    rwa [show (w.alloc o1).heap.size = w.heap.size + 1 by simp] at this
  go_enter Tryz.func63, Tryz.ntmps63
  go_wp2_with fail
  refine (iOk_calls v [_, _, _, _, _] _ B (w.heap.size + 1) 6 60 1 (by omega) (by omega) (by omega) (hbk _) (by omega) (by omega) (H.out.below ((hbx _ _).mono hB))).mono ?_
  rintro e w1 ⟨r, j', rfl, hr1, hr2, hb1, hg1⟩
  have HR := Lib.hid hr1
  have HB := Lib.hid ((hbx _ _).trans (grown_below hg1 (Nat.le_add_right _ 1) (by simp)))
  clear hr1 hr2 hb1 hg1
  go_wp2
  go_ret
  exact ⟨r, rfl, HR.out.trans ⟨fun h => ⟨h.1, by have := h.2; omega⟩, fun h => ⟨h.1, by have := h.2; omega⟩⟩, HB.out⟩
end Go.Proofs.YtppfgepoegicgaaGreatDoor
