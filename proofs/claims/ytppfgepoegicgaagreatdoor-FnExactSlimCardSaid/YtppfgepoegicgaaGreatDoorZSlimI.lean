/- Slim: the program's slim. -/
import Derived.Test.YtppfgepoegicgaaGreatDoorZSlimI0
import Derived.Test.YtppfgepoegicgaaGreatDoorZTwoI
import Derived.Test.YtppfgepoegicgaaGreatDoorGw
import Derived.Test.YtppfgepoegicgaaGreatDoorGx
import Derived.Deep.RegionHeld3
import Derived.Deep.DeepCutAuto
namespace Go.Proofs.YtppfgepoegicgaaGreatDoor
open Go Go.RowKit

/-- What pair gave: a tree of new blocks, or none. -/
def Two (r : Option Val) (L : Nat) (w : World) (b : Bool) (cs : List Value) : Prop :=
  (b = true ∧ ∃ u fp, r = some u ∧ ODv w (valDs u) cs fp ∧ ∀ q ∈ fp, L ≤ q) ∨ (b = false ∧ r = none)
theorem Two.keep {r : Option Val} {L L' : Nat} {w w' : World} {b : Bool} {cs : List Value} (h : Two r L w b cs) (hL : L' ≤ L) (hk : ∀ q, L ≤ q → q < w.heap.size → w'.heap[q]? = w.heap[q]?) : Two r L' w' b cs := by
  rcases h with ⟨e, u, fp, h1, h2, h3⟩ | h
  · have h4 := ODv.lt _ _ _ h2
    exact .inl ⟨e, u, fp, h1, ODv.keep _ _ _ (fun q hq => hk q (h3 q hq) (h4 q hq)) h2, fun q hq => Nat.le_trans hL (h3 q hq)⟩
  · exact .inr h
theorem pair_at {W X : World} {B : Nat} {kind : Int} {a b : Val} {ua ub : List Value} (hB : B ≤ W.heap.size) (ha : RDv W B (valDs a) ua) (hb : RDv W B (valDs b) ub) (oa : ValOk a) (ob : ValOk b) (hkind : kind = 9 ∨ kind = 10 ∨ kind = 11) (hX : Below W.heap.size W X) :
    Calls Tryz.prog 44 #[.int .i64 kind, .agg ua.toArray, .agg ub.toArray] X fun e w' => ∃ (d0 d1 : Int) (d2 : ByteArray) (A9 : Option Addr) (n9 c9 : Nat) (A10 : Option Addr) (n10 c10 : Nat) (r : Bool), e = .returned (.tuple #[.agg #[.int .i64 d0, .int .i64 d1, .string d2, .slice A9 n9 c9, .slice A10 n10 c10], .bool r]) ∧ Two (twoV kind a b) X.heap.size w' r [.int .i64 d0, .int .i64 d1, .string d2, .slice A9 n9 c9, .slice A10 n10 c10] ∧ Below X.heap.size X w' := by
  refine (iTwo_calls kind a b ua ub X B (Nat.le_trans hB hX.size) (ha.below (hX.mono hB)) (hb.below (hX.mono hB)) oa ob hkind).mono ?_
  intro e w' hP
  obtain ⟨u, d0, d1, d2, A9, n9, c9, A10, n10, c10, fp, hu, rfl, HO, HF, hb⟩ | ⟨hn, rfl, hb⟩ := hP.split
  · exact ⟨_, _, _, _, _, _, _, _, _, true, rfl, .inl ⟨rfl, u, fp, hu, HO.out, fun q hq => (HF.out.2 q hq).1⟩, hb⟩
  · exact ⟨_, _, _, _, _, _, _, _, _, false, rfl, .inr ⟨rfl, hn⟩, hb⟩
set_option maxRecDepth 100000 in
set_option maxHeartbeats 16000000 in
theorem slimI_of (x : Filt) (ih : ∀ kind n s v kids, x = .mk kind n s v kids → ∀ y ∈ kids, SlimI 19 y) : SlimI 19 x := by
  intro us w B d hB h hF
  obtain ⟨kind, n, s, v, kids, f3, f4, f5, A6, n6, q6, A7, n7, q7, A8, q8, rfl, rfl, hs, hv, hk⟩ := filtDs_all h
  have IH := Lib.hid (ih _ _ _ _ _ rfl)
  obtain ⟨g1, g2, g3⟩ := (fform_iff (fform_pos hF)).1 hF
  have hkl : kids.length ≤ 3 := by have h1 := g1.1; have h2 := kidsOf_le kind; omega
  have HKO := Lib.hid g1.1
  have HFK := Lib.hid g2
  have HMF := Lib.hid (mids_form hF)
  have HK := Lib.hid hk
  have HV := Lib.hid hv
  obtain ⟨iF, hiF, zF0, zF1, zF2⟩ := info_parts' Tryz.info_Filt
  obtain ⟨w3, EW⟩ : ∃ W : World, W = ((w.alloc (.cells #[.int .i64 kind, .int .i64 n, .string s, .int .i64 f3, .int .i64 f4, .string f5, .slice A6 n6 q6, .slice A7 n7 q7, .slice A8 kids.length q8] 35)).alloc (.cells #[.int .i64 0, .int .i64 0, .string ⟨#[]⟩, .int .i64 0, .int .i64 0, .string ⟨#[]⟩, .slice none 0 0, .slice none 0 0, .slice none 0 0] 35)).alloc (.cells #[.int .i64 kind, .int .i64 n, .string s, .int .i64 f3, .int .i64 f4, .string f5, .slice A6 n6 q6, .slice A7 n7 q7, .slice A8 kids.length q8] 35) := ⟨_, rfl⟩
  obtain ⟨bP0, bO0, hz3, hi0⟩ := IInv.start (w := w) (w3 := w3) (B := B) (us := [.int .i64 kind, .int .i64 n, .string s, .int .i64 f3, .int .i64 f4, .string f5, .slice A6 n6 q6, .slice A7 n7 q7, .slice A8 kids.length q8]) (hd := [.int .i64 kind, .int .i64 n, .string s, .int .i64 f3, .int .i64 f4, .string f5, .slice A6 n6 q6, .slice A7 n7 q7]) (c8 := .slice A8 kids.length q8) rfl EW
  have HI0 := Lib.hid hi0
  have HE := Lib.hid EW
  clear ih h hF hk hv g1 g2 g3 EW hi0
  go_enter Tryz.func19, Tryz.ntmps19
  go_upto_region 2 with fail
  rw [← HE.out]
  obtain ⟨cP, fP⟩ := blk_rules bP0
  obtain ⟨cO, fO⟩ := blk_rules bO0
  have bOa := bO0.alloc (.cells #[] 35)
  obtain ⟨cOa, fOa⟩ := blk_rules bOa
  clear bP0 bO0 bOa
  go_upto_region 3 with fail
  try rw [hz3]
  obtain ⟨w4, ew4⟩ : ∃ W : World, W = (w3.setCell ⟨w.heap.size + 1 + 1, 8, none⟩ (.slice (some ⟨w.heap.size + 3, 0, none⟩) 0 0)).alloc (.cells #[] 35) := ⟨_, rfl⟩
  have HI4 := Lib.hid (show IInv w B _ _ [] 0 _ 0 w4 from by rw [ew4, ← World.setCell_alloc_past _ _ _ _ (by omega)]; exact HI0.out)
  rw [← ew4]
  clear ew4 cP fP cO fO cOa fOa HI0
  have b4 := HI4.out.bP
  obtain ⟨cP, fP⟩ := blk_rules b4
  clear b4
  go_wp2
  go_loopw [16] (fun i w' => ∃ (k : Nat) (A : Option Addr) (c : Nat), k ≤ kids.length ∧ i = .int .i64 k ∧ Hid (IInv w B [.int .i64 kind, .int .i64 n, .string s, .int .i64 f3, .int .i64 f4, .string f5, .slice A6 n6 q6, .slice A7 n7 q7, .slice A8 kids.length q8] [.int .i64 kind, .int .i64 n, .string s, .int .i64 f3, .int .i64 f4, .string f5, .slice A6 n6 q6, .slice A7 n7 q7] ((mids kind kids).take k) k A c w')) (fun i _ => kids.length - (intOf i).toNat)
  case atStart => exact ⟨0, _, _, by omega, rfl, HI4⟩
  case round =>
    obtain ⟨k, A, qc, hk, rfl, HI⟩ := hrel
    clear cP fP
    obtain ⟨cP, fP⟩ := blk_rules HI.out.bP
    obtain ⟨cO, fO⟩ := blk_rules HI.out.bO
    have hzr := HI.out.bel.size
    have hBr : B ≤ wr.heap.size := by omega
    have hOl := HI.out.bO.lt
    by_cases hlt : k < kids.length
    · obtain ⟨ad, y, x0, x1, x2, x3, x4, x5, x6, x7, x8, rfl, hbl, hy, hm, hd, z0, z1, z2, z3, z4, z5, z6, z7, z8⟩ := row9_at (HK.out.upto (HI.out.bel.mono hB) (Nat.le_refl _)) rfl hlt
      obtain ⟨d0, d1, d2, d3, d4, d5, dA, dB, dC, dD, dE, dG, dH, dI, dJ, ec⟩ := filtDs_shape hy
      simp only [List.cons.injEq, and_true] at ec
      obtain ⟨rfl, rfl, rfl, rfl, rfl, rfl, rfl, rfl, rfl⟩ := ec
      have HKX := Lib.hid (drop_at hd.out)
      have HFY := Lib.hid (HFK.out y hm)
      have HY := Lib.hid hy
      have HIY := Lib.hid (IH.out y hm)
      have j0 : (0 : Int) ≤ (k : Int) := by omega
      have j1 : (k : Int) < (kids.length : Int) := by omega
      clear hy hm hd
      go_upto_region 6 with fail
      obtain ⟨w5, e5⟩ : ∃ W : World, W = wr.alloc (.cells #[.int .i64 d0, .int .i64 d1, .string d2, .int .i64 d3, .int .i64 d4, .string d5, .slice dA dB dC, .slice dD dE dG, .slice dH dI dJ] 35) := ⟨_, rfl⟩
      have hb5 : Below wr.heap.size wr w5 := by rw [e5]; exact below_box _ _
      have hz5 : w5.heap.size = wr.heap.size + 1 := by rw [e5]; simp
      have HB5 := Lib.hid hb5
      have HX5 := Lib.hid (show Blk w5 wr.heap.size 35 [.int .i64 d0, .int .i64 d1, .string d2, .int .i64 d3, .int .i64 d4, .string d5, .slice dA dB dC, .slice dD dE dG, .slice dH dI dJ] from by rw [e5]; exact Blk.new _ _ _)
      have HP5 := Lib.hid (HI.out.bP.below hb5)
      rw [← e5]
      clear e5 hb5 cP fP cO fO z0 z1 z2 z3 z4 z5 z6 z7 z8
      obtain ⟨cP, fP⟩ := blk_rules HP5.out
      obtain ⟨cX, fX⟩ := blk_rules HX5.out
      go_wp2_with fail
      refine (HIY.out [_, _, _, _, _, _, _, _, _] w5 B (d - 1) (by omega) (HY.out.below (HB5.out.mono hBr)) HFY.out).mono ?_
      rintro e w6 ⟨zs, rfl, hz6, hb6⟩
      obtain ⟨m0, m1, m2, m3, m4, m5, mA, mB, mC, mD, mE, mG, mH, mI, mJ, rfl⟩ := filtDs_shape hz6.rd
      obtain ⟨w7, e7⟩ : ∃ W : World, W = w6.alloc (.cells #[.int .i64 m0, .int .i64 m1, .string m2, .int .i64 m3, .int .i64 m4, .string m5, .slice mA mB mC, .slice mD mE mG, .slice mH mI mJ] 35) := ⟨_, rfl⟩
      have hb7 : Below w6.heap.size w6 w7 := by rw [e7]; exact below_box _ _
      have h56 := hb6.size
      have HB7 := Lib.hid (show Below wr.heap.size wr w7 from HB5.out.trans ((hb6.mono (by omega)).trans (hb7.mono (by omega))))
      have HZ7 := Lib.hid (show RT (fun b => b < B ∨ wr.heap.size ≤ b) w7 (filtDs (slimF y)) _ from (hz6.below hb7).to (Nat.le_refl _) fun b _ hs => ⟨hs.elim .inl fun h => .inr (by omega), rfl⟩)
      have HX7 := Lib.hid (show Blk w7 w6.heap.size 35 [.int .i64 m0, .int .i64 m1, .string m2, .int .i64 m3, .int .i64 m4, .string m5, .slice mA mB mC, .slice mD mE mG, .slice mH mI mJ] from by rw [e7]; exact Blk.new _ _ _)
      have HY7 := Lib.hid ((HX5.out.below hb6).below hb7)
      have HP7 := Lib.hid (HI.out.bP.below HB7.out)
      have HO7 := Lib.hid (HI.out.bO.below HB7.out)
      clear hz6 hb6 hb7 cP fP cX fX
      go_upto_region 7 with fail
      rw [← e7]
      clear e7
      obtain ⟨cP, fP⟩ := blk_rules HP7.out
      obtain ⟨cX, fX⟩ := blk_rules HX7.out
      obtain ⟨cO, fO⟩ := blk_rules HO7.out
      obtain ⟨uk, hown, hrt⟩ := HI.out.row
      have HOW := Lib.hid hown
      have HRT := Lib.hid hrt
      clear hown hrt
      by_cases h20 : kind = 20
      · subst h20
        by_cases hk0 : k = 0
        · subst hk0
          go_wp2_with fail
          refine (evLooks_calls (slimF y) [_, _, _, _, _, _, _, _, _] w7 w7.heap.size (d - 1) (Nat.le_refl _) HZ7.out.rd (slimF_form y _ HFY.out)).mono ?_
          rintro e w8 ⟨r, rfl, hr, hb8⟩
          have HB8 := Lib.hid (HB7.out.trans (hb8.mono HB7.out.size))
          have HZ8 := Lib.hid (HZ7.out.below hb8)
          have HX8 := Lib.hid (HX7.out.below hb8)
          have HY8 := Lib.hid (HY7.out.below hb8)
          have HP8 := Lib.hid (HP7.out.below hb8)
          have HO8 := Lib.hid (HO7.out.below hb8)
          have hz8 := hb8.size
          clear hb8 cP fP cX fX cO fO
          obtain ⟨cP, fP⟩ := blk_rules HP8.out
          obtain ⟨cX, fX⟩ := blk_rules HX8.out
          obtain ⟨cY, fY⟩ := blk_rules HY8.out
          obtain ⟨cO, fO⟩ := blk_rules HO8.out
          cases r with
          | true =>
            have HEV := Lib.hid (show ev tabLooks (slimF y) = true from hr.1 rfl)
            clear hr
            have HM := Lib.hid (show (mids 20 kids)[0]? = some (slimF y) from by rw [mids_at HKX.out, if_neg (fun e => by have h1 := HEV.out; rw [e.2.2] at h1; cases h1)])
            have HOA := Lib.hid (World.ownsRow.alloc (owns_below HOW.out HB8.out) (.cells #[.int .i64 m0, .int .i64 m1, .string m2, .int .i64 m3, .int .i64 m4, .string m5, .slice mA mB mC, .slice mD mE mG, .slice mH mI mJ] 35))
            have HRD := Lib.hid (boxed_reads w8 35 [.int .i64 m0, .int .i64 m1, .string m2, .int .i64 m3, .int .i64 m4, .string m5, .slice mA mB mC, .slice mD mE mG, .slice mH mI mJ] 9 rfl)
            have HON := Lib.hid (RDv.one _ _ HZ8.out)
            have hbase : w.heap.size + 3 ≤ (w8.alloc (.cells #[.int .i64 m0, .int .i64 m1, .string m2, .int .i64 m3, .int .i64 m4, .string m5, .slice mA mB mC, .slice mD mE mG, .slice mH mI mJ] 35)).heap.size := by have := HB8.out.size; simp; omega
            have HOB := Lib.hid (HO8.out.alloc (.cells #[.int .i64 m0, .int .i64 m1, .string m2, .int .i64 m3, .int .i64 m4, .string m5, .slice mA mB mC, .slice mD mE mG, .slice mH mI mJ] 35))
            obtain ⟨cOb, fOb⟩ := blk_rules HOB.out
            go_upto_region 10 with (at_builtin; go_loud (refine wpList_append_reads _ rfl _ _ 33 rfl (w.heap.size + 3) 35 iF _ 9 136 Tryz.underlying33 hiF zF0 zF1 zF2 rfl (by decide) _ 0 uk (by rfl) HOA.out _ 1 1 (w8.heap.size + 1) [.int .i64 m0, .int .i64 m1, .string m2, .int .i64 m3, .int .i64 m4, .string m5, .slice mA mB mC, .slice mD mE mG, .slice mH mI mJ] (by rfl) HRD.out HON.out (by unfold maxLen; omega) (by omega) hbase ?_; intro v2 w9 hown hg hat; obtain ⟨A9, c9, rfl, hbo, hi9⟩ := HI.out.step rfl hB HOW.out HRT.out HB8.out HZ8.out hown hg hat; have HBO9 := Lib.hid hbo; have HI9 := Lib.hid hi9; clear hbo hi9 hown hg hat; try clear cO fO; try clear cOb fOb; obtain ⟨cO, fO⟩ := blk_rules HBO9.out))
            have HT9 := Lib.hid (show IInv w B _ _ ((mids 20 kids).take (0 + 1)) (0 + 1) A9 c9 (w9.setCell ⟨w.heap.size + 1 + 1, 8, none⟩ (.slice A9 (0 + 1) c9)) from by rw [take_at HM.out]; exact HI9.out)
            go_wp2
            go_roundw
            case rel => exact ⟨0 + 1, A9, c9, by omega, by go_num, HT9⟩
            case measure => simp [intOf]; omega
          | false =>
            have HEV := Lib.hid (show ev tabLooks (slimF y) = false from by cases hq : ev tabLooks (slimF y) with | false => rfl | true => have h1 := hr.2 hq; cases h1)
            clear hr
            have HM := Lib.hid (show (mids 20 kids)[0]? = some y from by rw [mids_at HKX.out, if_pos ⟨rfl, rfl, HEV.out⟩])
            go_upto_region 9 with fail
            obtain ⟨w8', e8⟩ : ∃ W : World, W = setAll w8 w6.heap.size 0 [.int .i64 d0, .int .i64 d1, .string d2, .int .i64 d3, .int .i64 d4, .string d5, .slice dA dB dC, .slice dD dE dG, .slice dH dI dJ] := ⟨_, rfl⟩
            have HB8' := Lib.hid (show Below wr.heap.size wr w8' from by rw [e8]; exact setAll_below _ (by omega) HB8.out)
            have HX8' := Lib.hid (show Blk w8' w6.heap.size 35 [.int .i64 d0, .int .i64 d1, .string d2, .int .i64 d3, .int .i64 d4, .string d5, .slice dA dB dC, .slice dD dE dG, .slice dH dI dJ] from by rw [e8]; have h1 := Blk.setAll [.int .i64 d0, .int .i64 d1, .string d2, .int .i64 d3, .int .i64 d4, .string d5, .slice dA dB dC, .slice dD dE dG, .slice dH dI dJ] (pre := []) (rest := []) (old := [.int .i64 m0, .int .i64 m1, .string m2, .int .i64 m3, .int .i64 m4, .string m5, .slice mA mB mC, .slice mD mE mG, .slice mH mI mJ]) rfl (by simpa using HX8.out); simpa using h1)
            have HO8' := Lib.hid (show Blk w8' (w.heap.size + 1 + 1) 35 _ from by rw [e8]; exact HO8.out.same (setAll_other _ _ _ _ _ (by omega)))
            have HZ8' := Lib.hid (show RT (fun b => b < B ∨ wr.heap.size ≤ b) w8' (filtDs y) [.int .i64 d0, .int .i64 d1, .string d2, .int .i64 d3, .int .i64 d4, .string d5, .slice dA dB dC, .slice dD dE dG, .slice dH dI dJ] from RT.of_rd HY.out hBr (HB8'.out.mono hBr) fun b hb => .inl hb)
            rw [show (((((((((w8.setCell ⟨w6.heap.size, 0, none⟩ (.int .i64 d0)).setCell ⟨w6.heap.size, 1, none⟩ (.int .i64 d1)).setCell ⟨w6.heap.size, 2, none⟩ (.string d2)).setCell ⟨w6.heap.size, 3, none⟩ (.int .i64 d3)).setCell ⟨w6.heap.size, 4, none⟩ (.int .i64 d4)).setCell ⟨w6.heap.size, 5, none⟩ (.string d5)).setCell ⟨w6.heap.size, 6, none⟩ (.slice dA dB dC)).setCell ⟨w6.heap.size, 7, none⟩ (.slice dD dE dG)).setCell ⟨w6.heap.size, 8, none⟩ (.slice dH dI dJ)) = w8' from by rw [e8]; rfl]
            clear e8 cX fX cO fO cY fY cP fP
            obtain ⟨cX, fX⟩ := blk_rules HX8'.out
            obtain ⟨cO, fO⟩ := blk_rules HO8'.out
            have HOA := Lib.hid (World.ownsRow.alloc (owns_below HOW.out HB8'.out) (.cells #[.int .i64 d0, .int .i64 d1, .string d2, .int .i64 d3, .int .i64 d4, .string d5, .slice dA dB dC, .slice dD dE dG, .slice dH dI dJ] 35))
            have HRD := Lib.hid (boxed_reads w8' 35 [.int .i64 d0, .int .i64 d1, .string d2, .int .i64 d3, .int .i64 d4, .string d5, .slice dA dB dC, .slice dD dE dG, .slice dH dI dJ] 9 rfl)
            have HON := Lib.hid (RDv.one _ _ HZ8'.out)
            have hbase : w.heap.size + 3 ≤ (w8'.alloc (.cells #[.int .i64 d0, .int .i64 d1, .string d2, .int .i64 d3, .int .i64 d4, .string d5, .slice dA dB dC, .slice dD dE dG, .slice dH dI dJ] 35)).heap.size := by have := HB8'.out.size; simp; omega
            have HOB := Lib.hid (HO8'.out.alloc (.cells #[.int .i64 d0, .int .i64 d1, .string d2, .int .i64 d3, .int .i64 d4, .string d5, .slice dA dB dC, .slice dD dE dG, .slice dH dI dJ] 35))
            obtain ⟨cOb, fOb⟩ := blk_rules HOB.out
            go_upto_region 10 with (at_builtin; go_loud (refine wpList_append_reads _ rfl _ _ 33 rfl (w.heap.size + 3) 35 iF _ 9 136 Tryz.underlying33 hiF zF0 zF1 zF2 rfl (by decide) _ 0 uk (by rfl) HOA.out _ 1 1 (w8'.heap.size + 1) [.int .i64 d0, .int .i64 d1, .string d2, .int .i64 d3, .int .i64 d4, .string d5, .slice dA dB dC, .slice dD dE dG, .slice dH dI dJ] (by rfl) HRD.out HON.out (by unfold maxLen; omega) (by omega) hbase ?_; intro v2 w9 hown hg hat; obtain ⟨A9, c9, rfl, hbo, hi9⟩ := HI.out.step rfl hB HOW.out HRT.out HB8'.out HZ8'.out hown hg hat; have HBO9 := Lib.hid hbo; have HI9 := Lib.hid hi9; clear hbo hi9 hown hg hat; try clear cO fO; try clear cOb fOb; obtain ⟨cO, fO⟩ := blk_rules HBO9.out))
            have HT9 := Lib.hid (show IInv w B _ _ ((mids 20 kids).take (0 + 1)) (0 + 1) A9 c9 (w9.setCell ⟨w.heap.size + 1 + 1, 8, none⟩ (.slice A9 (0 + 1) c9)) from by rw [take_at HM.out]; exact HI9.out)
            go_wp2
            go_roundw
            case rel => exact ⟨0 + 1, A9, c9, by omega, by go_num, HT9⟩
            case measure => simp [intOf]; omega
        · have HM := Lib.hid (show (mids 20 kids)[k]? = some (slimF y) from by rw [mids_at HKX.out, if_neg (fun e => hk0 e.2.1)])
          have HOA := Lib.hid (World.ownsRow.alloc (owns_below HOW.out HB7.out) (.cells #[.int .i64 m0, .int .i64 m1, .string m2, .int .i64 m3, .int .i64 m4, .string m5, .slice mA mB mC, .slice mD mE mG, .slice mH mI mJ] 35))
          have HRD := Lib.hid (boxed_reads w7 35 [.int .i64 m0, .int .i64 m1, .string m2, .int .i64 m3, .int .i64 m4, .string m5, .slice mA mB mC, .slice mD mE mG, .slice mH mI mJ] 9 rfl)
          have HON := Lib.hid (RDv.one _ _ HZ7.out)
          have hbase : w.heap.size + 3 ≤ (w7.alloc (.cells #[.int .i64 m0, .int .i64 m1, .string m2, .int .i64 m3, .int .i64 m4, .string m5, .slice mA mB mC, .slice mD mE mG, .slice mH mI mJ] 35)).heap.size := by have := HB7.out.size; simp; omega
          have HOB := Lib.hid (HO7.out.alloc (.cells #[.int .i64 m0, .int .i64 m1, .string m2, .int .i64 m3, .int .i64 m4, .string m5, .slice mA mB mC, .slice mD mE mG, .slice mH mI mJ] 35))
          obtain ⟨cOb, fOb⟩ := blk_rules HOB.out
          go_upto_region 10 with (at_builtin; go_loud (refine wpList_append_reads _ rfl _ _ 33 rfl (w.heap.size + 3) 35 iF _ 9 136 Tryz.underlying33 hiF zF0 zF1 zF2 rfl (by decide) _ k uk (by rfl) HOA.out _ 1 1 (w7.heap.size + 1) [.int .i64 m0, .int .i64 m1, .string m2, .int .i64 m3, .int .i64 m4, .string m5, .slice mA mB mC, .slice mD mE mG, .slice mH mI mJ] (by rfl) HRD.out HON.out (by unfold maxLen; omega) (by omega) hbase ?_; intro v2 w9 hown hg hat; obtain ⟨A9, c9, rfl, hbo, hi9⟩ := HI.out.step rfl hB HOW.out HRT.out HB7.out HZ7.out hown hg hat; have HBO9 := Lib.hid hbo; have HI9 := Lib.hid hi9; clear hbo hi9 hown hg hat; try clear cO fO; try clear cOb fOb; obtain ⟨cO, fO⟩ := blk_rules HBO9.out))
          have HT9 := Lib.hid (show IInv w B _ _ ((mids 20 kids).take (k + 1)) (k + 1) A9 c9 (w9.setCell ⟨w.heap.size + 1 + 1, 8, none⟩ (.slice A9 (k + 1) c9)) from by rw [take_at HM.out]; exact HI9.out)
          go_wp2
          go_roundw
          case rel => exact ⟨k + 1, A9, c9, by omega, by go_num, HT9⟩
          case measure => simp [intOf]; omega
      · have hq20 : (kind == 20) = false := by simpa using h20
        have HM := Lib.hid (show (mids kind kids)[k]? = some (slimF y) from by rw [mids_at HKX.out, if_neg (fun e => h20 e.1)])
        have HOA := Lib.hid (World.ownsRow.alloc (owns_below HOW.out HB7.out) (.cells #[.int .i64 m0, .int .i64 m1, .string m2, .int .i64 m3, .int .i64 m4, .string m5, .slice mA mB mC, .slice mD mE mG, .slice mH mI mJ] 35))
        have HRD := Lib.hid (boxed_reads w7 35 [.int .i64 m0, .int .i64 m1, .string m2, .int .i64 m3, .int .i64 m4, .string m5, .slice mA mB mC, .slice mD mE mG, .slice mH mI mJ] 9 rfl)
        have HON := Lib.hid (RDv.one _ _ HZ7.out)
        have hbase : w.heap.size + 3 ≤ (w7.alloc (.cells #[.int .i64 m0, .int .i64 m1, .string m2, .int .i64 m3, .int .i64 m4, .string m5, .slice mA mB mC, .slice mD mE mG, .slice mH mI mJ] 35)).heap.size := by have := HB7.out.size; simp; omega
        have HOB := Lib.hid (HO7.out.alloc (.cells #[.int .i64 m0, .int .i64 m1, .string m2, .int .i64 m3, .int .i64 m4, .string m5, .slice mA mB mC, .slice mD mE mG, .slice mH mI mJ] 35))
        obtain ⟨cOb, fOb⟩ := blk_rules HOB.out
        go_upto_region 10 with (at_builtin; go_loud (refine wpList_append_reads _ rfl _ _ 33 rfl (w.heap.size + 3) 35 iF _ 9 136 Tryz.underlying33 hiF zF0 zF1 zF2 rfl (by decide) _ k uk (by rfl) HOA.out _ 1 1 (w7.heap.size + 1) [.int .i64 m0, .int .i64 m1, .string m2, .int .i64 m3, .int .i64 m4, .string m5, .slice mA mB mC, .slice mD mE mG, .slice mH mI mJ] (by rfl) HRD.out HON.out (by unfold maxLen; omega) (by omega) hbase ?_; intro v2 w9 hown hg hat; obtain ⟨A9, c9, rfl, hbo, hi9⟩ := HI.out.step rfl hB HOW.out HRT.out HB7.out HZ7.out hown hg hat; have HBO9 := Lib.hid hbo; have HI9 := Lib.hid hi9; clear hbo hi9 hown hg hat; try clear cO fO; try clear cOb fOb; obtain ⟨cO, fO⟩ := blk_rules HBO9.out))
        have HT9 := Lib.hid (show IInv w B _ _ ((mids kind kids).take (k + 1)) (k + 1) A9 c9 (w9.setCell ⟨w.heap.size + 1 + 1, 8, none⟩ (.slice A9 (k + 1) c9)) from by rw [take_at HM.out]; exact HI9.out)
        go_wp2
        go_roundw
        case rel => exact ⟨k + 1, A9, c9, by omega, by go_num, HT9⟩
        case measure => simp [intOf]; omega
    · obtain rfl : k = kids.length := by omega
      obtain ⟨M, EM⟩ : ∃ M, M = mids kind kids := ⟨_, rfl⟩
      have hML : M.length = kids.length := by rw [EM, mids_length]
      have HLI := Lib.hid (show IInv w B _ _ M kids.length A qc wr from by have h := HI.out; rwa [List.take_of_length_le (by rw [mids_length]; exact Nat.le_refl _), ← EM] at h)
      have HT := Lib.hid HLI.out.trow
      have HFM := Lib.hid (show FForm d (.mk kind n s v M) ∧ ∀ x ∈ M, FForm (d - 1) x from by rw [EM]; exact HMF.out)
      have HFULL := Lib.hid (show RT (fun b => b < B ∨ w.heap.size + 3 ≤ b) wr (filtDs (.mk kind n s v M)) [.int .i64 kind, .int .i64 n, .string s, .int .i64 f3, .int .i64 f4, .string f5, .slice A6 n6 q6, .slice A7 n7 q7, .slice A kids.length qc] from rdf_mk hs (RT.of_rd HV.out hB (HLI.out.bel.mono hB) fun b hb => .inl hb) (by rw [hML]; exact HT.out))
      have HSK := Lib.hid (show slimF (.mk kind n s v kids) = slimK (.mk kind n s v M) M from by rw [EM]; exact slimF_mk _ _ _ _ _)
      have HBL := Lib.hid HLI.out.bel
      have HWR := Lib.hid (Below.refl wr.heap.size wr)
      have HPR := Lib.hid HLI.out.bP
      have HBR := Lib.hid HLI.out.bR
      have HBO := Lib.hid HLI.out.bO
      obtain ⟨cR, fR⟩ := blk_rules HBR.out
      clear HI HMF EM
      by_cases h6 : kind = 6
      · subst h6
        obtain ⟨a, b, rfl⟩ : ∃ a b, M = [a, b] := by
          have h2 : kidsOf 6 = 2 := by decide
          have h3 := HKO.out
          have h1 : M.length = 2 := by omega
          match M, h1 with
          | [a, b], _ => exact ⟨a, b, rfl⟩
        have h2 : kidsOf 6 = 2 := by decide
        have h3 := HKO.out
        have hk1 : (kids.length : Int) = 2 := by omega
        clear h2 h3
        have l0 : (0 : Int) < (kids.length : Int) := by omega
        have l1 : (1 : Int) < (kids.length : Int) := by omega
        obtain ⟨ada, ya, c0, c1, c2, c3, c4, c5, c6, c7, c8, ea, hya, hga, z0, z1, z2, z3, z4, z5, z6, z7, z8⟩ := rt_at HT.out hML.symm (k := 0) (by rw [← hML]; simp)
        obtain ⟨ad, rfl⟩ : ∃ ad, A = some ad := ⟨_, ea⟩
        injection ea with ea
        subst ea
        obtain rfl : a = ya := by simpa using hga
        clear hga
        obtain ⟨ka, a1, a2, va, la, a3, a4, a5, aA, aB, aC, aD, aE, aG, aH, aJ, epa, ec, -, hva, -⟩ := filtDs_all hya
        simp only [List.cons.injEq, and_true] at ec
        obtain ⟨rfl, rfl, rfl, rfl, rfl, rfl, rfl, rfl, rfl⟩ := ec
        have Ha := Lib.hid (show RT (fun b => b < B ∨ w.heap.size + 3 ≤ b) wr (filtDs a) _ from hya)
        have HVa := Lib.hid hva
        have EPa := Lib.hid epa
        clear hya hva epa
        have au0 : wr.cell? ad = some (.int .i64 ka) := by simpa [Addr.add] using z0
        have au1 : wr.cell? ⟨ad.block, ad.off + 1, none⟩ = some (.int .i64 a1) := by simpa [Addr.add] using z1
        have au2 : wr.cell? ⟨ad.block, ad.off + 2, none⟩ = some (.string a2) := by simpa [Addr.add] using z2
        have au3 : wr.cell? ⟨ad.block, ad.off + 3, none⟩ = some (.int .i64 a3) := by simpa [Addr.add] using z3
        have au4 : wr.cell? ⟨ad.block, ad.off + 4, none⟩ = some (.int .i64 a4) := by simpa [Addr.add] using z4
        have au5 : wr.cell? ⟨ad.block, ad.off + 5, none⟩ = some (.string a5) := by simpa [Addr.add] using z5
        have au6 : wr.cell? ⟨ad.block, ad.off + 6, none⟩ = some (.slice aA aB aC) := by simpa [Addr.add] using z6
        have au7 : wr.cell? ⟨ad.block, ad.off + 7, none⟩ = some (.slice aD aE aG) := by simpa [Addr.add] using z7
        have au8 : wr.cell? ⟨ad.block, ad.off + 8, none⟩ = some (.slice aH la.length aJ) := by simpa [Addr.add] using z8
        clear z0 z1 z2 z3 z4 z5 z6 z7 z8
        obtain ⟨adb, yb, c0, c1, c2, c3, c4, c5, c6, c7, c8, eb, hyb, hgb, z0, z1, z2, z3, z4, z5, z6, z7, z8⟩ := rt_at HT.out hML.symm (k := 1) (by rw [← hML]; simp)
        injection eb with eb
        subst eb
        obtain rfl : b = yb := by simpa using hgb
        clear hgb
        obtain ⟨kb, b1, b2, vb, lb, b3, b4, b5, bA, bB, bC, bD, bE, bG, bH, bJ, epb, ec, -, hvb, -⟩ := filtDs_all hyb
        simp only [List.cons.injEq, and_true] at ec
        obtain ⟨rfl, rfl, rfl, rfl, rfl, rfl, rfl, rfl, rfl⟩ := ec
        have Hb := Lib.hid (show RT (fun b => b < B ∨ w.heap.size + 3 ≤ b) wr (filtDs b) _ from hyb)
        have HVb := Lib.hid hvb
        have EPb := Lib.hid epb
        clear hyb hvb epb
        have bu0 : wr.cell? ⟨ad.block, ad.off + 9, none⟩ = some (.int .i64 kb) := by simpa [Addr.add] using z0
        have bu1 : wr.cell? ⟨ad.block, ad.off + 10, none⟩ = some (.int .i64 b1) := by simpa [Addr.add] using z1
        have bu2 : wr.cell? ⟨ad.block, ad.off + 11, none⟩ = some (.string b2) := by simpa [Addr.add] using z2
        have bu3 : wr.cell? ⟨ad.block, ad.off + 12, none⟩ = some (.int .i64 b3) := by simpa [Addr.add] using z3
        have bu4 : wr.cell? ⟨ad.block, ad.off + 13, none⟩ = some (.int .i64 b4) := by simpa [Addr.add] using z4
        have bu5 : wr.cell? ⟨ad.block, ad.off + 14, none⟩ = some (.string b5) := by simpa [Addr.add] using z5
        have bu6 : wr.cell? ⟨ad.block, ad.off + 15, none⟩ = some (.slice bA bB bC) := by simpa [Addr.add] using z6
        have bu7 : wr.cell? ⟨ad.block, ad.off + 16, none⟩ = some (.slice bD bE bG) := by simpa [Addr.add] using z7
        have bu8 : wr.cell? ⟨ad.block, ad.off + 17, none⟩ = some (.slice bH lb.length bJ) := by simpa [Addr.add] using z8
        clear z0 z1 z2 z3 z4 z5 z6 z7 z8
        go_wp2_with fail
        refine (is1 ka a1 a2 _ _ _ _ _ _ 1 wr).mono ?_
        rintro e wc1 ⟨r, rfl, hr, hbx⟩
        have HBLc1 := Lib.hid (HBL.out.trans (hbx.mono HBL.out.size))
        have HWRc1 := Lib.hid (HWR.out.trans (hbx.mono HWR.out.size))
        have HPRc1 := Lib.hid (HPR.out.below hbx)
        have HBRc1 := Lib.hid (HBR.out.below hbx)
        have HBOc1 := Lib.hid (HBO.out.below hbx)
        have HFULLc1 := Lib.hid (HFULL.out.below hbx)
        have Hac1 := Lib.hid (Ha.out.below hbx)
        have Hbc1 := Lib.hid (Hb.out.below hbx)
        have hzc1 := hbx.size
        have au0c1 := cell_below au0 hbx
        have au1c1 := cell_below au1 hbx
        have au2c1 := cell_below au2 hbx
        have au3c1 := cell_below au3 hbx
        have au4c1 := cell_below au4 hbx
        have au5c1 := cell_below au5 hbx
        have au6c1 := cell_below au6 hbx
        have au7c1 := cell_below au7 hbx
        have au8c1 := cell_below au8 hbx
        have bu0c1 := cell_below bu0 hbx
        have bu1c1 := cell_below bu1 hbx
        have bu2c1 := cell_below bu2 hbx
        have bu3c1 := cell_below bu3 hbx
        have bu4c1 := cell_below bu4 hbx
        have bu5c1 := cell_below bu5 hbx
        have bu6c1 := cell_below bu6 hbx
        have bu7c1 := cell_below bu7 hbx
        have bu8c1 := cell_below bu8 hbx
        clear au0 au1 au2 au3 au4 au5 au6 au7 au8 bu0 bu1 bu2 bu3 bu4 bu5 bu6 bu7 bu8
        clear hbx cP fP cO fO cR fR
        obtain ⟨cP, fP⟩ := blk_rules HPRc1.out
        obtain ⟨cR, fR⟩ := blk_rules HBRc1.out
        obtain ⟨cO, fO⟩ := blk_rules HBOc1.out
        cases r with
        | true =>
          have N1 := Lib.hid (show ka = 1 from hr.1 rfl)
          clear hr
          have HX := Lib.hid (HSK.out.trans (show slimK _ _ = b from by (have h_0 := N1.out; rw [EPa.out, EPb.out]; simp [slimK, fKind, fVal, h_0])))
          go_wp2
          refine bodyPost_ret (v := .agg #[.int .i64 kb, .int .i64 b1, .string b2, .int .i64 b3, .int .i64 b4, .string b5, .slice bA bB bC, .slice bD bE bG, .slice bH lb.length bJ]) (by simp [results, Tryz.results19, go_sem, cR]) rfl ?_
          exact si_end (zs := [.int .i64 kb, .int .i64 b1, .string b2, .int .i64 b3, .int .i64 b4, .string b5, .slice bA bB bC, .slice bD bE bG, .slice bH lb.length bJ]) Hbc1.out HBLc1.out hB HX.out
        | false =>
          have N1 := Lib.hid (show ¬ (ka = 1) from fun h => by have h1 := hr.2 h; cases h1)
          clear hr
          go_wp2_with fail
          refine (is1 kb b1 b2 _ _ _ _ _ _ 1 wc1).mono ?_
          rintro e wc2 ⟨r, rfl, hr, hbx⟩
          have HBLc2 := Lib.hid (HBLc1.out.trans (hbx.mono HBLc1.out.size))
          have HWRc2 := Lib.hid (HWRc1.out.trans (hbx.mono HWRc1.out.size))
          have HPRc2 := Lib.hid (HPRc1.out.below hbx)
          have HBRc2 := Lib.hid (HBRc1.out.below hbx)
          have HBOc2 := Lib.hid (HBOc1.out.below hbx)
          have HFULLc2 := Lib.hid (HFULLc1.out.below hbx)
          have Hac2 := Lib.hid (Hac1.out.below hbx)
          have Hbc2 := Lib.hid (Hbc1.out.below hbx)
          have hzc2 := hbx.size
          have au0c2 := cell_below au0c1 hbx
          have au1c2 := cell_below au1c1 hbx
          have au2c2 := cell_below au2c1 hbx
          have au3c2 := cell_below au3c1 hbx
          have au4c2 := cell_below au4c1 hbx
          have au5c2 := cell_below au5c1 hbx
          have au6c2 := cell_below au6c1 hbx
          have au7c2 := cell_below au7c1 hbx
          have au8c2 := cell_below au8c1 hbx
          have bu0c2 := cell_below bu0c1 hbx
          have bu1c2 := cell_below bu1c1 hbx
          have bu2c2 := cell_below bu2c1 hbx
          have bu3c2 := cell_below bu3c1 hbx
          have bu4c2 := cell_below bu4c1 hbx
          have bu5c2 := cell_below bu5c1 hbx
          have bu6c2 := cell_below bu6c1 hbx
          have bu7c2 := cell_below bu7c1 hbx
          have bu8c2 := cell_below bu8c1 hbx
          clear au0c1 au1c1 au2c1 au3c1 au4c1 au5c1 au6c1 au7c1 au8c1 bu0c1 bu1c1 bu2c1 bu3c1 bu4c1 bu5c1 bu6c1 bu7c1 bu8c1
          clear hbx cP fP cO fO cR fR
          obtain ⟨cP, fP⟩ := blk_rules HPRc2.out
          obtain ⟨cR, fR⟩ := blk_rules HBRc2.out
          obtain ⟨cO, fO⟩ := blk_rules HBOc2.out
          cases r with
          | true =>
            have N2 := Lib.hid (show kb = 1 from hr.1 rfl)
            clear hr
            have HX := Lib.hid (HSK.out.trans (show slimK _ _ = a from by (have h_0 := N1.out; have h_1 := N2.out; rw [EPa.out, EPb.out]; simp [slimK, fKind, fVal, h_0, h_1])))
            go_wp2
            refine bodyPost_ret (v := .agg #[.int .i64 ka, .int .i64 a1, .string a2, .int .i64 a3, .int .i64 a4, .string a5, .slice aA aB aC, .slice aD aE aG, .slice aH la.length aJ]) (by simp [results, Tryz.results19, go_sem, cR]) rfl ?_
            exact si_end (zs := [.int .i64 ka, .int .i64 a1, .string a2, .int .i64 a3, .int .i64 a4, .string a5, .slice aA aB aC, .slice aD aE aG, .slice aH la.length aJ]) Hac2.out HBLc2.out hB HX.out
          | false =>
            have N2 := Lib.hid (show ¬ (kb = 1) from fun h => by have h1 := hr.2 h; cases h1)
            clear hr
            go_wp2_with fail
            refine (is2 ka a1 a2 _ _ _ _ _ _ 18 19 wc2).mono ?_
            rintro e wc3 ⟨r, rfl, hr, hbx⟩
            have HBLc3 := Lib.hid (HBLc2.out.trans (hbx.mono HBLc2.out.size))
            have HWRc3 := Lib.hid (HWRc2.out.trans (hbx.mono HWRc2.out.size))
            have HPRc3 := Lib.hid (HPRc2.out.below hbx)
            have HBRc3 := Lib.hid (HBRc2.out.below hbx)
            have HBOc3 := Lib.hid (HBOc2.out.below hbx)
            have HFULLc3 := Lib.hid (HFULLc2.out.below hbx)
            have Hac3 := Lib.hid (Hac2.out.below hbx)
            have Hbc3 := Lib.hid (Hbc2.out.below hbx)
            have hzc3 := hbx.size
            have au0c3 := cell_below au0c2 hbx
            have au1c3 := cell_below au1c2 hbx
            have au2c3 := cell_below au2c2 hbx
            have au3c3 := cell_below au3c2 hbx
            have au4c3 := cell_below au4c2 hbx
            have au5c3 := cell_below au5c2 hbx
            have au6c3 := cell_below au6c2 hbx
            have au7c3 := cell_below au7c2 hbx
            have au8c3 := cell_below au8c2 hbx
            have bu0c3 := cell_below bu0c2 hbx
            have bu1c3 := cell_below bu1c2 hbx
            have bu2c3 := cell_below bu2c2 hbx
            have bu3c3 := cell_below bu3c2 hbx
            have bu4c3 := cell_below bu4c2 hbx
            have bu5c3 := cell_below bu5c2 hbx
            have bu6c3 := cell_below bu6c2 hbx
            have bu7c3 := cell_below bu7c2 hbx
            have bu8c3 := cell_below bu8c2 hbx
            clear au0c2 au1c2 au2c2 au3c2 au4c2 au5c2 au6c2 au7c2 au8c2 bu0c2 bu1c2 bu2c2 bu3c2 bu4c2 bu5c2 bu6c2 bu7c2 bu8c2
            clear hbx cP fP cO fO cR fR
            obtain ⟨cP, fP⟩ := blk_rules HPRc3.out
            obtain ⟨cR, fR⟩ := blk_rules HBRc3.out
            obtain ⟨cO, fO⟩ := blk_rules HBOc3.out
            cases r with
            | true =>
              have N3 := Lib.hid (show ka = 18 ∨ ka = 19 from hr.1 rfl)
              clear hr
              have HX := Lib.hid (HSK.out.trans (show slimK _ _ = a from by (have h_0 := N1.out; have h_1 := N2.out; have h_2 := N3.out; rw [EPa.out, EPb.out]; simp [slimK, fKind, fVal, h_0, h_1, h_2])))
              go_wp2
              refine bodyPost_ret (v := .agg #[.int .i64 ka, .int .i64 a1, .string a2, .int .i64 a3, .int .i64 a4, .string a5, .slice aA aB aC, .slice aD aE aG, .slice aH la.length aJ]) (by simp [results, Tryz.results19, go_sem, cR]) rfl ?_
              exact si_end (zs := [.int .i64 ka, .int .i64 a1, .string a2, .int .i64 a3, .int .i64 a4, .string a5, .slice aA aB aC, .slice aD aE aG, .slice aH la.length aJ]) Hac3.out HBLc3.out hB HX.out
            | false =>
              have N3 := Lib.hid (show ¬ (ka = 18 ∨ ka = 19) from fun h => by have h1 := hr.2 h; cases h1)
              clear hr
              have HX := Lib.hid (HSK.out.trans (show slimK _ _ = (.mk 6 n s v [a, b]) from by (have h_0 := N1.out; have h_1 := N2.out; have h_2 := N3.out; rw [EPa.out, EPb.out]; simp [slimK, fKind, fVal, h_0, h_1, h_2])))
              go_wp2
              refine bodyPost_ret (v := .agg #[.int .i64 6, .int .i64 n, .string s, .int .i64 f3, .int .i64 f4, .string f5, .slice A6 n6 q6, .slice A7 n7 q7, .slice (some ad) kids.length qc]) (by simp [results, Tryz.results19, go_sem, cR]) rfl ?_
              exact si_end (zs := [.int .i64 6, .int .i64 n, .string s, .int .i64 f3, .int .i64 f4, .string f5, .slice A6 n6 q6, .slice A7 n7 q7, .slice (some ad) kids.length qc]) HFULLc3.out HBLc3.out hB HX.out
      have qk6 : (kind == 6) = false := by simpa using h6
      by_cases h7 : kind = 7
      · subst h7
        obtain ⟨a, b, rfl⟩ : ∃ a b, M = [a, b] := by
          have h2 : kidsOf 7 = 2 := by decide
          have h3 := HKO.out
          have h1 : M.length = 2 := by omega
          match M, h1 with
          | [a, b], _ => exact ⟨a, b, rfl⟩
        have h2 : kidsOf 7 = 2 := by decide
        have h3 := HKO.out
        have hk1 : (kids.length : Int) = 2 := by omega
        clear h2 h3
        have l0 : (0 : Int) < (kids.length : Int) := by omega
        have l1 : (1 : Int) < (kids.length : Int) := by omega
        obtain ⟨ada, ya, c0, c1, c2, c3, c4, c5, c6, c7, c8, ea, hya, hga, z0, z1, z2, z3, z4, z5, z6, z7, z8⟩ := rt_at HT.out hML.symm (k := 0) (by rw [← hML]; simp)
        obtain ⟨ad, rfl⟩ : ∃ ad, A = some ad := ⟨_, ea⟩
        injection ea with ea
        subst ea
        obtain rfl : a = ya := by simpa using hga
        clear hga
        obtain ⟨ka, a1, a2, va, la, a3, a4, a5, aA, aB, aC, aD, aE, aG, aH, aJ, epa, ec, -, hva, -⟩ := filtDs_all hya
        simp only [List.cons.injEq, and_true] at ec
        obtain ⟨rfl, rfl, rfl, rfl, rfl, rfl, rfl, rfl, rfl⟩ := ec
        have Ha := Lib.hid (show RT (fun b => b < B ∨ w.heap.size + 3 ≤ b) wr (filtDs a) _ from hya)
        have HVa := Lib.hid hva
        have EPa := Lib.hid epa
        clear hya hva epa
        have au0 : wr.cell? ad = some (.int .i64 ka) := by simpa [Addr.add] using z0
        have au1 : wr.cell? ⟨ad.block, ad.off + 1, none⟩ = some (.int .i64 a1) := by simpa [Addr.add] using z1
        have au2 : wr.cell? ⟨ad.block, ad.off + 2, none⟩ = some (.string a2) := by simpa [Addr.add] using z2
        have au3 : wr.cell? ⟨ad.block, ad.off + 3, none⟩ = some (.int .i64 a3) := by simpa [Addr.add] using z3
        have au4 : wr.cell? ⟨ad.block, ad.off + 4, none⟩ = some (.int .i64 a4) := by simpa [Addr.add] using z4
        have au5 : wr.cell? ⟨ad.block, ad.off + 5, none⟩ = some (.string a5) := by simpa [Addr.add] using z5
        have au6 : wr.cell? ⟨ad.block, ad.off + 6, none⟩ = some (.slice aA aB aC) := by simpa [Addr.add] using z6
        have au7 : wr.cell? ⟨ad.block, ad.off + 7, none⟩ = some (.slice aD aE aG) := by simpa [Addr.add] using z7
        have au8 : wr.cell? ⟨ad.block, ad.off + 8, none⟩ = some (.slice aH la.length aJ) := by simpa [Addr.add] using z8
        clear z0 z1 z2 z3 z4 z5 z6 z7 z8
        obtain ⟨adb, yb, c0, c1, c2, c3, c4, c5, c6, c7, c8, eb, hyb, hgb, z0, z1, z2, z3, z4, z5, z6, z7, z8⟩ := rt_at HT.out hML.symm (k := 1) (by rw [← hML]; simp)
        injection eb with eb
        subst eb
        obtain rfl : b = yb := by simpa using hgb
        clear hgb
        obtain ⟨kb, b1, b2, vb, lb, b3, b4, b5, bA, bB, bC, bD, bE, bG, bH, bJ, epb, ec, -, hvb, -⟩ := filtDs_all hyb
        simp only [List.cons.injEq, and_true] at ec
        obtain ⟨rfl, rfl, rfl, rfl, rfl, rfl, rfl, rfl, rfl⟩ := ec
        have Hb := Lib.hid (show RT (fun b => b < B ∨ w.heap.size + 3 ≤ b) wr (filtDs b) _ from hyb)
        have HVb := Lib.hid hvb
        have EPb := Lib.hid epb
        clear hyb hvb epb
        have bu0 : wr.cell? ⟨ad.block, ad.off + 9, none⟩ = some (.int .i64 kb) := by simpa [Addr.add] using z0
        have bu1 : wr.cell? ⟨ad.block, ad.off + 10, none⟩ = some (.int .i64 b1) := by simpa [Addr.add] using z1
        have bu2 : wr.cell? ⟨ad.block, ad.off + 11, none⟩ = some (.string b2) := by simpa [Addr.add] using z2
        have bu3 : wr.cell? ⟨ad.block, ad.off + 12, none⟩ = some (.int .i64 b3) := by simpa [Addr.add] using z3
        have bu4 : wr.cell? ⟨ad.block, ad.off + 13, none⟩ = some (.int .i64 b4) := by simpa [Addr.add] using z4
        have bu5 : wr.cell? ⟨ad.block, ad.off + 14, none⟩ = some (.string b5) := by simpa [Addr.add] using z5
        have bu6 : wr.cell? ⟨ad.block, ad.off + 15, none⟩ = some (.slice bA bB bC) := by simpa [Addr.add] using z6
        have bu7 : wr.cell? ⟨ad.block, ad.off + 16, none⟩ = some (.slice bD bE bG) := by simpa [Addr.add] using z7
        have bu8 : wr.cell? ⟨ad.block, ad.off + 17, none⟩ = some (.slice bH lb.length bJ) := by simpa [Addr.add] using z8
        clear z0 z1 z2 z3 z4 z5 z6 z7 z8
        go_wp2_with fail
        refine (is1 ka a1 a2 _ _ _ _ _ _ 18 wr).mono ?_
        rintro e wc4 ⟨r, rfl, hr, hbx⟩
        have HBLc4 := Lib.hid (HBL.out.trans (hbx.mono HBL.out.size))
        have HWRc4 := Lib.hid (HWR.out.trans (hbx.mono HWR.out.size))
        have HPRc4 := Lib.hid (HPR.out.below hbx)
        have HBRc4 := Lib.hid (HBR.out.below hbx)
        have HBOc4 := Lib.hid (HBO.out.below hbx)
        have HFULLc4 := Lib.hid (HFULL.out.below hbx)
        have Hac4 := Lib.hid (Ha.out.below hbx)
        have Hbc4 := Lib.hid (Hb.out.below hbx)
        have hzc4 := hbx.size
        have au0c4 := cell_below au0 hbx
        have au1c4 := cell_below au1 hbx
        have au2c4 := cell_below au2 hbx
        have au3c4 := cell_below au3 hbx
        have au4c4 := cell_below au4 hbx
        have au5c4 := cell_below au5 hbx
        have au6c4 := cell_below au6 hbx
        have au7c4 := cell_below au7 hbx
        have au8c4 := cell_below au8 hbx
        have bu0c4 := cell_below bu0 hbx
        have bu1c4 := cell_below bu1 hbx
        have bu2c4 := cell_below bu2 hbx
        have bu3c4 := cell_below bu3 hbx
        have bu4c4 := cell_below bu4 hbx
        have bu5c4 := cell_below bu5 hbx
        have bu6c4 := cell_below bu6 hbx
        have bu7c4 := cell_below bu7 hbx
        have bu8c4 := cell_below bu8 hbx
        clear au0 au1 au2 au3 au4 au5 au6 au7 au8 bu0 bu1 bu2 bu3 bu4 bu5 bu6 bu7 bu8
        clear hbx cP fP cO fO cR fR
        obtain ⟨cP, fP⟩ := blk_rules HPRc4.out
        obtain ⟨cR, fR⟩ := blk_rules HBRc4.out
        obtain ⟨cO, fO⟩ := blk_rules HBOc4.out
        cases r with
        | true =>
          have N1 := Lib.hid (show ka = 18 from hr.1 rfl)
          clear hr
          have HX := Lib.hid (HSK.out.trans (show slimK _ _ = b from by (have h_0 := N1.out; rw [EPa.out, EPb.out]; simp [slimK, fKind, fVal, h_0])))
          go_wp2
          refine bodyPost_ret (v := .agg #[.int .i64 kb, .int .i64 b1, .string b2, .int .i64 b3, .int .i64 b4, .string b5, .slice bA bB bC, .slice bD bE bG, .slice bH lb.length bJ]) (by simp [results, Tryz.results19, go_sem, cR]) rfl ?_
          exact si_end (zs := [.int .i64 kb, .int .i64 b1, .string b2, .int .i64 b3, .int .i64 b4, .string b5, .slice bA bB bC, .slice bD bE bG, .slice bH lb.length bJ]) Hbc4.out HBLc4.out hB HX.out
        | false =>
          have N1 := Lib.hid (show ¬ (ka = 18) from fun h => by have h1 := hr.2 h; cases h1)
          clear hr
          go_wp2_with fail
          refine (is1 kb b1 b2 _ _ _ _ _ _ 18 wc4).mono ?_
          rintro e wc5 ⟨r, rfl, hr, hbx⟩
          have HBLc5 := Lib.hid (HBLc4.out.trans (hbx.mono HBLc4.out.size))
          have HWRc5 := Lib.hid (HWRc4.out.trans (hbx.mono HWRc4.out.size))
          have HPRc5 := Lib.hid (HPRc4.out.below hbx)
          have HBRc5 := Lib.hid (HBRc4.out.below hbx)
          have HBOc5 := Lib.hid (HBOc4.out.below hbx)
          have HFULLc5 := Lib.hid (HFULLc4.out.below hbx)
          have Hac5 := Lib.hid (Hac4.out.below hbx)
          have Hbc5 := Lib.hid (Hbc4.out.below hbx)
          have hzc5 := hbx.size
          have au0c5 := cell_below au0c4 hbx
          have au1c5 := cell_below au1c4 hbx
          have au2c5 := cell_below au2c4 hbx
          have au3c5 := cell_below au3c4 hbx
          have au4c5 := cell_below au4c4 hbx
          have au5c5 := cell_below au5c4 hbx
          have au6c5 := cell_below au6c4 hbx
          have au7c5 := cell_below au7c4 hbx
          have au8c5 := cell_below au8c4 hbx
          have bu0c5 := cell_below bu0c4 hbx
          have bu1c5 := cell_below bu1c4 hbx
          have bu2c5 := cell_below bu2c4 hbx
          have bu3c5 := cell_below bu3c4 hbx
          have bu4c5 := cell_below bu4c4 hbx
          have bu5c5 := cell_below bu5c4 hbx
          have bu6c5 := cell_below bu6c4 hbx
          have bu7c5 := cell_below bu7c4 hbx
          have bu8c5 := cell_below bu8c4 hbx
          clear au0c4 au1c4 au2c4 au3c4 au4c4 au5c4 au6c4 au7c4 au8c4 bu0c4 bu1c4 bu2c4 bu3c4 bu4c4 bu5c4 bu6c4 bu7c4 bu8c4
          clear hbx cP fP cO fO cR fR
          obtain ⟨cP, fP⟩ := blk_rules HPRc5.out
          obtain ⟨cR, fR⟩ := blk_rules HBRc5.out
          obtain ⟨cO, fO⟩ := blk_rules HBOc5.out
          cases r with
          | true =>
            have N2 := Lib.hid (show kb = 18 from hr.1 rfl)
            clear hr
            have HX := Lib.hid (HSK.out.trans (show slimK _ _ = a from by (have h_0 := N1.out; have h_1 := N2.out; rw [EPa.out, EPb.out]; simp [slimK, fKind, fVal, h_0, h_1])))
            go_wp2
            refine bodyPost_ret (v := .agg #[.int .i64 ka, .int .i64 a1, .string a2, .int .i64 a3, .int .i64 a4, .string a5, .slice aA aB aC, .slice aD aE aG, .slice aH la.length aJ]) (by simp [results, Tryz.results19, go_sem, cR]) rfl ?_
            exact si_end (zs := [.int .i64 ka, .int .i64 a1, .string a2, .int .i64 a3, .int .i64 a4, .string a5, .slice aA aB aC, .slice aD aE aG, .slice aH la.length aJ]) Hac5.out HBLc5.out hB HX.out
          | false =>
            have N2 := Lib.hid (show ¬ (kb = 18) from fun h => by have h1 := hr.2 h; cases h1)
            clear hr
            go_wp2_with fail
            refine (is1 ka a1 a2 _ _ _ _ _ _ 19 wc5).mono ?_
            rintro e wc6 ⟨r, rfl, hr, hbx⟩
            have HBLc6 := Lib.hid (HBLc5.out.trans (hbx.mono HBLc5.out.size))
            have HWRc6 := Lib.hid (HWRc5.out.trans (hbx.mono HWRc5.out.size))
            have HPRc6 := Lib.hid (HPRc5.out.below hbx)
            have HBRc6 := Lib.hid (HBRc5.out.below hbx)
            have HBOc6 := Lib.hid (HBOc5.out.below hbx)
            have HFULLc6 := Lib.hid (HFULLc5.out.below hbx)
            have Hac6 := Lib.hid (Hac5.out.below hbx)
            have Hbc6 := Lib.hid (Hbc5.out.below hbx)
            have hzc6 := hbx.size
            have au0c6 := cell_below au0c5 hbx
            have au1c6 := cell_below au1c5 hbx
            have au2c6 := cell_below au2c5 hbx
            have au3c6 := cell_below au3c5 hbx
            have au4c6 := cell_below au4c5 hbx
            have au5c6 := cell_below au5c5 hbx
            have au6c6 := cell_below au6c5 hbx
            have au7c6 := cell_below au7c5 hbx
            have au8c6 := cell_below au8c5 hbx
            have bu0c6 := cell_below bu0c5 hbx
            have bu1c6 := cell_below bu1c5 hbx
            have bu2c6 := cell_below bu2c5 hbx
            have bu3c6 := cell_below bu3c5 hbx
            have bu4c6 := cell_below bu4c5 hbx
            have bu5c6 := cell_below bu5c5 hbx
            have bu6c6 := cell_below bu6c5 hbx
            have bu7c6 := cell_below bu7c5 hbx
            have bu8c6 := cell_below bu8c5 hbx
            clear au0c5 au1c5 au2c5 au3c5 au4c5 au5c5 au6c5 au7c5 au8c5 bu0c5 bu1c5 bu2c5 bu3c5 bu4c5 bu5c5 bu6c5 bu7c5 bu8c5
            clear hbx cP fP cO fO cR fR
            obtain ⟨cP, fP⟩ := blk_rules HPRc6.out
            obtain ⟨cR, fR⟩ := blk_rules HBRc6.out
            obtain ⟨cO, fO⟩ := blk_rules HBOc6.out
            cases r with
            | true =>
              have N3 := Lib.hid (show ka = 19 from hr.1 rfl)
              clear hr
              have HX := Lib.hid (HSK.out.trans (show slimK _ _ = a from by (have h_0 := N1.out; have h_1 := N2.out; have h_2 := N3.out; rw [EPa.out, EPb.out]; simp [slimK, fKind, fVal, h_0, h_1, h_2])))
              go_wp2
              refine bodyPost_ret (v := .agg #[.int .i64 ka, .int .i64 a1, .string a2, .int .i64 a3, .int .i64 a4, .string a5, .slice aA aB aC, .slice aD aE aG, .slice aH la.length aJ]) (by simp [results, Tryz.results19, go_sem, cR]) rfl ?_
              exact si_end (zs := [.int .i64 ka, .int .i64 a1, .string a2, .int .i64 a3, .int .i64 a4, .string a5, .slice aA aB aC, .slice aD aE aG, .slice aH la.length aJ]) Hac6.out HBLc6.out hB HX.out
            | false =>
              have N3 := Lib.hid (show ¬ (ka = 19) from fun h => by have h1 := hr.2 h; cases h1)
              clear hr
              have HX := Lib.hid (HSK.out.trans (show slimK _ _ = (.mk 7 n s v [a, b]) from by (have h_0 := N1.out; have h_1 := N2.out; have h_2 := N3.out; rw [EPa.out, EPb.out]; simp [slimK, fKind, fVal, h_0, h_1, h_2])))
              go_wp2
              refine bodyPost_ret (v := .agg #[.int .i64 7, .int .i64 n, .string s, .int .i64 f3, .int .i64 f4, .string f5, .slice A6 n6 q6, .slice A7 n7 q7, .slice (some ad) kids.length qc]) (by simp [results, Tryz.results19, go_sem, cR]) rfl ?_
              exact si_end (zs := [.int .i64 7, .int .i64 n, .string s, .int .i64 f3, .int .i64 f4, .string f5, .slice A6 n6 q6, .slice A7 n7 q7, .slice (some ad) kids.length qc]) HFULLc6.out HBLc6.out hB HX.out
      have qk7 : (kind == 7) = false := by simpa using h7
      by_cases h8 : kind = 8
      · subst h8
        obtain ⟨a, b, c, rfl⟩ : ∃ a b c, M = [a, b, c] := by
          have h2 : kidsOf 8 = 3 := by decide
          have h3 := HKO.out
          have h1 : M.length = 3 := by omega
          match M, h1 with
          | [a, b, c], _ => exact ⟨a, b, c, rfl⟩
        have h2 : kidsOf 8 = 3 := by decide
        have h3 := HKO.out
        have hk1 : (kids.length : Int) = 3 := by omega
        clear h2 h3
        have l0 : (0 : Int) < (kids.length : Int) := by omega
        have l1 : (1 : Int) < (kids.length : Int) := by omega
        have l2 : (2 : Int) < (kids.length : Int) := by omega
        obtain ⟨ada, ya, c0, c1, c2, c3, c4, c5, c6, c7, c8, ea, hya, hga, z0, z1, z2, z3, z4, z5, z6, z7, z8⟩ := rt_at HT.out hML.symm (k := 0) (by rw [← hML]; simp)
        obtain ⟨ad, rfl⟩ : ∃ ad, A = some ad := ⟨_, ea⟩
        injection ea with ea
        subst ea
        obtain rfl : a = ya := by simpa using hga
        clear hga
        obtain ⟨ka, a1, a2, va, la, a3, a4, a5, aA, aB, aC, aD, aE, aG, aH, aJ, epa, ec, -, hva, -⟩ := filtDs_all hya
        simp only [List.cons.injEq, and_true] at ec
        obtain ⟨rfl, rfl, rfl, rfl, rfl, rfl, rfl, rfl, rfl⟩ := ec
        have Ha := Lib.hid (show RT (fun b => b < B ∨ w.heap.size + 3 ≤ b) wr (filtDs a) _ from hya)
        have HVa := Lib.hid hva
        have EPa := Lib.hid epa
        clear hya hva epa
        have au0 : wr.cell? ad = some (.int .i64 ka) := by simpa [Addr.add] using z0
        have au1 : wr.cell? ⟨ad.block, ad.off + 1, none⟩ = some (.int .i64 a1) := by simpa [Addr.add] using z1
        have au2 : wr.cell? ⟨ad.block, ad.off + 2, none⟩ = some (.string a2) := by simpa [Addr.add] using z2
        have au3 : wr.cell? ⟨ad.block, ad.off + 3, none⟩ = some (.int .i64 a3) := by simpa [Addr.add] using z3
        have au4 : wr.cell? ⟨ad.block, ad.off + 4, none⟩ = some (.int .i64 a4) := by simpa [Addr.add] using z4
        have au5 : wr.cell? ⟨ad.block, ad.off + 5, none⟩ = some (.string a5) := by simpa [Addr.add] using z5
        have au6 : wr.cell? ⟨ad.block, ad.off + 6, none⟩ = some (.slice aA aB aC) := by simpa [Addr.add] using z6
        have au7 : wr.cell? ⟨ad.block, ad.off + 7, none⟩ = some (.slice aD aE aG) := by simpa [Addr.add] using z7
        have au8 : wr.cell? ⟨ad.block, ad.off + 8, none⟩ = some (.slice aH la.length aJ) := by simpa [Addr.add] using z8
        clear z0 z1 z2 z3 z4 z5 z6 z7 z8
        obtain ⟨adb, yb, c0, c1, c2, c3, c4, c5, c6, c7, c8, eb, hyb, hgb, z0, z1, z2, z3, z4, z5, z6, z7, z8⟩ := rt_at HT.out hML.symm (k := 1) (by rw [← hML]; simp)
        injection eb with eb
        subst eb
        obtain rfl : b = yb := by simpa using hgb
        clear hgb
        obtain ⟨kb, b1, b2, vb, lb, b3, b4, b5, bA, bB, bC, bD, bE, bG, bH, bJ, epb, ec, -, hvb, -⟩ := filtDs_all hyb
        simp only [List.cons.injEq, and_true] at ec
        obtain ⟨rfl, rfl, rfl, rfl, rfl, rfl, rfl, rfl, rfl⟩ := ec
        have Hb := Lib.hid (show RT (fun b => b < B ∨ w.heap.size + 3 ≤ b) wr (filtDs b) _ from hyb)
        have HVb := Lib.hid hvb
        have EPb := Lib.hid epb
        clear hyb hvb epb
        have bu0 : wr.cell? ⟨ad.block, ad.off + 9, none⟩ = some (.int .i64 kb) := by simpa [Addr.add] using z0
        have bu1 : wr.cell? ⟨ad.block, ad.off + 10, none⟩ = some (.int .i64 b1) := by simpa [Addr.add] using z1
        have bu2 : wr.cell? ⟨ad.block, ad.off + 11, none⟩ = some (.string b2) := by simpa [Addr.add] using z2
        have bu3 : wr.cell? ⟨ad.block, ad.off + 12, none⟩ = some (.int .i64 b3) := by simpa [Addr.add] using z3
        have bu4 : wr.cell? ⟨ad.block, ad.off + 13, none⟩ = some (.int .i64 b4) := by simpa [Addr.add] using z4
        have bu5 : wr.cell? ⟨ad.block, ad.off + 14, none⟩ = some (.string b5) := by simpa [Addr.add] using z5
        have bu6 : wr.cell? ⟨ad.block, ad.off + 15, none⟩ = some (.slice bA bB bC) := by simpa [Addr.add] using z6
        have bu7 : wr.cell? ⟨ad.block, ad.off + 16, none⟩ = some (.slice bD bE bG) := by simpa [Addr.add] using z7
        have bu8 : wr.cell? ⟨ad.block, ad.off + 17, none⟩ = some (.slice bH lb.length bJ) := by simpa [Addr.add] using z8
        clear z0 z1 z2 z3 z4 z5 z6 z7 z8
        obtain ⟨adc, yc, c0, c1, c2, c3, c4, c5, c6, c7, c8, ec, hyc, hgc, z0, z1, z2, z3, z4, z5, z6, z7, z8⟩ := rt_at HT.out hML.symm (k := 2) (by rw [← hML]; simp)
        injection ec with ec
        subst ec
        obtain rfl : c = yc := by simpa using hgc
        clear hgc
        obtain ⟨kc, c1, c2, vc, lc, c3, c4, c5, cA, cB, cC, cD, cE, cG, cH, cJ, epc, ec, -, hvc, -⟩ := filtDs_all hyc
        simp only [List.cons.injEq, and_true] at ec
        obtain ⟨rfl, rfl, rfl, rfl, rfl, rfl, rfl, rfl, rfl⟩ := ec
        have Hc := Lib.hid (show RT (fun b => b < B ∨ w.heap.size + 3 ≤ b) wr (filtDs c) _ from hyc)
        have HVc := Lib.hid hvc
        have EPc := Lib.hid epc
        clear hyc hvc epc
        have cu0 : wr.cell? ⟨ad.block, ad.off + 18, none⟩ = some (.int .i64 kc) := by simpa [Addr.add] using z0
        have cu1 : wr.cell? ⟨ad.block, ad.off + 19, none⟩ = some (.int .i64 c1) := by simpa [Addr.add] using z1
        have cu2 : wr.cell? ⟨ad.block, ad.off + 20, none⟩ = some (.string c2) := by simpa [Addr.add] using z2
        have cu3 : wr.cell? ⟨ad.block, ad.off + 21, none⟩ = some (.int .i64 c3) := by simpa [Addr.add] using z3
        have cu4 : wr.cell? ⟨ad.block, ad.off + 22, none⟩ = some (.int .i64 c4) := by simpa [Addr.add] using z4
        have cu5 : wr.cell? ⟨ad.block, ad.off + 23, none⟩ = some (.string c5) := by simpa [Addr.add] using z5
        have cu6 : wr.cell? ⟨ad.block, ad.off + 24, none⟩ = some (.slice cA cB cC) := by simpa [Addr.add] using z6
        have cu7 : wr.cell? ⟨ad.block, ad.off + 25, none⟩ = some (.slice cD cE cG) := by simpa [Addr.add] using z7
        have cu8 : wr.cell? ⟨ad.block, ad.off + 26, none⟩ = some (.slice cH lc.length cJ) := by simpa [Addr.add] using z8
        clear z0 z1 z2 z3 z4 z5 z6 z7 z8
        go_wp2_with fail
        refine (is2 ka a1 a2 _ _ _ _ _ _ 18 19 wr).mono ?_
        rintro e wc7 ⟨r, rfl, hr, hbx⟩
        have HBLc7 := Lib.hid (HBL.out.trans (hbx.mono HBL.out.size))
        have HWRc7 := Lib.hid (HWR.out.trans (hbx.mono HWR.out.size))
        have HPRc7 := Lib.hid (HPR.out.below hbx)
        have HBRc7 := Lib.hid (HBR.out.below hbx)
        have HBOc7 := Lib.hid (HBO.out.below hbx)
        have HFULLc7 := Lib.hid (HFULL.out.below hbx)
        have Hac7 := Lib.hid (Ha.out.below hbx)
        have Hbc7 := Lib.hid (Hb.out.below hbx)
        have Hcc7 := Lib.hid (Hc.out.below hbx)
        have hzc7 := hbx.size
        have au0c7 := cell_below au0 hbx
        have au1c7 := cell_below au1 hbx
        have au2c7 := cell_below au2 hbx
        have au3c7 := cell_below au3 hbx
        have au4c7 := cell_below au4 hbx
        have au5c7 := cell_below au5 hbx
        have au6c7 := cell_below au6 hbx
        have au7c7 := cell_below au7 hbx
        have au8c7 := cell_below au8 hbx
        have bu0c7 := cell_below bu0 hbx
        have bu1c7 := cell_below bu1 hbx
        have bu2c7 := cell_below bu2 hbx
        have bu3c7 := cell_below bu3 hbx
        have bu4c7 := cell_below bu4 hbx
        have bu5c7 := cell_below bu5 hbx
        have bu6c7 := cell_below bu6 hbx
        have bu7c7 := cell_below bu7 hbx
        have bu8c7 := cell_below bu8 hbx
        have cu0c7 := cell_below cu0 hbx
        have cu1c7 := cell_below cu1 hbx
        have cu2c7 := cell_below cu2 hbx
        have cu3c7 := cell_below cu3 hbx
        have cu4c7 := cell_below cu4 hbx
        have cu5c7 := cell_below cu5 hbx
        have cu6c7 := cell_below cu6 hbx
        have cu7c7 := cell_below cu7 hbx
        have cu8c7 := cell_below cu8 hbx
        clear au0 au1 au2 au3 au4 au5 au6 au7 au8 bu0 bu1 bu2 bu3 bu4 bu5 bu6 bu7 bu8 cu0 cu1 cu2 cu3 cu4 cu5 cu6 cu7 cu8
        clear hbx cP fP cO fO cR fR
        obtain ⟨cP, fP⟩ := blk_rules HPRc7.out
        obtain ⟨cR, fR⟩ := blk_rules HBRc7.out
        obtain ⟨cO, fO⟩ := blk_rules HBOc7.out
        cases r with
        | true =>
          have N1 := Lib.hid (show ka = 18 ∨ ka = 19 from hr.1 rfl)
          clear hr
          have HX := Lib.hid (HSK.out.trans (show slimK _ _ = a from by (have h_0 := N1.out; rw [EPa.out, EPb.out, EPc.out]; simp [slimK, fKind, fVal, h_0])))
          go_wp2
          refine bodyPost_ret (v := .agg #[.int .i64 ka, .int .i64 a1, .string a2, .int .i64 a3, .int .i64 a4, .string a5, .slice aA aB aC, .slice aD aE aG, .slice aH la.length aJ]) (by simp [results, Tryz.results19, go_sem, cR]) rfl ?_
          exact si_end (zs := [.int .i64 ka, .int .i64 a1, .string a2, .int .i64 a3, .int .i64 a4, .string a5, .slice aA aB aC, .slice aD aE aG, .slice aH la.length aJ]) Hac7.out HBLc7.out hB HX.out
        | false =>
          have N1 := Lib.hid (show ¬ (ka = 18 ∨ ka = 19) from fun h => by have h1 := hr.2 h; cases h1)
          clear hr
          go_wp2_with fail
          refine (is1 ka a1 a2 _ _ _ _ _ _ 2 wc7).mono ?_
          rintro e wc8 ⟨r, rfl, hr, hbx⟩
          have HBLc8 := Lib.hid (HBLc7.out.trans (hbx.mono HBLc7.out.size))
          have HWRc8 := Lib.hid (HWRc7.out.trans (hbx.mono HWRc7.out.size))
          have HPRc8 := Lib.hid (HPRc7.out.below hbx)
          have HBRc8 := Lib.hid (HBRc7.out.below hbx)
          have HBOc8 := Lib.hid (HBOc7.out.below hbx)
          have HFULLc8 := Lib.hid (HFULLc7.out.below hbx)
          have Hac8 := Lib.hid (Hac7.out.below hbx)
          have Hbc8 := Lib.hid (Hbc7.out.below hbx)
          have Hcc8 := Lib.hid (Hcc7.out.below hbx)
          have hzc8 := hbx.size
          have au0c8 := cell_below au0c7 hbx
          have au1c8 := cell_below au1c7 hbx
          have au2c8 := cell_below au2c7 hbx
          have au3c8 := cell_below au3c7 hbx
          have au4c8 := cell_below au4c7 hbx
          have au5c8 := cell_below au5c7 hbx
          have au6c8 := cell_below au6c7 hbx
          have au7c8 := cell_below au7c7 hbx
          have au8c8 := cell_below au8c7 hbx
          have bu0c8 := cell_below bu0c7 hbx
          have bu1c8 := cell_below bu1c7 hbx
          have bu2c8 := cell_below bu2c7 hbx
          have bu3c8 := cell_below bu3c7 hbx
          have bu4c8 := cell_below bu4c7 hbx
          have bu5c8 := cell_below bu5c7 hbx
          have bu6c8 := cell_below bu6c7 hbx
          have bu7c8 := cell_below bu7c7 hbx
          have bu8c8 := cell_below bu8c7 hbx
          have cu0c8 := cell_below cu0c7 hbx
          have cu1c8 := cell_below cu1c7 hbx
          have cu2c8 := cell_below cu2c7 hbx
          have cu3c8 := cell_below cu3c7 hbx
          have cu4c8 := cell_below cu4c7 hbx
          have cu5c8 := cell_below cu5c7 hbx
          have cu6c8 := cell_below cu6c7 hbx
          have cu7c8 := cell_below cu7c7 hbx
          have cu8c8 := cell_below cu8c7 hbx
          clear au0c7 au1c7 au2c7 au3c7 au4c7 au5c7 au6c7 au7c7 au8c7 bu0c7 bu1c7 bu2c7 bu3c7 bu4c7 bu5c7 bu6c7 bu7c7 bu8c7 cu0c7 cu1c7 cu2c7 cu3c7 cu4c7 cu5c7 cu6c7 cu7c7 cu8c7
          clear hbx cP fP cO fO cR fR
          obtain ⟨cP, fP⟩ := blk_rules HPRc8.out
          obtain ⟨cR, fR⟩ := blk_rules HBRc8.out
          obtain ⟨cO, fO⟩ := blk_rules HBOc8.out
          cases r with
          | true =>
            have N2 := Lib.hid (show ka = 2 from hr.1 rfl)
            clear hr
            go_wp2_with fail
            refine (iOn_calls va [_, _, _, _, _] _ wr.heap.size (RDv.grow (Nat.le_refl _) ((thin_sub _ _ wr).trans (Sub.of_below HWRc8.out)) _ _ HVa.out)).mono ?_
            rintro e wc9 ⟨r, rfl, hr, hbx⟩
            have HBLc9 := Lib.hid (HBLc8.out.trans (hbx.mono HBLc8.out.size))
            have HWRc9 := Lib.hid (HWRc8.out.trans (hbx.mono HWRc8.out.size))
            have HPRc9 := Lib.hid (HPRc8.out.below hbx)
            have HBRc9 := Lib.hid (HBRc8.out.below hbx)
            have HBOc9 := Lib.hid (HBOc8.out.below hbx)
            have HFULLc9 := Lib.hid (HFULLc8.out.below hbx)
            have Hac9 := Lib.hid (Hac8.out.below hbx)
            have Hbc9 := Lib.hid (Hbc8.out.below hbx)
            have Hcc9 := Lib.hid (Hcc8.out.below hbx)
            have au0c9 := cell_below au0c8 hbx
            have au1c9 := cell_below au1c8 hbx
            have au2c9 := cell_below au2c8 hbx
            have au3c9 := cell_below au3c8 hbx
            have au4c9 := cell_below au4c8 hbx
            have au5c9 := cell_below au5c8 hbx
            have au6c9 := cell_below au6c8 hbx
            have au7c9 := cell_below au7c8 hbx
            have au8c9 := cell_below au8c8 hbx
            have bu0c9 := cell_below bu0c8 hbx
            have bu1c9 := cell_below bu1c8 hbx
            have bu2c9 := cell_below bu2c8 hbx
            have bu3c9 := cell_below bu3c8 hbx
            have bu4c9 := cell_below bu4c8 hbx
            have bu5c9 := cell_below bu5c8 hbx
            have bu6c9 := cell_below bu6c8 hbx
            have bu7c9 := cell_below bu7c8 hbx
            have bu8c9 := cell_below bu8c8 hbx
            have cu0c9 := cell_below cu0c8 hbx
            have cu1c9 := cell_below cu1c8 hbx
            have cu2c9 := cell_below cu2c8 hbx
            have cu3c9 := cell_below cu3c8 hbx
            have cu4c9 := cell_below cu4c8 hbx
            have cu5c9 := cell_below cu5c8 hbx
            have cu6c9 := cell_below cu6c8 hbx
            have cu7c9 := cell_below cu7c8 hbx
            have cu8c9 := cell_below cu8c8 hbx
            clear au0c8 au1c8 au2c8 au3c8 au4c8 au5c8 au6c8 au7c8 au8c8 bu0c8 bu1c8 bu2c8 bu3c8 bu4c8 bu5c8 bu6c8 bu7c8 bu8c8 cu0c8 cu1c8 cu2c8 cu3c8 cu4c8 cu5c8 cu6c8 cu7c8 cu8c8
            clear hbx cP fP cO fO cR fR
            obtain ⟨cP, fP⟩ := blk_rules HPRc9.out
            obtain ⟨cR, fR⟩ := blk_rules HBRc9.out
            obtain ⟨cO, fO⟩ := blk_rules HBOc9.out
            cases r with
            | true =>
              have N3 := Lib.hid (show onV va from hr.1 rfl)
              clear hr
              have HX := Lib.hid (HSK.out.trans (show slimK _ _ = b from by (have h_0 := N1.out; have h_1 := N2.out; have h_2 := N3.out; rw [EPa.out, EPb.out, EPc.out]; simp [slimK, fKind, fVal, h_0, h_1, h_2])))
              go_wp2
              refine bodyPost_ret (v := .agg #[.int .i64 kb, .int .i64 b1, .string b2, .int .i64 b3, .int .i64 b4, .string b5, .slice bA bB bC, .slice bD bE bG, .slice bH lb.length bJ]) (by simp [results, Tryz.results19, go_sem, cR]) rfl ?_
              exact si_end (zs := [.int .i64 kb, .int .i64 b1, .string b2, .int .i64 b3, .int .i64 b4, .string b5, .slice bA bB bC, .slice bD bE bG, .slice bH lb.length bJ]) Hbc9.out HBLc9.out hB HX.out
            | false =>
              have N3 := Lib.hid (show ¬ (onV va) from fun h => by have h1 := hr.2 h; cases h1)
              clear hr
              go_wp2_with fail
              refine (is1 ka a1 a2 _ _ _ _ _ _ 2 wc9).mono ?_
              rintro e wc10 ⟨r, rfl, hr, hbx⟩
              have HBLc10 := Lib.hid (HBLc9.out.trans (hbx.mono HBLc9.out.size))
              have HWRc10 := Lib.hid (HWRc9.out.trans (hbx.mono HWRc9.out.size))
              have HPRc10 := Lib.hid (HPRc9.out.below hbx)
              have HBRc10 := Lib.hid (HBRc9.out.below hbx)
              have HBOc10 := Lib.hid (HBOc9.out.below hbx)
              have HFULLc10 := Lib.hid (HFULLc9.out.below hbx)
              have Hac10 := Lib.hid (Hac9.out.below hbx)
              have Hbc10 := Lib.hid (Hbc9.out.below hbx)
              have Hcc10 := Lib.hid (Hcc9.out.below hbx)
              have hzc10 := hbx.size
              have au0c10 := cell_below au0c9 hbx
              have au1c10 := cell_below au1c9 hbx
              have au2c10 := cell_below au2c9 hbx
              have au3c10 := cell_below au3c9 hbx
              have au4c10 := cell_below au4c9 hbx
              have au5c10 := cell_below au5c9 hbx
              have au6c10 := cell_below au6c9 hbx
              have au7c10 := cell_below au7c9 hbx
              have au8c10 := cell_below au8c9 hbx
              have bu0c10 := cell_below bu0c9 hbx
              have bu1c10 := cell_below bu1c9 hbx
              have bu2c10 := cell_below bu2c9 hbx
              have bu3c10 := cell_below bu3c9 hbx
              have bu4c10 := cell_below bu4c9 hbx
              have bu5c10 := cell_below bu5c9 hbx
              have bu6c10 := cell_below bu6c9 hbx
              have bu7c10 := cell_below bu7c9 hbx
              have bu8c10 := cell_below bu8c9 hbx
              have cu0c10 := cell_below cu0c9 hbx
              have cu1c10 := cell_below cu1c9 hbx
              have cu2c10 := cell_below cu2c9 hbx
              have cu3c10 := cell_below cu3c9 hbx
              have cu4c10 := cell_below cu4c9 hbx
              have cu5c10 := cell_below cu5c9 hbx
              have cu6c10 := cell_below cu6c9 hbx
              have cu7c10 := cell_below cu7c9 hbx
              have cu8c10 := cell_below cu8c9 hbx
              clear au0c9 au1c9 au2c9 au3c9 au4c9 au5c9 au6c9 au7c9 au8c9 bu0c9 bu1c9 bu2c9 bu3c9 bu4c9 bu5c9 bu6c9 bu7c9 bu8c9 cu0c9 cu1c9 cu2c9 cu3c9 cu4c9 cu5c9 cu6c9 cu7c9 cu8c9
              clear hbx cP fP cO fO cR fR
              obtain ⟨cP, fP⟩ := blk_rules HPRc10.out
              obtain ⟨cR, fR⟩ := blk_rules HBRc10.out
              obtain ⟨cO, fO⟩ := blk_rules HBOc10.out
              cases r with
              | true =>
                have N4 := Lib.hid (show ka = 2 from hr.1 rfl)
                clear hr
                have HX := Lib.hid (HSK.out.trans (show slimK _ _ = c from by (have h_0 := N1.out; have h_1 := N2.out; have h_2 := N3.out; rw [EPa.out, EPb.out, EPc.out]; simp [slimK, fKind, fVal, h_0, h_1, h_2])))
                go_wp2
                refine bodyPost_ret (v := .agg #[.int .i64 kc, .int .i64 c1, .string c2, .int .i64 c3, .int .i64 c4, .string c5, .slice cA cB cC, .slice cD cE cG, .slice cH lc.length cJ]) (by simp [results, Tryz.results19, go_sem, cR]) rfl ?_
                exact si_end (zs := [.int .i64 kc, .int .i64 c1, .string c2, .int .i64 c3, .int .i64 c4, .string c5, .slice cA cB cC, .slice cD cE cG, .slice cH lc.length cJ]) Hcc10.out HBLc10.out hB HX.out
              | false =>
                have N4 := Lib.hid (show ¬ (ka = 2) from fun h => by have h1 := hr.2 h; cases h1)
                clear hr
                exact absurd N2.out N4.out
          | false =>
            have N2 := Lib.hid (show ¬ (ka = 2) from fun h => by have h1 := hr.2 h; cases h1)
            clear hr
            go_wp2_with fail
            refine (is1 ka a1 a2 _ _ _ _ _ _ 2 wc8).mono ?_
            rintro e wc11 ⟨r, rfl, hr, hbx⟩
            have HBLc11 := Lib.hid (HBLc8.out.trans (hbx.mono HBLc8.out.size))
            have HWRc11 := Lib.hid (HWRc8.out.trans (hbx.mono HWRc8.out.size))
            have HPRc11 := Lib.hid (HPRc8.out.below hbx)
            have HBRc11 := Lib.hid (HBRc8.out.below hbx)
            have HBOc11 := Lib.hid (HBOc8.out.below hbx)
            have HFULLc11 := Lib.hid (HFULLc8.out.below hbx)
            have Hac11 := Lib.hid (Hac8.out.below hbx)
            have Hbc11 := Lib.hid (Hbc8.out.below hbx)
            have Hcc11 := Lib.hid (Hcc8.out.below hbx)
            have hzc11 := hbx.size
            have au0c11 := cell_below au0c8 hbx
            have au1c11 := cell_below au1c8 hbx
            have au2c11 := cell_below au2c8 hbx
            have au3c11 := cell_below au3c8 hbx
            have au4c11 := cell_below au4c8 hbx
            have au5c11 := cell_below au5c8 hbx
            have au6c11 := cell_below au6c8 hbx
            have au7c11 := cell_below au7c8 hbx
            have au8c11 := cell_below au8c8 hbx
            have bu0c11 := cell_below bu0c8 hbx
            have bu1c11 := cell_below bu1c8 hbx
            have bu2c11 := cell_below bu2c8 hbx
            have bu3c11 := cell_below bu3c8 hbx
            have bu4c11 := cell_below bu4c8 hbx
            have bu5c11 := cell_below bu5c8 hbx
            have bu6c11 := cell_below bu6c8 hbx
            have bu7c11 := cell_below bu7c8 hbx
            have bu8c11 := cell_below bu8c8 hbx
            have cu0c11 := cell_below cu0c8 hbx
            have cu1c11 := cell_below cu1c8 hbx
            have cu2c11 := cell_below cu2c8 hbx
            have cu3c11 := cell_below cu3c8 hbx
            have cu4c11 := cell_below cu4c8 hbx
            have cu5c11 := cell_below cu5c8 hbx
            have cu6c11 := cell_below cu6c8 hbx
            have cu7c11 := cell_below cu7c8 hbx
            have cu8c11 := cell_below cu8c8 hbx
            clear au0c8 au1c8 au2c8 au3c8 au4c8 au5c8 au6c8 au7c8 au8c8 bu0c8 bu1c8 bu2c8 bu3c8 bu4c8 bu5c8 bu6c8 bu7c8 bu8c8 cu0c8 cu1c8 cu2c8 cu3c8 cu4c8 cu5c8 cu6c8 cu7c8 cu8c8
            clear hbx cP fP cO fO cR fR
            obtain ⟨cP, fP⟩ := blk_rules HPRc11.out
            obtain ⟨cR, fR⟩ := blk_rules HBRc11.out
            obtain ⟨cO, fO⟩ := blk_rules HBOc11.out
            cases r with
            | true =>
              have N4 := Lib.hid (show ka = 2 from hr.1 rfl)
              clear hr
              exact absurd N4.out N2.out
            | false =>
              have N4 := Lib.hid (show ¬ (ka = 2) from fun h => by have h1 := hr.2 h; cases h1)
              clear hr
              have HX := Lib.hid (HSK.out.trans (show slimK _ _ = (.mk 8 n s v [a, b, c]) from by (have h_0 := N1.out; have h_1 := N2.out; rw [EPa.out, EPb.out, EPc.out]; simp [slimK, fKind, fVal, h_0, h_1])))
              go_wp2
              refine bodyPost_ret (v := .agg #[.int .i64 8, .int .i64 n, .string s, .int .i64 f3, .int .i64 f4, .string f5, .slice A6 n6 q6, .slice A7 n7 q7, .slice (some ad) kids.length qc]) (by simp [results, Tryz.results19, go_sem, cR]) rfl ?_
              exact si_end (zs := [.int .i64 8, .int .i64 n, .string s, .int .i64 f3, .int .i64 f4, .string f5, .slice A6 n6 q6, .slice A7 n7 q7, .slice (some ad) kids.length qc]) HFULLc11.out HBLc11.out hB HX.out
      have qk8 : (kind == 8) = false := by simpa using h8
      by_cases h9 : kind = 9
      · subst h9
        obtain ⟨a, b, rfl⟩ : ∃ a b, M = [a, b] := by
          have h2 : kidsOf 9 = 2 := by decide
          have h3 := HKO.out
          have h1 : M.length = 2 := by omega
          match M, h1 with
          | [a, b], _ => exact ⟨a, b, rfl⟩
        have h2 : kidsOf 9 = 2 := by decide
        have h3 := HKO.out
        have hk1 : (kids.length : Int) = 2 := by omega
        clear h2 h3
        have l0 : (0 : Int) < (kids.length : Int) := by omega
        have l1 : (1 : Int) < (kids.length : Int) := by omega
        obtain ⟨ada, ya, c0, c1, c2, c3, c4, c5, c6, c7, c8, ea, hya, hga, z0, z1, z2, z3, z4, z5, z6, z7, z8⟩ := rt_at HT.out hML.symm (k := 0) (by rw [← hML]; simp)
        obtain ⟨ad, rfl⟩ : ∃ ad, A = some ad := ⟨_, ea⟩
        injection ea with ea
        subst ea
        obtain rfl : a = ya := by simpa using hga
        clear hga
        obtain ⟨ka, a1, a2, va, la, a3, a4, a5, aA, aB, aC, aD, aE, aG, aH, aJ, epa, ec, -, hva, -⟩ := filtDs_all hya
        simp only [List.cons.injEq, and_true] at ec
        obtain ⟨rfl, rfl, rfl, rfl, rfl, rfl, rfl, rfl, rfl⟩ := ec
        have Ha := Lib.hid (show RT (fun b => b < B ∨ w.heap.size + 3 ≤ b) wr (filtDs a) _ from hya)
        have HVa := Lib.hid hva
        have EPa := Lib.hid epa
        clear hya hva epa
        have au0 : wr.cell? ad = some (.int .i64 ka) := by simpa [Addr.add] using z0
        have au1 : wr.cell? ⟨ad.block, ad.off + 1, none⟩ = some (.int .i64 a1) := by simpa [Addr.add] using z1
        have au2 : wr.cell? ⟨ad.block, ad.off + 2, none⟩ = some (.string a2) := by simpa [Addr.add] using z2
        have au3 : wr.cell? ⟨ad.block, ad.off + 3, none⟩ = some (.int .i64 a3) := by simpa [Addr.add] using z3
        have au4 : wr.cell? ⟨ad.block, ad.off + 4, none⟩ = some (.int .i64 a4) := by simpa [Addr.add] using z4
        have au5 : wr.cell? ⟨ad.block, ad.off + 5, none⟩ = some (.string a5) := by simpa [Addr.add] using z5
        have au6 : wr.cell? ⟨ad.block, ad.off + 6, none⟩ = some (.slice aA aB aC) := by simpa [Addr.add] using z6
        have au7 : wr.cell? ⟨ad.block, ad.off + 7, none⟩ = some (.slice aD aE aG) := by simpa [Addr.add] using z7
        have au8 : wr.cell? ⟨ad.block, ad.off + 8, none⟩ = some (.slice aH la.length aJ) := by simpa [Addr.add] using z8
        clear z0 z1 z2 z3 z4 z5 z6 z7 z8
        obtain ⟨adb, yb, c0, c1, c2, c3, c4, c5, c6, c7, c8, eb, hyb, hgb, z0, z1, z2, z3, z4, z5, z6, z7, z8⟩ := rt_at HT.out hML.symm (k := 1) (by rw [← hML]; simp)
        injection eb with eb
        subst eb
        obtain rfl : b = yb := by simpa using hgb
        clear hgb
        obtain ⟨kb, b1, b2, vb, lb, b3, b4, b5, bA, bB, bC, bD, bE, bG, bH, bJ, epb, ec, -, hvb, -⟩ := filtDs_all hyb
        simp only [List.cons.injEq, and_true] at ec
        obtain ⟨rfl, rfl, rfl, rfl, rfl, rfl, rfl, rfl, rfl⟩ := ec
        have Hb := Lib.hid (show RT (fun b => b < B ∨ w.heap.size + 3 ≤ b) wr (filtDs b) _ from hyb)
        have HVb := Lib.hid hvb
        have EPb := Lib.hid epb
        clear hyb hvb epb
        have bu0 : wr.cell? ⟨ad.block, ad.off + 9, none⟩ = some (.int .i64 kb) := by simpa [Addr.add] using z0
        have bu1 : wr.cell? ⟨ad.block, ad.off + 10, none⟩ = some (.int .i64 b1) := by simpa [Addr.add] using z1
        have bu2 : wr.cell? ⟨ad.block, ad.off + 11, none⟩ = some (.string b2) := by simpa [Addr.add] using z2
        have bu3 : wr.cell? ⟨ad.block, ad.off + 12, none⟩ = some (.int .i64 b3) := by simpa [Addr.add] using z3
        have bu4 : wr.cell? ⟨ad.block, ad.off + 13, none⟩ = some (.int .i64 b4) := by simpa [Addr.add] using z4
        have bu5 : wr.cell? ⟨ad.block, ad.off + 14, none⟩ = some (.string b5) := by simpa [Addr.add] using z5
        have bu6 : wr.cell? ⟨ad.block, ad.off + 15, none⟩ = some (.slice bA bB bC) := by simpa [Addr.add] using z6
        have bu7 : wr.cell? ⟨ad.block, ad.off + 16, none⟩ = some (.slice bD bE bG) := by simpa [Addr.add] using z7
        have bu8 : wr.cell? ⟨ad.block, ad.off + 17, none⟩ = some (.slice bH lb.length bJ) := by simpa [Addr.add] using z8
        clear z0 z1 z2 z3 z4 z5 z6 z7 z8
        go_wp2_with fail
        refine (is1 ka a1 a2 _ _ _ _ _ _ 2 wr).mono ?_
        rintro e wc12 ⟨r, rfl, hr, hbx⟩
        have HBLc12 := Lib.hid (HBL.out.trans (hbx.mono HBL.out.size))
        have HWRc12 := Lib.hid (HWR.out.trans (hbx.mono HWR.out.size))
        have HPRc12 := Lib.hid (HPR.out.below hbx)
        have HBRc12 := Lib.hid (HBR.out.below hbx)
        have HBOc12 := Lib.hid (HBO.out.below hbx)
        have HFULLc12 := Lib.hid (HFULL.out.below hbx)
        have Hac12 := Lib.hid (Ha.out.below hbx)
        have Hbc12 := Lib.hid (Hb.out.below hbx)
        have hzc12 := hbx.size
        have au0c12 := cell_below au0 hbx
        have au1c12 := cell_below au1 hbx
        have au2c12 := cell_below au2 hbx
        have au3c12 := cell_below au3 hbx
        have au4c12 := cell_below au4 hbx
        have au5c12 := cell_below au5 hbx
        have au6c12 := cell_below au6 hbx
        have au7c12 := cell_below au7 hbx
        have au8c12 := cell_below au8 hbx
        have bu0c12 := cell_below bu0 hbx
        have bu1c12 := cell_below bu1 hbx
        have bu2c12 := cell_below bu2 hbx
        have bu3c12 := cell_below bu3 hbx
        have bu4c12 := cell_below bu4 hbx
        have bu5c12 := cell_below bu5 hbx
        have bu6c12 := cell_below bu6 hbx
        have bu7c12 := cell_below bu7 hbx
        have bu8c12 := cell_below bu8 hbx
        clear au0 au1 au2 au3 au4 au5 au6 au7 au8 bu0 bu1 bu2 bu3 bu4 bu5 bu6 bu7 bu8
        clear hbx cP fP cO fO cR fR
        obtain ⟨cP, fP⟩ := blk_rules HPRc12.out
        obtain ⟨cR, fR⟩ := blk_rules HBRc12.out
        obtain ⟨cO, fO⟩ := blk_rules HBOc12.out
        cases r with
        | false =>
          have N1 := Lib.hid (show ¬ (ka = 2) from fun h => by have h1 := hr.2 h; cases h1)
          clear hr
          have HX := Lib.hid (HSK.out.trans (show slimK _ _ = (.mk 9 n s v [a, b]) from by (have h_0 := N1.out; rw [EPa.out, EPb.out]; simp [slimK, fKind, fVal, h_0])))
          go_wp2
          refine bodyPost_ret (v := .agg #[.int .i64 9, .int .i64 n, .string s, .int .i64 f3, .int .i64 f4, .string f5, .slice A6 n6 q6, .slice A7 n7 q7, .slice (some ad) kids.length qc]) (by simp [results, Tryz.results19, go_sem, cR]) rfl ?_
          exact si_end (zs := [.int .i64 9, .int .i64 n, .string s, .int .i64 f3, .int .i64 f4, .string f5, .slice A6 n6 q6, .slice A7 n7 q7, .slice (some ad) kids.length qc]) HFULLc12.out HBLc12.out hB HX.out
        | true =>
          have N1 := Lib.hid (show ka = 2 from hr.1 rfl)
          clear hr
          go_wp2_with fail
          refine (is1 kb b1 b2 _ _ _ _ _ _ 2 wc12).mono ?_
          rintro e wc13 ⟨r, rfl, hr, hbx⟩
          have HBLc13 := Lib.hid (HBLc12.out.trans (hbx.mono HBLc12.out.size))
          have HWRc13 := Lib.hid (HWRc12.out.trans (hbx.mono HWRc12.out.size))
          have HPRc13 := Lib.hid (HPRc12.out.below hbx)
          have HBRc13 := Lib.hid (HBRc12.out.below hbx)
          have HBOc13 := Lib.hid (HBOc12.out.below hbx)
          have HFULLc13 := Lib.hid (HFULLc12.out.below hbx)
          have Hac13 := Lib.hid (Hac12.out.below hbx)
          have Hbc13 := Lib.hid (Hbc12.out.below hbx)
          have hzc13 := hbx.size
          have au0c13 := cell_below au0c12 hbx
          have au1c13 := cell_below au1c12 hbx
          have au2c13 := cell_below au2c12 hbx
          have au3c13 := cell_below au3c12 hbx
          have au4c13 := cell_below au4c12 hbx
          have au5c13 := cell_below au5c12 hbx
          have au6c13 := cell_below au6c12 hbx
          have au7c13 := cell_below au7c12 hbx
          have au8c13 := cell_below au8c12 hbx
          have bu0c13 := cell_below bu0c12 hbx
          have bu1c13 := cell_below bu1c12 hbx
          have bu2c13 := cell_below bu2c12 hbx
          have bu3c13 := cell_below bu3c12 hbx
          have bu4c13 := cell_below bu4c12 hbx
          have bu5c13 := cell_below bu5c12 hbx
          have bu6c13 := cell_below bu6c12 hbx
          have bu7c13 := cell_below bu7c12 hbx
          have bu8c13 := cell_below bu8c12 hbx
          clear au0c12 au1c12 au2c12 au3c12 au4c12 au5c12 au6c12 au7c12 au8c12 bu0c12 bu1c12 bu2c12 bu3c12 bu4c12 bu5c12 bu6c12 bu7c12 bu8c12
          clear hbx cP fP cO fO cR fR
          obtain ⟨cP, fP⟩ := blk_rules HPRc13.out
          obtain ⟨cR, fR⟩ := blk_rules HBRc13.out
          obtain ⟨cO, fO⟩ := blk_rules HBOc13.out
          cases r with
          | false =>
            have N2 := Lib.hid (show ¬ (kb = 2) from fun h => by have h1 := hr.2 h; cases h1)
            clear hr
            have HX := Lib.hid (HSK.out.trans (show slimK _ _ = (.mk 9 n s v [a, b]) from by (have h_0 := N1.out; have h_1 := N2.out; rw [EPa.out, EPb.out]; simp [slimK, fKind, fVal, h_0, h_1])))
            go_wp2
            refine bodyPost_ret (v := .agg #[.int .i64 9, .int .i64 n, .string s, .int .i64 f3, .int .i64 f4, .string f5, .slice A6 n6 q6, .slice A7 n7 q7, .slice (some ad) kids.length qc]) (by simp [results, Tryz.results19, go_sem, cR]) rfl ?_
            exact si_end (zs := [.int .i64 9, .int .i64 n, .string s, .int .i64 f3, .int .i64 f4, .string f5, .slice A6 n6 q6, .slice A7 n7 q7, .slice (some ad) kids.length qc]) HFULLc13.out HBLc13.out hB HX.out
          | true =>
            have N2 := Lib.hid (show kb = 2 from hr.1 rfl)
            clear hr
            have hwz := HWRc13.out.size
            have hHb := HBOc13.out.lt
            have hHw : w.heap.size + 3 ≤ wc13.heap.size := by omega
            have HVWa := Lib.hid (show RDv wc13 wr.heap.size (valDs va) _ from RDv.grow (Nat.le_refl _) ((thin_sub _ _ wr).trans (Sub.of_below HWRc13.out)) _ _ HVa.out)
            have HVWb := Lib.hid (show RDv wc13 wr.heap.size (valDs vb) _ from RDv.grow (Nat.le_refl _) ((thin_sub _ _ wr).trans (Sub.of_below HWRc13.out)) _ _ HVb.out)
            have OA := Lib.hid (show ValOk va from by have h1 := fform_val (HFM.out.2 a (by simp)); rw [EPa.out] at h1; exact h1)
            have OB := Lib.hid (show ValOk vb from by have h1 := fform_val (HFM.out.2 b (by simp)); rw [EPb.out] at h1; exact h1)
            have kS := Lib.hid (show ∀ w' : World, Below wc13.heap.size wc13 w' → (w'.cell? ⟨w.heap.size, 0, none⟩ = some (.int .i64 9) ∧ w'.cell? ⟨ad.block, ad.off + 3, none⟩ = some (.int .i64 a3) ∧ w'.cell? ⟨ad.block, ad.off + 4, none⟩ = some (.int .i64 a4) ∧ w'.cell? ⟨ad.block, ad.off + 5, none⟩ = some (.string a5) ∧ w'.cell? ⟨ad.block, ad.off + 6, none⟩ = some (.slice aA aB aC) ∧ w'.cell? ⟨ad.block, ad.off + 7, none⟩ = some (.slice aD aE aG) ∧ w'.cell? ⟨ad.block, ad.off + 12, none⟩ = some (.int .i64 b3) ∧ w'.cell? ⟨ad.block, ad.off + 13, none⟩ = some (.int .i64 b4) ∧ w'.cell? ⟨ad.block, ad.off + 14, none⟩ = some (.string b5) ∧ w'.cell? ⟨ad.block, ad.off + 15, none⟩ = some (.slice bA bB bC) ∧ w'.cell? ⟨ad.block, ad.off + 16, none⟩ = some (.slice bD bE bG)) from fun w' hb => ⟨(HPRc13.out.below hb).cell 0, cell_below au3c13 hb, cell_below au4c13 hb, cell_below au5c13 hb, cell_below au6c13 hb, cell_below au7c13 hb, cell_below bu3c13 hb, cell_below bu4c13 hb, cell_below bu5c13 hb, cell_below bu6c13 hb, cell_below bu7c13 hb⟩)
            have gA := Lib.hid (show Below wc13.heap.size wc13 wc13.drew from (Below.refl _ _).drew)
            have gG := Lib.hid (show Below wc13.heap.size wc13 (wc13.alloc (.cells #[.int .i64 0, .int .i64 0, .string ⟨#[]⟩, .slice none 0 0, .slice none 0 0] 32)).drew from (below_box wc13 _).drew)
            have kA := Lib.hid (kS.out _ gA.out)
            have kG := Lib.hid (kS.out _ gG.out)
            clear au0c13 au1c13 au2c13 au3c13 au4c13 au5c13 au6c13 au7c13 au8c13 bu0c13 bu1c13 bu2c13 bu3c13 bu4c13 bu5c13 bu6c13 bu7c13 bu8c13
            go_upto_region 34 with fail
            go_region_held3 (fun w' => w'.cell? ⟨w.heap.size, 0, none⟩ = some (.int .i64 9) ∧ w'.cell? ⟨ad.block, ad.off + 3, none⟩ = some (.int .i64 a3) ∧ w'.cell? ⟨ad.block, ad.off + 4, none⟩ = some (.int .i64 a4) ∧ w'.cell? ⟨ad.block, ad.off + 5, none⟩ = some (.string a5) ∧ w'.cell? ⟨ad.block, ad.off + 6, none⟩ = some (.slice aA aB aC) ∧ w'.cell? ⟨ad.block, ad.off + 7, none⟩ = some (.slice aD aE aG) ∧ w'.cell? ⟨ad.block, ad.off + 12, none⟩ = some (.int .i64 b3) ∧ w'.cell? ⟨ad.block, ad.off + 13, none⟩ = some (.int .i64 b4) ∧ w'.cell? ⟨ad.block, ad.off + 14, none⟩ = some (.string b5) ∧ w'.cell? ⟨ad.block, ad.off + 15, none⟩ = some (.slice bA bB bC) ∧ w'.cell? ⟨ad.block, ad.off + 16, none⟩ = some (.slice bD bE bG))
              (first | (with_reducible exact kA.out) | (with_reducible exact kC.out) | (with_reducible exact kD.out) | (with_reducible exact kE.out) | (with_reducible exact kG.out) | (with_reducible exact kH.out) | fail "keep")
              (first
                | (go_at_call 44; (refine (pair_at hwz HVWa.out HVWb.out OA.out OB.out (by decide) (by first | (with_reducible exact gA.out) | (with_reducible exact gG.out))).mono ?_); rintro e wq ⟨d0, d1, d2, A9, n9, c9, A10, n10, c10, rr, rfl, ht, hbq⟩; (first | (have hbB := Lib.hid (gA.out.trans (hbq.mono gA.out.size)); have HBq := hbB; clear hbB; have HTq := Lib.hid (show Two _ wc13.heap.size wq rr _ from ht)) | (have hbB := Lib.hid (gG.out.trans (hbq.mono gG.out.size)); have HBq := hbB; clear hbB; have HXq := Lib.hid (show Blk wq wc13.heap.size 32 [.int .i64 0, .int .i64 0, .string ⟨#[]⟩, .slice none 0 0, .slice none 0 0] from (Blk.new wc13 _ [.int .i64 0, .int .i64 0, .string ⟨#[]⟩, .slice none 0 0, .slice none 0 0]).drew.below hbq); obtain ⟨cX, fX⟩ := blk_rules HXq.out; have HTq := Lib.hid (show Two _ (wc13.heap.size + 1) wq rr _ from by have h5 : (wc13.alloc (.cells #[.int .i64 0, .int .i64 0, .string ⟨#[]⟩, .slice none 0 0, .slice none 0 0] 32)).drew.heap.size = wc13.heap.size + 1 := (show (wc13.alloc (.cells #[.int .i64 0, .int .i64 0, .string ⟨#[]⟩, .slice none 0 0, .slice none 0 0] 32)).heap.size = _ by simp); rw [h5] at ht; exact ht)) | fail "xq"); have kC := Lib.hid (kS.out wq HBq.out); have kD := Lib.hid (kS.out (wq.alloc (.cells #[.int .i64 d0, .int .i64 d1, .string d2, .slice A9 n9 c9, .slice A10 n10 c10] 32)) (HBq.out.trans ((below_box wq _).mono HBq.out.size))); have kE := Lib.hid (kS.out (wq.alloc (.cells #[.int .i64 0, .int .i64 0, .string ⟨#[]⟩, .slice none 0 0, .slice none 0 0] 32)) (HBq.out.trans ((below_box wq _).mono HBq.out.size))); have kH := Lib.hid (kS.out (((((wq.setCell ⟨wc13.heap.size, 0, none⟩ (.int .i64 d0)).setCell ⟨wc13.heap.size, 1, none⟩ (.int .i64 d1)).setCell ⟨wc13.heap.size, 2, none⟩ (.string d2)).setCell ⟨wc13.heap.size, 3, none⟩ (.slice A9 n9 c9)).setCell ⟨wc13.heap.size, 4, none⟩ (.slice A10 n10 c10)) (setAll_below (o := 0) [_, _, _, _, _] (Nat.le_refl _) HBq.out)); clear ht hbq)
                | fail "no arm")
            · obtain ⟨bx, ebx⟩ : ∃ b : Nat, b = wq.heap.size := ⟨_, rfl⟩
              obtain ⟨Wf, ef⟩ : ∃ W : World, W = wq.alloc (.cells #[.int .i64 d0, .int .i64 d1, .string d2, .slice A9 n9 c9, .slice A10 n10 c10] 32) := ⟨_, rfl⟩
              have HBf := Lib.hid (show Below wc13.heap.size wc13 Wf from by rw [ef]; exact HBq.out.trans ((below_box wq _).mono HBq.out.size))
              have HXf := Lib.hid (show Blk Wf bx 32 [.int .i64 d0, .int .i64 d1, .string d2, .slice A9 n9 c9, .slice A10 n10 c10] from by rw [ef, ebx]; exact Blk.new wq _ _)
              have HTf := Lib.hid (show Two _ wc13.heap.size Wf rr _ from by rw [ef]; exact HTq.out.keep (Nat.le_refl _) fun q _ hq => Below.heap_alloc _ _ _ hq)
              have hbxw : wc13.heap.size ≤ bx := by rw [ebx]; exact HBq.out.size
              rw [← ef, ← ebx]
              clear ef ebx cP fP cR fR cO fO kA kC kD kE kG kH gA gG kS HTq
              have HBLf := Lib.hid (HBLc13.out.trans (HBf.out.mono HBLc13.out.size))
              have HRf := Lib.hid (HBRc13.out.below HBf.out)
              obtain ⟨cR, fR⟩ := blk_rules HRf.out
              obtain ⟨cX, fX⟩ := blk_rules HXf.out
              have hRX : w.heap.size + 1 ≠ bx := by omega
              cases rr with
              | true =>
                obtain ⟨u, fp, hu, hO, hfp⟩ : ∃ u fp, twoV 9 va vb = some u ∧ ODv Wf (valDs u) [.int .i64 d0, .int .i64 d1, .string d2, .slice A9 n9 c9, .slice A10 n10 c10] fp ∧ ∀ q ∈ fp, wc13.heap.size ≤ q := by
                  rcases HTf.out with ⟨_, h⟩ | ⟨h, _⟩
                  · exact h
                  · cases h
                have HX := Lib.hid (HSK.out.trans (show slimK _ _ = fLit u from by have h0 := N1.out; have h1 := N2.out; rw [EPa.out, EPb.out, h0, h1]; exact (slimK_two (by decide)).1 u hu))
                have HZ := Lib.hid (show RT (fun b => b < B ∨ w.heap.size + 3 ≤ b) Wf (filtDs (fLit u)) [.int .i64 2, .int .i64 0, .string ⟨#[]⟩, .int .i64 d0, .int .i64 d1, .string d2, .slice A9 n9 c9, .slice A10 n10 c10, .slice none 0 0] from rdf_lit (vs := [.int .i64 d0, .int .i64 d1, .string d2, .slice A9 n9 c9, .slice A10 n10 c10]) (RT.of_od hO fun q hq => .inr (by have := hfp q hq; omega)))
                clear hu hO hfp
                go_wp2
                refine bodyPost_ret (v := .agg #[.int .i64 2, .int .i64 0, .string ⟨#[]⟩, .int .i64 d0, .int .i64 d1, .string d2, .slice A9 n9 c9, .slice A10 n10 c10, .slice none 0 0]) (by simp [results, Tryz.results19, go_sem, cR]) rfl ?_
                exact si_end (zs := [.int .i64 2, .int .i64 0, .string ⟨#[]⟩, .int .i64 d0, .int .i64 d1, .string d2, .slice A9 n9 c9, .slice A10 n10 c10, .slice none 0 0]) HZ.out HBLf.out hB HX.out
              | false =>
                have hn : twoV 9 va vb = none := by
                  rcases HTf.out with ⟨h, _⟩ | ⟨_, h⟩
                  · cases h
                  · exact h
                have HX := Lib.hid (HSK.out.trans (show slimK _ _ = fBad from by have h0 := N1.out; have h1 := N2.out; rw [EPa.out, EPb.out, h0, h1]; exact (slimK_two (by decide)).2 hn))
                have HZ := Lib.hid (show RT (fun b => b < B ∨ w.heap.size + 3 ≤ b) Wf (filtDs fBad) [.int .i64 19, .int .i64 0, .string ⟨#[]⟩, .int .i64 0, .int .i64 0, .string ⟨#[]⟩, .slice none 0 0, .slice none 0 0, .slice none 0 0] from rdf_bad _ _)
                clear hn
                go_wp2
                refine bodyPost_ret (v := .agg #[.int .i64 19, .int .i64 0, .string ⟨#[]⟩, .int .i64 0, .int .i64 0, .string ⟨#[]⟩, .slice none 0 0, .slice none 0 0, .slice none 0 0]) (by simp [results, Tryz.results19, go_sem, cR]) rfl ?_
                exact si_end (zs := [.int .i64 19, .int .i64 0, .string ⟨#[]⟩, .int .i64 0, .int .i64 0, .string ⟨#[]⟩, .slice none 0 0, .slice none 0 0, .slice none 0 0]) HZ.out HBLf.out hB HX.out
            · obtain ⟨bx, ebx⟩ : ∃ b : Nat, b = wc13.heap.size := ⟨_, rfl⟩
              obtain ⟨Wf, ef⟩ : ∃ W : World, W = (((((wq.setCell ⟨wc13.heap.size, 0, none⟩ (.int .i64 d0)).setCell ⟨wc13.heap.size, 1, none⟩ (.int .i64 d1)).setCell ⟨wc13.heap.size, 2, none⟩ (.string d2)).setCell ⟨wc13.heap.size, 3, none⟩ (.slice A9 n9 c9)).setCell ⟨wc13.heap.size, 4, none⟩ (.slice A10 n10 c10)) := ⟨_, rfl⟩
              have HBf := Lib.hid (show Below wc13.heap.size wc13 Wf from by rw [ef]; exact setAll_below (o := 0) [_, _, _, _, _] (Nat.le_refl _) HBq.out)
              have HXf := Lib.hid (show Blk Wf bx 32 [.int .i64 d0, .int .i64 d1, .string d2, .slice A9 n9 c9, .slice A10 n10 c10] from by rw [ef, ebx]; exact ((((HXq.out.set_ 0 _).set_ 1 _).set_ 2 _).set_ 3 _).set_ 4 _)
              have HTf := Lib.hid (show Two _ wc13.heap.size Wf rr _ from by rw [ef]; exact HTq.out.keep (Nat.le_succ _) fun q h1 _ => setAll_other [_, _, _, _, _] wq wc13.heap.size 0 q (by omega))
              have hbxw : wc13.heap.size ≤ bx := by rw [ebx]; exact Nat.le_refl _
              rw [← ef, ← ebx]
              clear ef ebx cP fP cR fR cO fO kA kC kD kE kG kH gA gG kS HTq cX fX
              have HBLf := Lib.hid (HBLc13.out.trans (HBf.out.mono HBLc13.out.size))
              have HRf := Lib.hid (HBRc13.out.below HBf.out)
              obtain ⟨cR, fR⟩ := blk_rules HRf.out
              obtain ⟨cX, fX⟩ := blk_rules HXf.out
              have hRX : w.heap.size + 1 ≠ bx := by omega
              cases rr with
              | true =>
                obtain ⟨u, fp, hu, hO, hfp⟩ : ∃ u fp, twoV 9 va vb = some u ∧ ODv Wf (valDs u) [.int .i64 d0, .int .i64 d1, .string d2, .slice A9 n9 c9, .slice A10 n10 c10] fp ∧ ∀ q ∈ fp, wc13.heap.size ≤ q := by
                  rcases HTf.out with ⟨_, h⟩ | ⟨h, _⟩
                  · exact h
                  · cases h
                have HX := Lib.hid (HSK.out.trans (show slimK _ _ = fLit u from by have h0 := N1.out; have h1 := N2.out; rw [EPa.out, EPb.out, h0, h1]; exact (slimK_two (by decide)).1 u hu))
                have HZ := Lib.hid (show RT (fun b => b < B ∨ w.heap.size + 3 ≤ b) Wf (filtDs (fLit u)) [.int .i64 2, .int .i64 0, .string ⟨#[]⟩, .int .i64 d0, .int .i64 d1, .string d2, .slice A9 n9 c9, .slice A10 n10 c10, .slice none 0 0] from rdf_lit (vs := [.int .i64 d0, .int .i64 d1, .string d2, .slice A9 n9 c9, .slice A10 n10 c10]) (RT.of_od hO fun q hq => .inr (by have := hfp q hq; omega)))
                clear hu hO hfp
                go_wp2
                refine bodyPost_ret (v := .agg #[.int .i64 2, .int .i64 0, .string ⟨#[]⟩, .int .i64 d0, .int .i64 d1, .string d2, .slice A9 n9 c9, .slice A10 n10 c10, .slice none 0 0]) (by simp [results, Tryz.results19, go_sem, cR]) rfl ?_
                exact si_end (zs := [.int .i64 2, .int .i64 0, .string ⟨#[]⟩, .int .i64 d0, .int .i64 d1, .string d2, .slice A9 n9 c9, .slice A10 n10 c10, .slice none 0 0]) HZ.out HBLf.out hB HX.out
              | false =>
                have hn : twoV 9 va vb = none := by
                  rcases HTf.out with ⟨h, _⟩ | ⟨_, h⟩
                  · cases h
                  · exact h
                have HX := Lib.hid (HSK.out.trans (show slimK _ _ = fBad from by have h0 := N1.out; have h1 := N2.out; rw [EPa.out, EPb.out, h0, h1]; exact (slimK_two (by decide)).2 hn))
                have HZ := Lib.hid (show RT (fun b => b < B ∨ w.heap.size + 3 ≤ b) Wf (filtDs fBad) [.int .i64 19, .int .i64 0, .string ⟨#[]⟩, .int .i64 0, .int .i64 0, .string ⟨#[]⟩, .slice none 0 0, .slice none 0 0, .slice none 0 0] from rdf_bad _ _)
                clear hn
                go_wp2
                refine bodyPost_ret (v := .agg #[.int .i64 19, .int .i64 0, .string ⟨#[]⟩, .int .i64 0, .int .i64 0, .string ⟨#[]⟩, .slice none 0 0, .slice none 0 0, .slice none 0 0]) (by simp [results, Tryz.results19, go_sem, cR]) rfl ?_
                exact si_end (zs := [.int .i64 19, .int .i64 0, .string ⟨#[]⟩, .int .i64 0, .int .i64 0, .string ⟨#[]⟩, .slice none 0 0, .slice none 0 0, .slice none 0 0]) HZ.out HBLf.out hB HX.out
      have qk9 : (kind == 9) = false := by simpa using h9
      by_cases h10 : kind = 10
      · subst h10
        obtain ⟨a, b, rfl⟩ : ∃ a b, M = [a, b] := by
          have h2 : kidsOf 10 = 2 := by decide
          have h3 := HKO.out
          have h1 : M.length = 2 := by omega
          match M, h1 with
          | [a, b], _ => exact ⟨a, b, rfl⟩
        have h2 : kidsOf 10 = 2 := by decide
        have h3 := HKO.out
        have hk1 : (kids.length : Int) = 2 := by omega
        clear h2 h3
        have l0 : (0 : Int) < (kids.length : Int) := by omega
        have l1 : (1 : Int) < (kids.length : Int) := by omega
        obtain ⟨ada, ya, c0, c1, c2, c3, c4, c5, c6, c7, c8, ea, hya, hga, z0, z1, z2, z3, z4, z5, z6, z7, z8⟩ := rt_at HT.out hML.symm (k := 0) (by rw [← hML]; simp)
        obtain ⟨ad, rfl⟩ : ∃ ad, A = some ad := ⟨_, ea⟩
        injection ea with ea
        subst ea
        obtain rfl : a = ya := by simpa using hga
        clear hga
        obtain ⟨ka, a1, a2, va, la, a3, a4, a5, aA, aB, aC, aD, aE, aG, aH, aJ, epa, ec, -, hva, -⟩ := filtDs_all hya
        simp only [List.cons.injEq, and_true] at ec
        obtain ⟨rfl, rfl, rfl, rfl, rfl, rfl, rfl, rfl, rfl⟩ := ec
        have Ha := Lib.hid (show RT (fun b => b < B ∨ w.heap.size + 3 ≤ b) wr (filtDs a) _ from hya)
        have HVa := Lib.hid hva
        have EPa := Lib.hid epa
        clear hya hva epa
        have au0 : wr.cell? ad = some (.int .i64 ka) := by simpa [Addr.add] using z0
        have au1 : wr.cell? ⟨ad.block, ad.off + 1, none⟩ = some (.int .i64 a1) := by simpa [Addr.add] using z1
        have au2 : wr.cell? ⟨ad.block, ad.off + 2, none⟩ = some (.string a2) := by simpa [Addr.add] using z2
        have au3 : wr.cell? ⟨ad.block, ad.off + 3, none⟩ = some (.int .i64 a3) := by simpa [Addr.add] using z3
        have au4 : wr.cell? ⟨ad.block, ad.off + 4, none⟩ = some (.int .i64 a4) := by simpa [Addr.add] using z4
        have au5 : wr.cell? ⟨ad.block, ad.off + 5, none⟩ = some (.string a5) := by simpa [Addr.add] using z5
        have au6 : wr.cell? ⟨ad.block, ad.off + 6, none⟩ = some (.slice aA aB aC) := by simpa [Addr.add] using z6
        have au7 : wr.cell? ⟨ad.block, ad.off + 7, none⟩ = some (.slice aD aE aG) := by simpa [Addr.add] using z7
        have au8 : wr.cell? ⟨ad.block, ad.off + 8, none⟩ = some (.slice aH la.length aJ) := by simpa [Addr.add] using z8
        clear z0 z1 z2 z3 z4 z5 z6 z7 z8
        obtain ⟨adb, yb, c0, c1, c2, c3, c4, c5, c6, c7, c8, eb, hyb, hgb, z0, z1, z2, z3, z4, z5, z6, z7, z8⟩ := rt_at HT.out hML.symm (k := 1) (by rw [← hML]; simp)
        injection eb with eb
        subst eb
        obtain rfl : b = yb := by simpa using hgb
        clear hgb
        obtain ⟨kb, b1, b2, vb, lb, b3, b4, b5, bA, bB, bC, bD, bE, bG, bH, bJ, epb, ec, -, hvb, -⟩ := filtDs_all hyb
        simp only [List.cons.injEq, and_true] at ec
        obtain ⟨rfl, rfl, rfl, rfl, rfl, rfl, rfl, rfl, rfl⟩ := ec
        have Hb := Lib.hid (show RT (fun b => b < B ∨ w.heap.size + 3 ≤ b) wr (filtDs b) _ from hyb)
        have HVb := Lib.hid hvb
        have EPb := Lib.hid epb
        clear hyb hvb epb
        have bu0 : wr.cell? ⟨ad.block, ad.off + 9, none⟩ = some (.int .i64 kb) := by simpa [Addr.add] using z0
        have bu1 : wr.cell? ⟨ad.block, ad.off + 10, none⟩ = some (.int .i64 b1) := by simpa [Addr.add] using z1
        have bu2 : wr.cell? ⟨ad.block, ad.off + 11, none⟩ = some (.string b2) := by simpa [Addr.add] using z2
        have bu3 : wr.cell? ⟨ad.block, ad.off + 12, none⟩ = some (.int .i64 b3) := by simpa [Addr.add] using z3
        have bu4 : wr.cell? ⟨ad.block, ad.off + 13, none⟩ = some (.int .i64 b4) := by simpa [Addr.add] using z4
        have bu5 : wr.cell? ⟨ad.block, ad.off + 14, none⟩ = some (.string b5) := by simpa [Addr.add] using z5
        have bu6 : wr.cell? ⟨ad.block, ad.off + 15, none⟩ = some (.slice bA bB bC) := by simpa [Addr.add] using z6
        have bu7 : wr.cell? ⟨ad.block, ad.off + 16, none⟩ = some (.slice bD bE bG) := by simpa [Addr.add] using z7
        have bu8 : wr.cell? ⟨ad.block, ad.off + 17, none⟩ = some (.slice bH lb.length bJ) := by simpa [Addr.add] using z8
        clear z0 z1 z2 z3 z4 z5 z6 z7 z8
        go_wp2_with fail
        refine (is1 ka a1 a2 _ _ _ _ _ _ 2 wr).mono ?_
        rintro e wc14 ⟨r, rfl, hr, hbx⟩
        have HBLc14 := Lib.hid (HBL.out.trans (hbx.mono HBL.out.size))
        have HWRc14 := Lib.hid (HWR.out.trans (hbx.mono HWR.out.size))
        have HPRc14 := Lib.hid (HPR.out.below hbx)
        have HBRc14 := Lib.hid (HBR.out.below hbx)
        have HBOc14 := Lib.hid (HBO.out.below hbx)
        have HFULLc14 := Lib.hid (HFULL.out.below hbx)
        have Hac14 := Lib.hid (Ha.out.below hbx)
        have Hbc14 := Lib.hid (Hb.out.below hbx)
        have hzc14 := hbx.size
        have au0c14 := cell_below au0 hbx
        have au1c14 := cell_below au1 hbx
        have au2c14 := cell_below au2 hbx
        have au3c14 := cell_below au3 hbx
        have au4c14 := cell_below au4 hbx
        have au5c14 := cell_below au5 hbx
        have au6c14 := cell_below au6 hbx
        have au7c14 := cell_below au7 hbx
        have au8c14 := cell_below au8 hbx
        have bu0c14 := cell_below bu0 hbx
        have bu1c14 := cell_below bu1 hbx
        have bu2c14 := cell_below bu2 hbx
        have bu3c14 := cell_below bu3 hbx
        have bu4c14 := cell_below bu4 hbx
        have bu5c14 := cell_below bu5 hbx
        have bu6c14 := cell_below bu6 hbx
        have bu7c14 := cell_below bu7 hbx
        have bu8c14 := cell_below bu8 hbx
        clear au0 au1 au2 au3 au4 au5 au6 au7 au8 bu0 bu1 bu2 bu3 bu4 bu5 bu6 bu7 bu8
        clear hbx cP fP cO fO cR fR
        obtain ⟨cP, fP⟩ := blk_rules HPRc14.out
        obtain ⟨cR, fR⟩ := blk_rules HBRc14.out
        obtain ⟨cO, fO⟩ := blk_rules HBOc14.out
        cases r with
        | false =>
          have N1 := Lib.hid (show ¬ (ka = 2) from fun h => by have h1 := hr.2 h; cases h1)
          clear hr
          have HX := Lib.hid (HSK.out.trans (show slimK _ _ = (.mk 10 n s v [a, b]) from by (have h_0 := N1.out; rw [EPa.out, EPb.out]; simp [slimK, fKind, fVal, h_0])))
          go_wp2
          refine bodyPost_ret (v := .agg #[.int .i64 10, .int .i64 n, .string s, .int .i64 f3, .int .i64 f4, .string f5, .slice A6 n6 q6, .slice A7 n7 q7, .slice (some ad) kids.length qc]) (by simp [results, Tryz.results19, go_sem, cR]) rfl ?_
          exact si_end (zs := [.int .i64 10, .int .i64 n, .string s, .int .i64 f3, .int .i64 f4, .string f5, .slice A6 n6 q6, .slice A7 n7 q7, .slice (some ad) kids.length qc]) HFULLc14.out HBLc14.out hB HX.out
        | true =>
          have N1 := Lib.hid (show ka = 2 from hr.1 rfl)
          clear hr
          go_wp2_with fail
          refine (is1 kb b1 b2 _ _ _ _ _ _ 2 wc14).mono ?_
          rintro e wc15 ⟨r, rfl, hr, hbx⟩
          have HBLc15 := Lib.hid (HBLc14.out.trans (hbx.mono HBLc14.out.size))
          have HWRc15 := Lib.hid (HWRc14.out.trans (hbx.mono HWRc14.out.size))
          have HPRc15 := Lib.hid (HPRc14.out.below hbx)
          have HBRc15 := Lib.hid (HBRc14.out.below hbx)
          have HBOc15 := Lib.hid (HBOc14.out.below hbx)
          have HFULLc15 := Lib.hid (HFULLc14.out.below hbx)
          have Hac15 := Lib.hid (Hac14.out.below hbx)
          have Hbc15 := Lib.hid (Hbc14.out.below hbx)
          have hzc15 := hbx.size
          have au0c15 := cell_below au0c14 hbx
          have au1c15 := cell_below au1c14 hbx
          have au2c15 := cell_below au2c14 hbx
          have au3c15 := cell_below au3c14 hbx
          have au4c15 := cell_below au4c14 hbx
          have au5c15 := cell_below au5c14 hbx
          have au6c15 := cell_below au6c14 hbx
          have au7c15 := cell_below au7c14 hbx
          have au8c15 := cell_below au8c14 hbx
          have bu0c15 := cell_below bu0c14 hbx
          have bu1c15 := cell_below bu1c14 hbx
          have bu2c15 := cell_below bu2c14 hbx
          have bu3c15 := cell_below bu3c14 hbx
          have bu4c15 := cell_below bu4c14 hbx
          have bu5c15 := cell_below bu5c14 hbx
          have bu6c15 := cell_below bu6c14 hbx
          have bu7c15 := cell_below bu7c14 hbx
          have bu8c15 := cell_below bu8c14 hbx
          clear au0c14 au1c14 au2c14 au3c14 au4c14 au5c14 au6c14 au7c14 au8c14 bu0c14 bu1c14 bu2c14 bu3c14 bu4c14 bu5c14 bu6c14 bu7c14 bu8c14
          clear hbx cP fP cO fO cR fR
          obtain ⟨cP, fP⟩ := blk_rules HPRc15.out
          obtain ⟨cR, fR⟩ := blk_rules HBRc15.out
          obtain ⟨cO, fO⟩ := blk_rules HBOc15.out
          cases r with
          | false =>
            have N2 := Lib.hid (show ¬ (kb = 2) from fun h => by have h1 := hr.2 h; cases h1)
            clear hr
            have HX := Lib.hid (HSK.out.trans (show slimK _ _ = (.mk 10 n s v [a, b]) from by (have h_0 := N1.out; have h_1 := N2.out; rw [EPa.out, EPb.out]; simp [slimK, fKind, fVal, h_0, h_1])))
            go_wp2
            refine bodyPost_ret (v := .agg #[.int .i64 10, .int .i64 n, .string s, .int .i64 f3, .int .i64 f4, .string f5, .slice A6 n6 q6, .slice A7 n7 q7, .slice (some ad) kids.length qc]) (by simp [results, Tryz.results19, go_sem, cR]) rfl ?_
            exact si_end (zs := [.int .i64 10, .int .i64 n, .string s, .int .i64 f3, .int .i64 f4, .string f5, .slice A6 n6 q6, .slice A7 n7 q7, .slice (some ad) kids.length qc]) HFULLc15.out HBLc15.out hB HX.out
          | true =>
            have N2 := Lib.hid (show kb = 2 from hr.1 rfl)
            clear hr
            have hwz := HWRc15.out.size
            have hHb := HBOc15.out.lt
            have hHw : w.heap.size + 3 ≤ wc15.heap.size := by omega
            have HVWa := Lib.hid (show RDv wc15 wr.heap.size (valDs va) _ from RDv.grow (Nat.le_refl _) ((thin_sub _ _ wr).trans (Sub.of_below HWRc15.out)) _ _ HVa.out)
            have HVWb := Lib.hid (show RDv wc15 wr.heap.size (valDs vb) _ from RDv.grow (Nat.le_refl _) ((thin_sub _ _ wr).trans (Sub.of_below HWRc15.out)) _ _ HVb.out)
            have OA := Lib.hid (show ValOk va from by have h1 := fform_val (HFM.out.2 a (by simp)); rw [EPa.out] at h1; exact h1)
            have OB := Lib.hid (show ValOk vb from by have h1 := fform_val (HFM.out.2 b (by simp)); rw [EPb.out] at h1; exact h1)
            have kS := Lib.hid (show ∀ w' : World, Below wc15.heap.size wc15 w' → (w'.cell? ⟨w.heap.size, 0, none⟩ = some (.int .i64 10) ∧ w'.cell? ⟨ad.block, ad.off + 3, none⟩ = some (.int .i64 a3) ∧ w'.cell? ⟨ad.block, ad.off + 4, none⟩ = some (.int .i64 a4) ∧ w'.cell? ⟨ad.block, ad.off + 5, none⟩ = some (.string a5) ∧ w'.cell? ⟨ad.block, ad.off + 6, none⟩ = some (.slice aA aB aC) ∧ w'.cell? ⟨ad.block, ad.off + 7, none⟩ = some (.slice aD aE aG) ∧ w'.cell? ⟨ad.block, ad.off + 12, none⟩ = some (.int .i64 b3) ∧ w'.cell? ⟨ad.block, ad.off + 13, none⟩ = some (.int .i64 b4) ∧ w'.cell? ⟨ad.block, ad.off + 14, none⟩ = some (.string b5) ∧ w'.cell? ⟨ad.block, ad.off + 15, none⟩ = some (.slice bA bB bC) ∧ w'.cell? ⟨ad.block, ad.off + 16, none⟩ = some (.slice bD bE bG)) from fun w' hb => ⟨(HPRc15.out.below hb).cell 0, cell_below au3c15 hb, cell_below au4c15 hb, cell_below au5c15 hb, cell_below au6c15 hb, cell_below au7c15 hb, cell_below bu3c15 hb, cell_below bu4c15 hb, cell_below bu5c15 hb, cell_below bu6c15 hb, cell_below bu7c15 hb⟩)
            have gA := Lib.hid (show Below wc15.heap.size wc15 wc15.drew from (Below.refl _ _).drew)
            have gG := Lib.hid (show Below wc15.heap.size wc15 (wc15.alloc (.cells #[.int .i64 0, .int .i64 0, .string ⟨#[]⟩, .slice none 0 0, .slice none 0 0] 32)).drew from (below_box wc15 _).drew)
            have kA := Lib.hid (kS.out _ gA.out)
            have kG := Lib.hid (kS.out _ gG.out)
            clear au0c15 au1c15 au2c15 au3c15 au4c15 au5c15 au6c15 au7c15 au8c15 bu0c15 bu1c15 bu2c15 bu3c15 bu4c15 bu5c15 bu6c15 bu7c15 bu8c15
            go_upto_region 34 with fail
            go_region_held3 (fun w' => w'.cell? ⟨w.heap.size, 0, none⟩ = some (.int .i64 10) ∧ w'.cell? ⟨ad.block, ad.off + 3, none⟩ = some (.int .i64 a3) ∧ w'.cell? ⟨ad.block, ad.off + 4, none⟩ = some (.int .i64 a4) ∧ w'.cell? ⟨ad.block, ad.off + 5, none⟩ = some (.string a5) ∧ w'.cell? ⟨ad.block, ad.off + 6, none⟩ = some (.slice aA aB aC) ∧ w'.cell? ⟨ad.block, ad.off + 7, none⟩ = some (.slice aD aE aG) ∧ w'.cell? ⟨ad.block, ad.off + 12, none⟩ = some (.int .i64 b3) ∧ w'.cell? ⟨ad.block, ad.off + 13, none⟩ = some (.int .i64 b4) ∧ w'.cell? ⟨ad.block, ad.off + 14, none⟩ = some (.string b5) ∧ w'.cell? ⟨ad.block, ad.off + 15, none⟩ = some (.slice bA bB bC) ∧ w'.cell? ⟨ad.block, ad.off + 16, none⟩ = some (.slice bD bE bG))
              (first | (with_reducible exact kA.out) | (with_reducible exact kC.out) | (with_reducible exact kD.out) | (with_reducible exact kE.out) | (with_reducible exact kG.out) | (with_reducible exact kH.out) | fail "keep")
              (first
                | (go_at_call 44; (refine (pair_at hwz HVWa.out HVWb.out OA.out OB.out (by decide) (by first | (with_reducible exact gA.out) | (with_reducible exact gG.out))).mono ?_); rintro e wq ⟨d0, d1, d2, A9, n9, c9, A10, n10, c10, rr, rfl, ht, hbq⟩; (first | (have hbB := Lib.hid (gA.out.trans (hbq.mono gA.out.size)); have HBq := hbB; clear hbB; have HTq := Lib.hid (show Two _ wc15.heap.size wq rr _ from ht)) | (have hbB := Lib.hid (gG.out.trans (hbq.mono gG.out.size)); have HBq := hbB; clear hbB; have HXq := Lib.hid (show Blk wq wc15.heap.size 32 [.int .i64 0, .int .i64 0, .string ⟨#[]⟩, .slice none 0 0, .slice none 0 0] from (Blk.new wc15 _ [.int .i64 0, .int .i64 0, .string ⟨#[]⟩, .slice none 0 0, .slice none 0 0]).drew.below hbq); obtain ⟨cX, fX⟩ := blk_rules HXq.out; have HTq := Lib.hid (show Two _ (wc15.heap.size + 1) wq rr _ from by have h5 : (wc15.alloc (.cells #[.int .i64 0, .int .i64 0, .string ⟨#[]⟩, .slice none 0 0, .slice none 0 0] 32)).drew.heap.size = wc15.heap.size + 1 := (show (wc15.alloc (.cells #[.int .i64 0, .int .i64 0, .string ⟨#[]⟩, .slice none 0 0, .slice none 0 0] 32)).heap.size = _ by simp); rw [h5] at ht; exact ht)) | fail "xq"); have kC := Lib.hid (kS.out wq HBq.out); have kD := Lib.hid (kS.out (wq.alloc (.cells #[.int .i64 d0, .int .i64 d1, .string d2, .slice A9 n9 c9, .slice A10 n10 c10] 32)) (HBq.out.trans ((below_box wq _).mono HBq.out.size))); have kE := Lib.hid (kS.out (wq.alloc (.cells #[.int .i64 0, .int .i64 0, .string ⟨#[]⟩, .slice none 0 0, .slice none 0 0] 32)) (HBq.out.trans ((below_box wq _).mono HBq.out.size))); have kH := Lib.hid (kS.out (((((wq.setCell ⟨wc15.heap.size, 0, none⟩ (.int .i64 d0)).setCell ⟨wc15.heap.size, 1, none⟩ (.int .i64 d1)).setCell ⟨wc15.heap.size, 2, none⟩ (.string d2)).setCell ⟨wc15.heap.size, 3, none⟩ (.slice A9 n9 c9)).setCell ⟨wc15.heap.size, 4, none⟩ (.slice A10 n10 c10)) (setAll_below (o := 0) [_, _, _, _, _] (Nat.le_refl _) HBq.out)); clear ht hbq)
                | fail "no arm")
            · obtain ⟨bx, ebx⟩ : ∃ b : Nat, b = wq.heap.size := ⟨_, rfl⟩
              obtain ⟨Wf, ef⟩ : ∃ W : World, W = wq.alloc (.cells #[.int .i64 d0, .int .i64 d1, .string d2, .slice A9 n9 c9, .slice A10 n10 c10] 32) := ⟨_, rfl⟩
              have HBf := Lib.hid (show Below wc15.heap.size wc15 Wf from by rw [ef]; exact HBq.out.trans ((below_box wq _).mono HBq.out.size))
              have HXf := Lib.hid (show Blk Wf bx 32 [.int .i64 d0, .int .i64 d1, .string d2, .slice A9 n9 c9, .slice A10 n10 c10] from by rw [ef, ebx]; exact Blk.new wq _ _)
              have HTf := Lib.hid (show Two _ wc15.heap.size Wf rr _ from by rw [ef]; exact HTq.out.keep (Nat.le_refl _) fun q _ hq => Below.heap_alloc _ _ _ hq)
              have hbxw : wc15.heap.size ≤ bx := by rw [ebx]; exact HBq.out.size
              rw [← ef, ← ebx]
              clear ef ebx cP fP cR fR cO fO kA kC kD kE kG kH gA gG kS HTq
              have HBLf := Lib.hid (HBLc15.out.trans (HBf.out.mono HBLc15.out.size))
              have HRf := Lib.hid (HBRc15.out.below HBf.out)
              obtain ⟨cR, fR⟩ := blk_rules HRf.out
              obtain ⟨cX, fX⟩ := blk_rules HXf.out
              have hRX : w.heap.size + 1 ≠ bx := by omega
              cases rr with
              | true =>
                obtain ⟨u, fp, hu, hO, hfp⟩ : ∃ u fp, twoV 10 va vb = some u ∧ ODv Wf (valDs u) [.int .i64 d0, .int .i64 d1, .string d2, .slice A9 n9 c9, .slice A10 n10 c10] fp ∧ ∀ q ∈ fp, wc15.heap.size ≤ q := by
                  rcases HTf.out with ⟨_, h⟩ | ⟨h, _⟩
                  · exact h
                  · cases h
                have HX := Lib.hid (HSK.out.trans (show slimK _ _ = fLit u from by have h0 := N1.out; have h1 := N2.out; rw [EPa.out, EPb.out, h0, h1]; exact (slimK_two (by decide)).1 u hu))
                have HZ := Lib.hid (show RT (fun b => b < B ∨ w.heap.size + 3 ≤ b) Wf (filtDs (fLit u)) [.int .i64 2, .int .i64 0, .string ⟨#[]⟩, .int .i64 d0, .int .i64 d1, .string d2, .slice A9 n9 c9, .slice A10 n10 c10, .slice none 0 0] from rdf_lit (vs := [.int .i64 d0, .int .i64 d1, .string d2, .slice A9 n9 c9, .slice A10 n10 c10]) (RT.of_od hO fun q hq => .inr (by have := hfp q hq; omega)))
                clear hu hO hfp
                go_wp2
                refine bodyPost_ret (v := .agg #[.int .i64 2, .int .i64 0, .string ⟨#[]⟩, .int .i64 d0, .int .i64 d1, .string d2, .slice A9 n9 c9, .slice A10 n10 c10, .slice none 0 0]) (by simp [results, Tryz.results19, go_sem, cR]) rfl ?_
                exact si_end (zs := [.int .i64 2, .int .i64 0, .string ⟨#[]⟩, .int .i64 d0, .int .i64 d1, .string d2, .slice A9 n9 c9, .slice A10 n10 c10, .slice none 0 0]) HZ.out HBLf.out hB HX.out
              | false =>
                have hn : twoV 10 va vb = none := by
                  rcases HTf.out with ⟨h, _⟩ | ⟨_, h⟩
                  · cases h
                  · exact h
                have HX := Lib.hid (HSK.out.trans (show slimK _ _ = fBad from by have h0 := N1.out; have h1 := N2.out; rw [EPa.out, EPb.out, h0, h1]; exact (slimK_two (by decide)).2 hn))
                have HZ := Lib.hid (show RT (fun b => b < B ∨ w.heap.size + 3 ≤ b) Wf (filtDs fBad) [.int .i64 19, .int .i64 0, .string ⟨#[]⟩, .int .i64 0, .int .i64 0, .string ⟨#[]⟩, .slice none 0 0, .slice none 0 0, .slice none 0 0] from rdf_bad _ _)
                clear hn
                go_wp2
                refine bodyPost_ret (v := .agg #[.int .i64 19, .int .i64 0, .string ⟨#[]⟩, .int .i64 0, .int .i64 0, .string ⟨#[]⟩, .slice none 0 0, .slice none 0 0, .slice none 0 0]) (by simp [results, Tryz.results19, go_sem, cR]) rfl ?_
                exact si_end (zs := [.int .i64 19, .int .i64 0, .string ⟨#[]⟩, .int .i64 0, .int .i64 0, .string ⟨#[]⟩, .slice none 0 0, .slice none 0 0, .slice none 0 0]) HZ.out HBLf.out hB HX.out
            · obtain ⟨bx, ebx⟩ : ∃ b : Nat, b = wc15.heap.size := ⟨_, rfl⟩
              obtain ⟨Wf, ef⟩ : ∃ W : World, W = (((((wq.setCell ⟨wc15.heap.size, 0, none⟩ (.int .i64 d0)).setCell ⟨wc15.heap.size, 1, none⟩ (.int .i64 d1)).setCell ⟨wc15.heap.size, 2, none⟩ (.string d2)).setCell ⟨wc15.heap.size, 3, none⟩ (.slice A9 n9 c9)).setCell ⟨wc15.heap.size, 4, none⟩ (.slice A10 n10 c10)) := ⟨_, rfl⟩
              have HBf := Lib.hid (show Below wc15.heap.size wc15 Wf from by rw [ef]; exact setAll_below (o := 0) [_, _, _, _, _] (Nat.le_refl _) HBq.out)
              have HXf := Lib.hid (show Blk Wf bx 32 [.int .i64 d0, .int .i64 d1, .string d2, .slice A9 n9 c9, .slice A10 n10 c10] from by rw [ef, ebx]; exact ((((HXq.out.set_ 0 _).set_ 1 _).set_ 2 _).set_ 3 _).set_ 4 _)
              have HTf := Lib.hid (show Two _ wc15.heap.size Wf rr _ from by rw [ef]; exact HTq.out.keep (Nat.le_succ _) fun q h1 _ => setAll_other [_, _, _, _, _] wq wc15.heap.size 0 q (by omega))
              have hbxw : wc15.heap.size ≤ bx := by rw [ebx]; exact Nat.le_refl _
              rw [← ef, ← ebx]
              clear ef ebx cP fP cR fR cO fO kA kC kD kE kG kH gA gG kS HTq cX fX
              have HBLf := Lib.hid (HBLc15.out.trans (HBf.out.mono HBLc15.out.size))
              have HRf := Lib.hid (HBRc15.out.below HBf.out)
              obtain ⟨cR, fR⟩ := blk_rules HRf.out
              obtain ⟨cX, fX⟩ := blk_rules HXf.out
              have hRX : w.heap.size + 1 ≠ bx := by omega
              cases rr with
              | true =>
                obtain ⟨u, fp, hu, hO, hfp⟩ : ∃ u fp, twoV 10 va vb = some u ∧ ODv Wf (valDs u) [.int .i64 d0, .int .i64 d1, .string d2, .slice A9 n9 c9, .slice A10 n10 c10] fp ∧ ∀ q ∈ fp, wc15.heap.size ≤ q := by
                  rcases HTf.out with ⟨_, h⟩ | ⟨h, _⟩
                  · exact h
                  · cases h
                have HX := Lib.hid (HSK.out.trans (show slimK _ _ = fLit u from by have h0 := N1.out; have h1 := N2.out; rw [EPa.out, EPb.out, h0, h1]; exact (slimK_two (by decide)).1 u hu))
                have HZ := Lib.hid (show RT (fun b => b < B ∨ w.heap.size + 3 ≤ b) Wf (filtDs (fLit u)) [.int .i64 2, .int .i64 0, .string ⟨#[]⟩, .int .i64 d0, .int .i64 d1, .string d2, .slice A9 n9 c9, .slice A10 n10 c10, .slice none 0 0] from rdf_lit (vs := [.int .i64 d0, .int .i64 d1, .string d2, .slice A9 n9 c9, .slice A10 n10 c10]) (RT.of_od hO fun q hq => .inr (by have := hfp q hq; omega)))
                clear hu hO hfp
                go_wp2
                refine bodyPost_ret (v := .agg #[.int .i64 2, .int .i64 0, .string ⟨#[]⟩, .int .i64 d0, .int .i64 d1, .string d2, .slice A9 n9 c9, .slice A10 n10 c10, .slice none 0 0]) (by simp [results, Tryz.results19, go_sem, cR]) rfl ?_
                exact si_end (zs := [.int .i64 2, .int .i64 0, .string ⟨#[]⟩, .int .i64 d0, .int .i64 d1, .string d2, .slice A9 n9 c9, .slice A10 n10 c10, .slice none 0 0]) HZ.out HBLf.out hB HX.out
              | false =>
                have hn : twoV 10 va vb = none := by
                  rcases HTf.out with ⟨h, _⟩ | ⟨_, h⟩
                  · cases h
                  · exact h
                have HX := Lib.hid (HSK.out.trans (show slimK _ _ = fBad from by have h0 := N1.out; have h1 := N2.out; rw [EPa.out, EPb.out, h0, h1]; exact (slimK_two (by decide)).2 hn))
                have HZ := Lib.hid (show RT (fun b => b < B ∨ w.heap.size + 3 ≤ b) Wf (filtDs fBad) [.int .i64 19, .int .i64 0, .string ⟨#[]⟩, .int .i64 0, .int .i64 0, .string ⟨#[]⟩, .slice none 0 0, .slice none 0 0, .slice none 0 0] from rdf_bad _ _)
                clear hn
                go_wp2
                refine bodyPost_ret (v := .agg #[.int .i64 19, .int .i64 0, .string ⟨#[]⟩, .int .i64 0, .int .i64 0, .string ⟨#[]⟩, .slice none 0 0, .slice none 0 0, .slice none 0 0]) (by simp [results, Tryz.results19, go_sem, cR]) rfl ?_
                exact si_end (zs := [.int .i64 19, .int .i64 0, .string ⟨#[]⟩, .int .i64 0, .int .i64 0, .string ⟨#[]⟩, .slice none 0 0, .slice none 0 0, .slice none 0 0]) HZ.out HBLf.out hB HX.out
      have qk10 : (kind == 10) = false := by simpa using h10
      by_cases h11 : kind = 11
      · subst h11
        obtain ⟨a, b, rfl⟩ : ∃ a b, M = [a, b] := by
          have h2 : kidsOf 11 = 2 := by decide
          have h3 := HKO.out
          have h1 : M.length = 2 := by omega
          match M, h1 with
          | [a, b], _ => exact ⟨a, b, rfl⟩
        have h2 : kidsOf 11 = 2 := by decide
        have h3 := HKO.out
        have hk1 : (kids.length : Int) = 2 := by omega
        clear h2 h3
        have l0 : (0 : Int) < (kids.length : Int) := by omega
        have l1 : (1 : Int) < (kids.length : Int) := by omega
        obtain ⟨ada, ya, c0, c1, c2, c3, c4, c5, c6, c7, c8, ea, hya, hga, z0, z1, z2, z3, z4, z5, z6, z7, z8⟩ := rt_at HT.out hML.symm (k := 0) (by rw [← hML]; simp)
        obtain ⟨ad, rfl⟩ : ∃ ad, A = some ad := ⟨_, ea⟩
        injection ea with ea
        subst ea
        obtain rfl : a = ya := by simpa using hga
        clear hga
        obtain ⟨ka, a1, a2, va, la, a3, a4, a5, aA, aB, aC, aD, aE, aG, aH, aJ, epa, ec, -, hva, -⟩ := filtDs_all hya
        simp only [List.cons.injEq, and_true] at ec
        obtain ⟨rfl, rfl, rfl, rfl, rfl, rfl, rfl, rfl, rfl⟩ := ec
        have Ha := Lib.hid (show RT (fun b => b < B ∨ w.heap.size + 3 ≤ b) wr (filtDs a) _ from hya)
        have HVa := Lib.hid hva
        have EPa := Lib.hid epa
        clear hya hva epa
        have au0 : wr.cell? ad = some (.int .i64 ka) := by simpa [Addr.add] using z0
        have au1 : wr.cell? ⟨ad.block, ad.off + 1, none⟩ = some (.int .i64 a1) := by simpa [Addr.add] using z1
        have au2 : wr.cell? ⟨ad.block, ad.off + 2, none⟩ = some (.string a2) := by simpa [Addr.add] using z2
        have au3 : wr.cell? ⟨ad.block, ad.off + 3, none⟩ = some (.int .i64 a3) := by simpa [Addr.add] using z3
        have au4 : wr.cell? ⟨ad.block, ad.off + 4, none⟩ = some (.int .i64 a4) := by simpa [Addr.add] using z4
        have au5 : wr.cell? ⟨ad.block, ad.off + 5, none⟩ = some (.string a5) := by simpa [Addr.add] using z5
        have au6 : wr.cell? ⟨ad.block, ad.off + 6, none⟩ = some (.slice aA aB aC) := by simpa [Addr.add] using z6
        have au7 : wr.cell? ⟨ad.block, ad.off + 7, none⟩ = some (.slice aD aE aG) := by simpa [Addr.add] using z7
        have au8 : wr.cell? ⟨ad.block, ad.off + 8, none⟩ = some (.slice aH la.length aJ) := by simpa [Addr.add] using z8
        clear z0 z1 z2 z3 z4 z5 z6 z7 z8
        obtain ⟨adb, yb, c0, c1, c2, c3, c4, c5, c6, c7, c8, eb, hyb, hgb, z0, z1, z2, z3, z4, z5, z6, z7, z8⟩ := rt_at HT.out hML.symm (k := 1) (by rw [← hML]; simp)
        injection eb with eb
        subst eb
        obtain rfl : b = yb := by simpa using hgb
        clear hgb
        obtain ⟨kb, b1, b2, vb, lb, b3, b4, b5, bA, bB, bC, bD, bE, bG, bH, bJ, epb, ec, -, hvb, -⟩ := filtDs_all hyb
        simp only [List.cons.injEq, and_true] at ec
        obtain ⟨rfl, rfl, rfl, rfl, rfl, rfl, rfl, rfl, rfl⟩ := ec
        have Hb := Lib.hid (show RT (fun b => b < B ∨ w.heap.size + 3 ≤ b) wr (filtDs b) _ from hyb)
        have HVb := Lib.hid hvb
        have EPb := Lib.hid epb
        clear hyb hvb epb
        have bu0 : wr.cell? ⟨ad.block, ad.off + 9, none⟩ = some (.int .i64 kb) := by simpa [Addr.add] using z0
        have bu1 : wr.cell? ⟨ad.block, ad.off + 10, none⟩ = some (.int .i64 b1) := by simpa [Addr.add] using z1
        have bu2 : wr.cell? ⟨ad.block, ad.off + 11, none⟩ = some (.string b2) := by simpa [Addr.add] using z2
        have bu3 : wr.cell? ⟨ad.block, ad.off + 12, none⟩ = some (.int .i64 b3) := by simpa [Addr.add] using z3
        have bu4 : wr.cell? ⟨ad.block, ad.off + 13, none⟩ = some (.int .i64 b4) := by simpa [Addr.add] using z4
        have bu5 : wr.cell? ⟨ad.block, ad.off + 14, none⟩ = some (.string b5) := by simpa [Addr.add] using z5
        have bu6 : wr.cell? ⟨ad.block, ad.off + 15, none⟩ = some (.slice bA bB bC) := by simpa [Addr.add] using z6
        have bu7 : wr.cell? ⟨ad.block, ad.off + 16, none⟩ = some (.slice bD bE bG) := by simpa [Addr.add] using z7
        have bu8 : wr.cell? ⟨ad.block, ad.off + 17, none⟩ = some (.slice bH lb.length bJ) := by simpa [Addr.add] using z8
        clear z0 z1 z2 z3 z4 z5 z6 z7 z8
        go_wp2_with fail
        refine (is1 ka a1 a2 _ _ _ _ _ _ 2 wr).mono ?_
        rintro e wc16 ⟨r, rfl, hr, hbx⟩
        have HBLc16 := Lib.hid (HBL.out.trans (hbx.mono HBL.out.size))
        have HWRc16 := Lib.hid (HWR.out.trans (hbx.mono HWR.out.size))
        have HPRc16 := Lib.hid (HPR.out.below hbx)
        have HBRc16 := Lib.hid (HBR.out.below hbx)
        have HBOc16 := Lib.hid (HBO.out.below hbx)
        have HFULLc16 := Lib.hid (HFULL.out.below hbx)
        have Hac16 := Lib.hid (Ha.out.below hbx)
        have Hbc16 := Lib.hid (Hb.out.below hbx)
        have hzc16 := hbx.size
        have au0c16 := cell_below au0 hbx
        have au1c16 := cell_below au1 hbx
        have au2c16 := cell_below au2 hbx
        have au3c16 := cell_below au3 hbx
        have au4c16 := cell_below au4 hbx
        have au5c16 := cell_below au5 hbx
        have au6c16 := cell_below au6 hbx
        have au7c16 := cell_below au7 hbx
        have au8c16 := cell_below au8 hbx
        have bu0c16 := cell_below bu0 hbx
        have bu1c16 := cell_below bu1 hbx
        have bu2c16 := cell_below bu2 hbx
        have bu3c16 := cell_below bu3 hbx
        have bu4c16 := cell_below bu4 hbx
        have bu5c16 := cell_below bu5 hbx
        have bu6c16 := cell_below bu6 hbx
        have bu7c16 := cell_below bu7 hbx
        have bu8c16 := cell_below bu8 hbx
        clear au0 au1 au2 au3 au4 au5 au6 au7 au8 bu0 bu1 bu2 bu3 bu4 bu5 bu6 bu7 bu8
        clear hbx cP fP cO fO cR fR
        obtain ⟨cP, fP⟩ := blk_rules HPRc16.out
        obtain ⟨cR, fR⟩ := blk_rules HBRc16.out
        obtain ⟨cO, fO⟩ := blk_rules HBOc16.out
        cases r with
        | false =>
          have N1 := Lib.hid (show ¬ (ka = 2) from fun h => by have h1 := hr.2 h; cases h1)
          clear hr
          have HX := Lib.hid (HSK.out.trans (show slimK _ _ = (.mk 11 n s v [a, b]) from by (have h_0 := N1.out; rw [EPa.out, EPb.out]; simp [slimK, fKind, fVal, h_0])))
          go_wp2
          refine bodyPost_ret (v := .agg #[.int .i64 11, .int .i64 n, .string s, .int .i64 f3, .int .i64 f4, .string f5, .slice A6 n6 q6, .slice A7 n7 q7, .slice (some ad) kids.length qc]) (by simp [results, Tryz.results19, go_sem, cR]) rfl ?_
          exact si_end (zs := [.int .i64 11, .int .i64 n, .string s, .int .i64 f3, .int .i64 f4, .string f5, .slice A6 n6 q6, .slice A7 n7 q7, .slice (some ad) kids.length qc]) HFULLc16.out HBLc16.out hB HX.out
        | true =>
          have N1 := Lib.hid (show ka = 2 from hr.1 rfl)
          clear hr
          go_wp2_with fail
          refine (is1 kb b1 b2 _ _ _ _ _ _ 2 wc16).mono ?_
          rintro e wc17 ⟨r, rfl, hr, hbx⟩
          have HBLc17 := Lib.hid (HBLc16.out.trans (hbx.mono HBLc16.out.size))
          have HWRc17 := Lib.hid (HWRc16.out.trans (hbx.mono HWRc16.out.size))
          have HPRc17 := Lib.hid (HPRc16.out.below hbx)
          have HBRc17 := Lib.hid (HBRc16.out.below hbx)
          have HBOc17 := Lib.hid (HBOc16.out.below hbx)
          have HFULLc17 := Lib.hid (HFULLc16.out.below hbx)
          have Hac17 := Lib.hid (Hac16.out.below hbx)
          have Hbc17 := Lib.hid (Hbc16.out.below hbx)
          have hzc17 := hbx.size
          have au0c17 := cell_below au0c16 hbx
          have au1c17 := cell_below au1c16 hbx
          have au2c17 := cell_below au2c16 hbx
          have au3c17 := cell_below au3c16 hbx
          have au4c17 := cell_below au4c16 hbx
          have au5c17 := cell_below au5c16 hbx
          have au6c17 := cell_below au6c16 hbx
          have au7c17 := cell_below au7c16 hbx
          have au8c17 := cell_below au8c16 hbx
          have bu0c17 := cell_below bu0c16 hbx
          have bu1c17 := cell_below bu1c16 hbx
          have bu2c17 := cell_below bu2c16 hbx
          have bu3c17 := cell_below bu3c16 hbx
          have bu4c17 := cell_below bu4c16 hbx
          have bu5c17 := cell_below bu5c16 hbx
          have bu6c17 := cell_below bu6c16 hbx
          have bu7c17 := cell_below bu7c16 hbx
          have bu8c17 := cell_below bu8c16 hbx
          clear au0c16 au1c16 au2c16 au3c16 au4c16 au5c16 au6c16 au7c16 au8c16 bu0c16 bu1c16 bu2c16 bu3c16 bu4c16 bu5c16 bu6c16 bu7c16 bu8c16
          clear hbx cP fP cO fO cR fR
          obtain ⟨cP, fP⟩ := blk_rules HPRc17.out
          obtain ⟨cR, fR⟩ := blk_rules HBRc17.out
          obtain ⟨cO, fO⟩ := blk_rules HBOc17.out
          cases r with
          | false =>
            have N2 := Lib.hid (show ¬ (kb = 2) from fun h => by have h1 := hr.2 h; cases h1)
            clear hr
            have HX := Lib.hid (HSK.out.trans (show slimK _ _ = (.mk 11 n s v [a, b]) from by (have h_0 := N1.out; have h_1 := N2.out; rw [EPa.out, EPb.out]; simp [slimK, fKind, fVal, h_0, h_1])))
            go_wp2
            refine bodyPost_ret (v := .agg #[.int .i64 11, .int .i64 n, .string s, .int .i64 f3, .int .i64 f4, .string f5, .slice A6 n6 q6, .slice A7 n7 q7, .slice (some ad) kids.length qc]) (by simp [results, Tryz.results19, go_sem, cR]) rfl ?_
            exact si_end (zs := [.int .i64 11, .int .i64 n, .string s, .int .i64 f3, .int .i64 f4, .string f5, .slice A6 n6 q6, .slice A7 n7 q7, .slice (some ad) kids.length qc]) HFULLc17.out HBLc17.out hB HX.out
          | true =>
            have N2 := Lib.hid (show kb = 2 from hr.1 rfl)
            clear hr
            have hwz := HWRc17.out.size
            have hHb := HBOc17.out.lt
            have hHw : w.heap.size + 3 ≤ wc17.heap.size := by omega
            have HVWa := Lib.hid (show RDv wc17 wr.heap.size (valDs va) _ from RDv.grow (Nat.le_refl _) ((thin_sub _ _ wr).trans (Sub.of_below HWRc17.out)) _ _ HVa.out)
            have HVWb := Lib.hid (show RDv wc17 wr.heap.size (valDs vb) _ from RDv.grow (Nat.le_refl _) ((thin_sub _ _ wr).trans (Sub.of_below HWRc17.out)) _ _ HVb.out)
            have OA := Lib.hid (show ValOk va from by have h1 := fform_val (HFM.out.2 a (by simp)); rw [EPa.out] at h1; exact h1)
            have OB := Lib.hid (show ValOk vb from by have h1 := fform_val (HFM.out.2 b (by simp)); rw [EPb.out] at h1; exact h1)
            have kS := Lib.hid (show ∀ w' : World, Below wc17.heap.size wc17 w' → (w'.cell? ⟨w.heap.size, 0, none⟩ = some (.int .i64 11) ∧ w'.cell? ⟨ad.block, ad.off + 3, none⟩ = some (.int .i64 a3) ∧ w'.cell? ⟨ad.block, ad.off + 4, none⟩ = some (.int .i64 a4) ∧ w'.cell? ⟨ad.block, ad.off + 5, none⟩ = some (.string a5) ∧ w'.cell? ⟨ad.block, ad.off + 6, none⟩ = some (.slice aA aB aC) ∧ w'.cell? ⟨ad.block, ad.off + 7, none⟩ = some (.slice aD aE aG) ∧ w'.cell? ⟨ad.block, ad.off + 12, none⟩ = some (.int .i64 b3) ∧ w'.cell? ⟨ad.block, ad.off + 13, none⟩ = some (.int .i64 b4) ∧ w'.cell? ⟨ad.block, ad.off + 14, none⟩ = some (.string b5) ∧ w'.cell? ⟨ad.block, ad.off + 15, none⟩ = some (.slice bA bB bC) ∧ w'.cell? ⟨ad.block, ad.off + 16, none⟩ = some (.slice bD bE bG)) from fun w' hb => ⟨(HPRc17.out.below hb).cell 0, cell_below au3c17 hb, cell_below au4c17 hb, cell_below au5c17 hb, cell_below au6c17 hb, cell_below au7c17 hb, cell_below bu3c17 hb, cell_below bu4c17 hb, cell_below bu5c17 hb, cell_below bu6c17 hb, cell_below bu7c17 hb⟩)
            have gA := Lib.hid (show Below wc17.heap.size wc17 wc17.drew from (Below.refl _ _).drew)
            have gG := Lib.hid (show Below wc17.heap.size wc17 (wc17.alloc (.cells #[.int .i64 0, .int .i64 0, .string ⟨#[]⟩, .slice none 0 0, .slice none 0 0] 32)).drew from (below_box wc17 _).drew)
            have kA := Lib.hid (kS.out _ gA.out)
            have kG := Lib.hid (kS.out _ gG.out)
            clear au0c17 au1c17 au2c17 au3c17 au4c17 au5c17 au6c17 au7c17 au8c17 bu0c17 bu1c17 bu2c17 bu3c17 bu4c17 bu5c17 bu6c17 bu7c17 bu8c17
            go_upto_region 34 with fail
            go_region_held3 (fun w' => w'.cell? ⟨w.heap.size, 0, none⟩ = some (.int .i64 11) ∧ w'.cell? ⟨ad.block, ad.off + 3, none⟩ = some (.int .i64 a3) ∧ w'.cell? ⟨ad.block, ad.off + 4, none⟩ = some (.int .i64 a4) ∧ w'.cell? ⟨ad.block, ad.off + 5, none⟩ = some (.string a5) ∧ w'.cell? ⟨ad.block, ad.off + 6, none⟩ = some (.slice aA aB aC) ∧ w'.cell? ⟨ad.block, ad.off + 7, none⟩ = some (.slice aD aE aG) ∧ w'.cell? ⟨ad.block, ad.off + 12, none⟩ = some (.int .i64 b3) ∧ w'.cell? ⟨ad.block, ad.off + 13, none⟩ = some (.int .i64 b4) ∧ w'.cell? ⟨ad.block, ad.off + 14, none⟩ = some (.string b5) ∧ w'.cell? ⟨ad.block, ad.off + 15, none⟩ = some (.slice bA bB bC) ∧ w'.cell? ⟨ad.block, ad.off + 16, none⟩ = some (.slice bD bE bG))
              (first | (with_reducible exact kA.out) | (with_reducible exact kC.out) | (with_reducible exact kD.out) | (with_reducible exact kE.out) | (with_reducible exact kG.out) | (with_reducible exact kH.out) | fail "keep")
              (first
                | (go_at_call 44; (refine (pair_at hwz HVWa.out HVWb.out OA.out OB.out (by decide) (by first | (with_reducible exact gA.out) | (with_reducible exact gG.out))).mono ?_); rintro e wq ⟨d0, d1, d2, A9, n9, c9, A10, n10, c10, rr, rfl, ht, hbq⟩; (first | (have hbB := Lib.hid (gA.out.trans (hbq.mono gA.out.size)); have HBq := hbB; clear hbB; have HTq := Lib.hid (show Two _ wc17.heap.size wq rr _ from ht)) | (have hbB := Lib.hid (gG.out.trans (hbq.mono gG.out.size)); have HBq := hbB; clear hbB; have HXq := Lib.hid (show Blk wq wc17.heap.size 32 [.int .i64 0, .int .i64 0, .string ⟨#[]⟩, .slice none 0 0, .slice none 0 0] from (Blk.new wc17 _ [.int .i64 0, .int .i64 0, .string ⟨#[]⟩, .slice none 0 0, .slice none 0 0]).drew.below hbq); obtain ⟨cX, fX⟩ := blk_rules HXq.out; have HTq := Lib.hid (show Two _ (wc17.heap.size + 1) wq rr _ from by have h5 : (wc17.alloc (.cells #[.int .i64 0, .int .i64 0, .string ⟨#[]⟩, .slice none 0 0, .slice none 0 0] 32)).drew.heap.size = wc17.heap.size + 1 := (show (wc17.alloc (.cells #[.int .i64 0, .int .i64 0, .string ⟨#[]⟩, .slice none 0 0, .slice none 0 0] 32)).heap.size = _ by simp); rw [h5] at ht; exact ht)) | fail "xq"); have kC := Lib.hid (kS.out wq HBq.out); have kD := Lib.hid (kS.out (wq.alloc (.cells #[.int .i64 d0, .int .i64 d1, .string d2, .slice A9 n9 c9, .slice A10 n10 c10] 32)) (HBq.out.trans ((below_box wq _).mono HBq.out.size))); have kE := Lib.hid (kS.out (wq.alloc (.cells #[.int .i64 0, .int .i64 0, .string ⟨#[]⟩, .slice none 0 0, .slice none 0 0] 32)) (HBq.out.trans ((below_box wq _).mono HBq.out.size))); have kH := Lib.hid (kS.out (((((wq.setCell ⟨wc17.heap.size, 0, none⟩ (.int .i64 d0)).setCell ⟨wc17.heap.size, 1, none⟩ (.int .i64 d1)).setCell ⟨wc17.heap.size, 2, none⟩ (.string d2)).setCell ⟨wc17.heap.size, 3, none⟩ (.slice A9 n9 c9)).setCell ⟨wc17.heap.size, 4, none⟩ (.slice A10 n10 c10)) (setAll_below (o := 0) [_, _, _, _, _] (Nat.le_refl _) HBq.out)); clear ht hbq)
                | fail "no arm")
            · obtain ⟨bx, ebx⟩ : ∃ b : Nat, b = wq.heap.size := ⟨_, rfl⟩
              obtain ⟨Wf, ef⟩ : ∃ W : World, W = wq.alloc (.cells #[.int .i64 d0, .int .i64 d1, .string d2, .slice A9 n9 c9, .slice A10 n10 c10] 32) := ⟨_, rfl⟩
              have HBf := Lib.hid (show Below wc17.heap.size wc17 Wf from by rw [ef]; exact HBq.out.trans ((below_box wq _).mono HBq.out.size))
              have HXf := Lib.hid (show Blk Wf bx 32 [.int .i64 d0, .int .i64 d1, .string d2, .slice A9 n9 c9, .slice A10 n10 c10] from by rw [ef, ebx]; exact Blk.new wq _ _)
              have HTf := Lib.hid (show Two _ wc17.heap.size Wf rr _ from by rw [ef]; exact HTq.out.keep (Nat.le_refl _) fun q _ hq => Below.heap_alloc _ _ _ hq)
              have hbxw : wc17.heap.size ≤ bx := by rw [ebx]; exact HBq.out.size
              rw [← ef, ← ebx]
              clear ef ebx cP fP cR fR cO fO kA kC kD kE kG kH gA gG kS HTq
              have HBLf := Lib.hid (HBLc17.out.trans (HBf.out.mono HBLc17.out.size))
              have HRf := Lib.hid (HBRc17.out.below HBf.out)
              obtain ⟨cR, fR⟩ := blk_rules HRf.out
              obtain ⟨cX, fX⟩ := blk_rules HXf.out
              have hRX : w.heap.size + 1 ≠ bx := by omega
              cases rr with
              | true =>
                obtain ⟨u, fp, hu, hO, hfp⟩ : ∃ u fp, twoV 11 va vb = some u ∧ ODv Wf (valDs u) [.int .i64 d0, .int .i64 d1, .string d2, .slice A9 n9 c9, .slice A10 n10 c10] fp ∧ ∀ q ∈ fp, wc17.heap.size ≤ q := by
                  rcases HTf.out with ⟨_, h⟩ | ⟨h, _⟩
                  · exact h
                  · cases h
                have HX := Lib.hid (HSK.out.trans (show slimK _ _ = fLit u from by have h0 := N1.out; have h1 := N2.out; rw [EPa.out, EPb.out, h0, h1]; exact (slimK_two (by decide)).1 u hu))
                have HZ := Lib.hid (show RT (fun b => b < B ∨ w.heap.size + 3 ≤ b) Wf (filtDs (fLit u)) [.int .i64 2, .int .i64 0, .string ⟨#[]⟩, .int .i64 d0, .int .i64 d1, .string d2, .slice A9 n9 c9, .slice A10 n10 c10, .slice none 0 0] from rdf_lit (vs := [.int .i64 d0, .int .i64 d1, .string d2, .slice A9 n9 c9, .slice A10 n10 c10]) (RT.of_od hO fun q hq => .inr (by have := hfp q hq; omega)))
                clear hu hO hfp
                go_wp2
                refine bodyPost_ret (v := .agg #[.int .i64 2, .int .i64 0, .string ⟨#[]⟩, .int .i64 d0, .int .i64 d1, .string d2, .slice A9 n9 c9, .slice A10 n10 c10, .slice none 0 0]) (by simp [results, Tryz.results19, go_sem, cR]) rfl ?_
                exact si_end (zs := [.int .i64 2, .int .i64 0, .string ⟨#[]⟩, .int .i64 d0, .int .i64 d1, .string d2, .slice A9 n9 c9, .slice A10 n10 c10, .slice none 0 0]) HZ.out HBLf.out hB HX.out
              | false =>
                have hn : twoV 11 va vb = none := by
                  rcases HTf.out with ⟨h, _⟩ | ⟨_, h⟩
                  · cases h
                  · exact h
                have HX := Lib.hid (HSK.out.trans (show slimK _ _ = fBad from by have h0 := N1.out; have h1 := N2.out; rw [EPa.out, EPb.out, h0, h1]; exact (slimK_two (by decide)).2 hn))
                have HZ := Lib.hid (show RT (fun b => b < B ∨ w.heap.size + 3 ≤ b) Wf (filtDs fBad) [.int .i64 19, .int .i64 0, .string ⟨#[]⟩, .int .i64 0, .int .i64 0, .string ⟨#[]⟩, .slice none 0 0, .slice none 0 0, .slice none 0 0] from rdf_bad _ _)
                clear hn
                go_wp2
                refine bodyPost_ret (v := .agg #[.int .i64 19, .int .i64 0, .string ⟨#[]⟩, .int .i64 0, .int .i64 0, .string ⟨#[]⟩, .slice none 0 0, .slice none 0 0, .slice none 0 0]) (by simp [results, Tryz.results19, go_sem, cR]) rfl ?_
                exact si_end (zs := [.int .i64 19, .int .i64 0, .string ⟨#[]⟩, .int .i64 0, .int .i64 0, .string ⟨#[]⟩, .slice none 0 0, .slice none 0 0, .slice none 0 0]) HZ.out HBLf.out hB HX.out
            · obtain ⟨bx, ebx⟩ : ∃ b : Nat, b = wc17.heap.size := ⟨_, rfl⟩
              obtain ⟨Wf, ef⟩ : ∃ W : World, W = (((((wq.setCell ⟨wc17.heap.size, 0, none⟩ (.int .i64 d0)).setCell ⟨wc17.heap.size, 1, none⟩ (.int .i64 d1)).setCell ⟨wc17.heap.size, 2, none⟩ (.string d2)).setCell ⟨wc17.heap.size, 3, none⟩ (.slice A9 n9 c9)).setCell ⟨wc17.heap.size, 4, none⟩ (.slice A10 n10 c10)) := ⟨_, rfl⟩
              have HBf := Lib.hid (show Below wc17.heap.size wc17 Wf from by rw [ef]; exact setAll_below (o := 0) [_, _, _, _, _] (Nat.le_refl _) HBq.out)
              have HXf := Lib.hid (show Blk Wf bx 32 [.int .i64 d0, .int .i64 d1, .string d2, .slice A9 n9 c9, .slice A10 n10 c10] from by rw [ef, ebx]; exact ((((HXq.out.set_ 0 _).set_ 1 _).set_ 2 _).set_ 3 _).set_ 4 _)
              have HTf := Lib.hid (show Two _ wc17.heap.size Wf rr _ from by rw [ef]; exact HTq.out.keep (Nat.le_succ _) fun q h1 _ => setAll_other [_, _, _, _, _] wq wc17.heap.size 0 q (by omega))
              have hbxw : wc17.heap.size ≤ bx := by rw [ebx]; exact Nat.le_refl _
              rw [← ef, ← ebx]
              clear ef ebx cP fP cR fR cO fO kA kC kD kE kG kH gA gG kS HTq cX fX
              have HBLf := Lib.hid (HBLc17.out.trans (HBf.out.mono HBLc17.out.size))
              have HRf := Lib.hid (HBRc17.out.below HBf.out)
              obtain ⟨cR, fR⟩ := blk_rules HRf.out
              obtain ⟨cX, fX⟩ := blk_rules HXf.out
              have hRX : w.heap.size + 1 ≠ bx := by omega
              cases rr with
              | true =>
                obtain ⟨u, fp, hu, hO, hfp⟩ : ∃ u fp, twoV 11 va vb = some u ∧ ODv Wf (valDs u) [.int .i64 d0, .int .i64 d1, .string d2, .slice A9 n9 c9, .slice A10 n10 c10] fp ∧ ∀ q ∈ fp, wc17.heap.size ≤ q := by
                  rcases HTf.out with ⟨_, h⟩ | ⟨h, _⟩
                  · exact h
                  · cases h
                have HX := Lib.hid (HSK.out.trans (show slimK _ _ = fLit u from by have h0 := N1.out; have h1 := N2.out; rw [EPa.out, EPb.out, h0, h1]; exact (slimK_two (by decide)).1 u hu))
                have HZ := Lib.hid (show RT (fun b => b < B ∨ w.heap.size + 3 ≤ b) Wf (filtDs (fLit u)) [.int .i64 2, .int .i64 0, .string ⟨#[]⟩, .int .i64 d0, .int .i64 d1, .string d2, .slice A9 n9 c9, .slice A10 n10 c10, .slice none 0 0] from rdf_lit (vs := [.int .i64 d0, .int .i64 d1, .string d2, .slice A9 n9 c9, .slice A10 n10 c10]) (RT.of_od hO fun q hq => .inr (by have := hfp q hq; omega)))
                clear hu hO hfp
                go_wp2
                refine bodyPost_ret (v := .agg #[.int .i64 2, .int .i64 0, .string ⟨#[]⟩, .int .i64 d0, .int .i64 d1, .string d2, .slice A9 n9 c9, .slice A10 n10 c10, .slice none 0 0]) (by simp [results, Tryz.results19, go_sem, cR]) rfl ?_
                exact si_end (zs := [.int .i64 2, .int .i64 0, .string ⟨#[]⟩, .int .i64 d0, .int .i64 d1, .string d2, .slice A9 n9 c9, .slice A10 n10 c10, .slice none 0 0]) HZ.out HBLf.out hB HX.out
              | false =>
                have hn : twoV 11 va vb = none := by
                  rcases HTf.out with ⟨h, _⟩ | ⟨_, h⟩
                  · cases h
                  · exact h
                have HX := Lib.hid (HSK.out.trans (show slimK _ _ = fBad from by have h0 := N1.out; have h1 := N2.out; rw [EPa.out, EPb.out, h0, h1]; exact (slimK_two (by decide)).2 hn))
                have HZ := Lib.hid (show RT (fun b => b < B ∨ w.heap.size + 3 ≤ b) Wf (filtDs fBad) [.int .i64 19, .int .i64 0, .string ⟨#[]⟩, .int .i64 0, .int .i64 0, .string ⟨#[]⟩, .slice none 0 0, .slice none 0 0, .slice none 0 0] from rdf_bad _ _)
                clear hn
                go_wp2
                refine bodyPost_ret (v := .agg #[.int .i64 19, .int .i64 0, .string ⟨#[]⟩, .int .i64 0, .int .i64 0, .string ⟨#[]⟩, .slice none 0 0, .slice none 0 0, .slice none 0 0]) (by simp [results, Tryz.results19, go_sem, cR]) rfl ?_
                exact si_end (zs := [.int .i64 19, .int .i64 0, .string ⟨#[]⟩, .int .i64 0, .int .i64 0, .string ⟨#[]⟩, .slice none 0 0, .slice none 0 0, .slice none 0 0]) HZ.out HBLf.out hB HX.out
      have qk11 : (kind == 11) = false := by simpa using h11
      by_cases h17 : kind = 17
      · subst h17
        obtain ⟨a, rfl⟩ : ∃ a, M = [a] := by
          have h2 : kidsOf 17 = 1 := by decide
          have h3 := HKO.out
          have h1 : M.length = 1 := by omega
          match M, h1 with
          | [a], _ => exact ⟨a, rfl⟩
        have h2 : kidsOf 17 = 1 := by decide
        have h3 := HKO.out
        have hk1 : (kids.length : Int) = 1 := by omega
        clear h2 h3
        have l0 : (0 : Int) < (kids.length : Int) := by omega
        obtain ⟨ada, ya, c0, c1, c2, c3, c4, c5, c6, c7, c8, ea, hya, hga, z0, z1, z2, z3, z4, z5, z6, z7, z8⟩ := rt_at HT.out hML.symm (k := 0) (by rw [← hML]; simp)
        obtain ⟨ad, rfl⟩ : ∃ ad, A = some ad := ⟨_, ea⟩
        injection ea with ea
        subst ea
        obtain rfl : a = ya := by simpa using hga
        clear hga
        obtain ⟨ka, a1, a2, va, la, a3, a4, a5, aA, aB, aC, aD, aE, aG, aH, aJ, epa, ec, -, hva, -⟩ := filtDs_all hya
        simp only [List.cons.injEq, and_true] at ec
        obtain ⟨rfl, rfl, rfl, rfl, rfl, rfl, rfl, rfl, rfl⟩ := ec
        have Ha := Lib.hid (show RT (fun b => b < B ∨ w.heap.size + 3 ≤ b) wr (filtDs a) _ from hya)
        have HVa := Lib.hid hva
        have EPa := Lib.hid epa
        clear hya hva epa
        have au0 : wr.cell? ad = some (.int .i64 ka) := by simpa [Addr.add] using z0
        have au1 : wr.cell? ⟨ad.block, ad.off + 1, none⟩ = some (.int .i64 a1) := by simpa [Addr.add] using z1
        have au2 : wr.cell? ⟨ad.block, ad.off + 2, none⟩ = some (.string a2) := by simpa [Addr.add] using z2
        have au3 : wr.cell? ⟨ad.block, ad.off + 3, none⟩ = some (.int .i64 a3) := by simpa [Addr.add] using z3
        have au4 : wr.cell? ⟨ad.block, ad.off + 4, none⟩ = some (.int .i64 a4) := by simpa [Addr.add] using z4
        have au5 : wr.cell? ⟨ad.block, ad.off + 5, none⟩ = some (.string a5) := by simpa [Addr.add] using z5
        have au6 : wr.cell? ⟨ad.block, ad.off + 6, none⟩ = some (.slice aA aB aC) := by simpa [Addr.add] using z6
        have au7 : wr.cell? ⟨ad.block, ad.off + 7, none⟩ = some (.slice aD aE aG) := by simpa [Addr.add] using z7
        have au8 : wr.cell? ⟨ad.block, ad.off + 8, none⟩ = some (.slice aH la.length aJ) := by simpa [Addr.add] using z8
        clear z0 z1 z2 z3 z4 z5 z6 z7 z8
        go_wp2_with fail
        refine (evSure_calls a [_, _, _, _, _, _, _, _, _] wr wr.heap.size (d - 1) (Nat.le_refl _) Ha.out.rd (HFM.out.2 a (by simp))).mono ?_
        rintro e wc18 ⟨r, rfl, hr, hbx⟩
        have HBLc18 := Lib.hid (HBL.out.trans (hbx.mono HBL.out.size))
        have HPRc18 := Lib.hid (HPR.out.below hbx)
        have HBRc18 := Lib.hid (HBR.out.below hbx)
        have HBOc18 := Lib.hid (HBO.out.below hbx)
        have HFULLc18 := Lib.hid (HFULL.out.below hbx)
        have Hac18 := Lib.hid (Ha.out.below hbx)
        have au0c18 := cell_below au0 hbx
        have au1c18 := cell_below au1 hbx
        have au2c18 := cell_below au2 hbx
        have au3c18 := cell_below au3 hbx
        have au4c18 := cell_below au4 hbx
        have au5c18 := cell_below au5 hbx
        have au6c18 := cell_below au6 hbx
        have au7c18 := cell_below au7 hbx
        have au8c18 := cell_below au8 hbx
        clear au0 au1 au2 au3 au4 au5 au6 au7 au8
        clear hbx cP fP cO fO cR fR
        obtain ⟨cP, fP⟩ := blk_rules HPRc18.out
        obtain ⟨cR, fR⟩ := blk_rules HBRc18.out
        obtain ⟨cO, fO⟩ := blk_rules HBOc18.out
        cases r with
        | true =>
          have N1 := Lib.hid (show ev tabSure a = true from hr.1 rfl)
          clear hr
          have HX := Lib.hid (HSK.out.trans (show slimK _ _ = a from by (have h_0 := N1.out; simp [slimK, fKind, h_0])))
          go_wp2
          refine bodyPost_ret (v := .agg #[.int .i64 ka, .int .i64 a1, .string a2, .int .i64 a3, .int .i64 a4, .string a5, .slice aA aB aC, .slice aD aE aG, .slice aH la.length aJ]) (by simp [results, Tryz.results19, go_sem, cR]) rfl ?_
          exact si_end (zs := [.int .i64 ka, .int .i64 a1, .string a2, .int .i64 a3, .int .i64 a4, .string a5, .slice aA aB aC, .slice aD aE aG, .slice aH la.length aJ]) Hac18.out HBLc18.out hB HX.out
        | false =>
          have N1 := Lib.hid (show ev tabSure a = false from by cases hq : ev tabSure a with | false => rfl | true => have h1 := hr.2 hq; cases h1)
          clear hr
          have HX := Lib.hid (HSK.out.trans (show slimK _ _ = (.mk 17 n s v [a]) from by (have h_0 := N1.out; simp [slimK, fKind, h_0])))
          go_wp2
          refine bodyPost_ret (v := .agg #[.int .i64 17, .int .i64 n, .string s, .int .i64 f3, .int .i64 f4, .string f5, .slice A6 n6 q6, .slice A7 n7 q7, .slice (some ad) kids.length qc]) (by simp [results, Tryz.results19, go_sem, cR]) rfl ?_
          exact si_end (zs := [.int .i64 17, .int .i64 n, .string s, .int .i64 f3, .int .i64 f4, .string f5, .slice A6 n6 q6, .slice A7 n7 q7, .slice (some ad) kids.length qc]) HFULLc18.out HBLc18.out hB HX.out
      have qk17 : (kind == 17) = false := by simpa using h17
      by_cases h16 : kind = 16
      · subst h16
        obtain ⟨a, b, rfl⟩ : ∃ a b, M = [a, b] := by
          have h2 : kidsOf 16 = 2 := by decide
          have h3 := HKO.out
          have h1 : M.length = 2 := by omega
          match M, h1 with
          | [a, b], _ => exact ⟨a, b, rfl⟩
        have h2 : kidsOf 16 = 2 := by decide
        have h3 := HKO.out
        have hk1 : (kids.length : Int) = 2 := by omega
        clear h2 h3
        have l0 : (0 : Int) < (kids.length : Int) := by omega
        have l1 : (1 : Int) < (kids.length : Int) := by omega
        obtain ⟨ada, ya, c0, c1, c2, c3, c4, c5, c6, c7, c8, ea, hya, hga, z0, z1, z2, z3, z4, z5, z6, z7, z8⟩ := rt_at HT.out hML.symm (k := 0) (by rw [← hML]; simp)
        obtain ⟨ad, rfl⟩ : ∃ ad, A = some ad := ⟨_, ea⟩
        injection ea with ea
        subst ea
        obtain rfl : a = ya := by simpa using hga
        clear hga
        obtain ⟨ka, a1, a2, va, la, a3, a4, a5, aA, aB, aC, aD, aE, aG, aH, aJ, epa, ec, -, hva, -⟩ := filtDs_all hya
        simp only [List.cons.injEq, and_true] at ec
        obtain ⟨rfl, rfl, rfl, rfl, rfl, rfl, rfl, rfl, rfl⟩ := ec
        have Ha := Lib.hid (show RT (fun b => b < B ∨ w.heap.size + 3 ≤ b) wr (filtDs a) _ from hya)
        have HVa := Lib.hid hva
        have EPa := Lib.hid epa
        clear hya hva epa
        have au0 : wr.cell? ad = some (.int .i64 ka) := by simpa [Addr.add] using z0
        have au1 : wr.cell? ⟨ad.block, ad.off + 1, none⟩ = some (.int .i64 a1) := by simpa [Addr.add] using z1
        have au2 : wr.cell? ⟨ad.block, ad.off + 2, none⟩ = some (.string a2) := by simpa [Addr.add] using z2
        have au3 : wr.cell? ⟨ad.block, ad.off + 3, none⟩ = some (.int .i64 a3) := by simpa [Addr.add] using z3
        have au4 : wr.cell? ⟨ad.block, ad.off + 4, none⟩ = some (.int .i64 a4) := by simpa [Addr.add] using z4
        have au5 : wr.cell? ⟨ad.block, ad.off + 5, none⟩ = some (.string a5) := by simpa [Addr.add] using z5
        have au6 : wr.cell? ⟨ad.block, ad.off + 6, none⟩ = some (.slice aA aB aC) := by simpa [Addr.add] using z6
        have au7 : wr.cell? ⟨ad.block, ad.off + 7, none⟩ = some (.slice aD aE aG) := by simpa [Addr.add] using z7
        have au8 : wr.cell? ⟨ad.block, ad.off + 8, none⟩ = some (.slice aH la.length aJ) := by simpa [Addr.add] using z8
        clear z0 z1 z2 z3 z4 z5 z6 z7 z8
        obtain ⟨adb, yb, c0, c1, c2, c3, c4, c5, c6, c7, c8, eb, hyb, hgb, z0, z1, z2, z3, z4, z5, z6, z7, z8⟩ := rt_at HT.out hML.symm (k := 1) (by rw [← hML]; simp)
        injection eb with eb
        subst eb
        obtain rfl : b = yb := by simpa using hgb
        clear hgb
        obtain ⟨kb, b1, b2, vb, lb, b3, b4, b5, bA, bB, bC, bD, bE, bG, bH, bJ, epb, ec, -, hvb, -⟩ := filtDs_all hyb
        simp only [List.cons.injEq, and_true] at ec
        obtain ⟨rfl, rfl, rfl, rfl, rfl, rfl, rfl, rfl, rfl⟩ := ec
        have Hb := Lib.hid (show RT (fun b => b < B ∨ w.heap.size + 3 ≤ b) wr (filtDs b) _ from hyb)
        have HVb := Lib.hid hvb
        have EPb := Lib.hid epb
        clear hyb hvb epb
        have bu0 : wr.cell? ⟨ad.block, ad.off + 9, none⟩ = some (.int .i64 kb) := by simpa [Addr.add] using z0
        have bu1 : wr.cell? ⟨ad.block, ad.off + 10, none⟩ = some (.int .i64 b1) := by simpa [Addr.add] using z1
        have bu2 : wr.cell? ⟨ad.block, ad.off + 11, none⟩ = some (.string b2) := by simpa [Addr.add] using z2
        have bu3 : wr.cell? ⟨ad.block, ad.off + 12, none⟩ = some (.int .i64 b3) := by simpa [Addr.add] using z3
        have bu4 : wr.cell? ⟨ad.block, ad.off + 13, none⟩ = some (.int .i64 b4) := by simpa [Addr.add] using z4
        have bu5 : wr.cell? ⟨ad.block, ad.off + 14, none⟩ = some (.string b5) := by simpa [Addr.add] using z5
        have bu6 : wr.cell? ⟨ad.block, ad.off + 15, none⟩ = some (.slice bA bB bC) := by simpa [Addr.add] using z6
        have bu7 : wr.cell? ⟨ad.block, ad.off + 16, none⟩ = some (.slice bD bE bG) := by simpa [Addr.add] using z7
        have bu8 : wr.cell? ⟨ad.block, ad.off + 17, none⟩ = some (.slice bH lb.length bJ) := by simpa [Addr.add] using z8
        clear z0 z1 z2 z3 z4 z5 z6 z7 z8
        go_wp2_with fail
        refine (is2 ka a1 a2 _ _ _ _ _ _ 18 19 wr).mono ?_
        rintro e wc19 ⟨r, rfl, hr, hbx⟩
        have HBLc19 := Lib.hid (HBL.out.trans (hbx.mono HBL.out.size))
        have HWRc19 := Lib.hid (HWR.out.trans (hbx.mono HWR.out.size))
        have HPRc19 := Lib.hid (HPR.out.below hbx)
        have HBRc19 := Lib.hid (HBR.out.below hbx)
        have HBOc19 := Lib.hid (HBO.out.below hbx)
        have HFULLc19 := Lib.hid (HFULL.out.below hbx)
        have Hac19 := Lib.hid (Ha.out.below hbx)
        have Hbc19 := Lib.hid (Hb.out.below hbx)
        have hzc19 := hbx.size
        have au0c19 := cell_below au0 hbx
        have au1c19 := cell_below au1 hbx
        have au2c19 := cell_below au2 hbx
        have au3c19 := cell_below au3 hbx
        have au4c19 := cell_below au4 hbx
        have au5c19 := cell_below au5 hbx
        have au6c19 := cell_below au6 hbx
        have au7c19 := cell_below au7 hbx
        have au8c19 := cell_below au8 hbx
        have bu0c19 := cell_below bu0 hbx
        have bu1c19 := cell_below bu1 hbx
        have bu2c19 := cell_below bu2 hbx
        have bu3c19 := cell_below bu3 hbx
        have bu4c19 := cell_below bu4 hbx
        have bu5c19 := cell_below bu5 hbx
        have bu6c19 := cell_below bu6 hbx
        have bu7c19 := cell_below bu7 hbx
        have bu8c19 := cell_below bu8 hbx
        clear au0 au1 au2 au3 au4 au5 au6 au7 au8 bu0 bu1 bu2 bu3 bu4 bu5 bu6 bu7 bu8
        clear hbx cP fP cO fO cR fR
        obtain ⟨cP, fP⟩ := blk_rules HPRc19.out
        obtain ⟨cR, fR⟩ := blk_rules HBRc19.out
        obtain ⟨cO, fO⟩ := blk_rules HBOc19.out
        cases r with
        | true =>
          have N1 := Lib.hid (show ka = 18 ∨ ka = 19 from hr.1 rfl)
          clear hr
          have HX := Lib.hid (HSK.out.trans (show slimK _ _ = b from by (have h_0 := N1.out; rw [EPa.out]; exact slimK_else h_0)))
          go_wp2
          refine bodyPost_ret (v := .agg #[.int .i64 kb, .int .i64 b1, .string b2, .int .i64 b3, .int .i64 b4, .string b5, .slice bA bB bC, .slice bD bE bG, .slice bH lb.length bJ]) (by simp [results, Tryz.results19, go_sem, cR]) rfl ?_
          exact si_end (zs := [.int .i64 kb, .int .i64 b1, .string b2, .int .i64 b3, .int .i64 b4, .string b5, .slice bA bB bC, .slice bD bE bG, .slice bH lb.length bJ]) Hbc19.out HBLc19.out hB HX.out
        | false =>
          have N1 := Lib.hid (show ¬ (ka = 18 ∨ ka = 19) from fun h => by have h1 := hr.2 h; cases h1)
          clear hr
          have HX := Lib.hid (HSK.out.trans (show slimK _ _ = (.mk 16 n s v [a, b]) from by (have h_0 := N1.out; rw [EPa.out]; exact slimK_else2 (fun e => h_0 (.inl e)) (fun e => h_0 (.inr e)))))
          go_wp2
          refine bodyPost_ret (v := .agg #[.int .i64 16, .int .i64 n, .string s, .int .i64 f3, .int .i64 f4, .string f5, .slice A6 n6 q6, .slice A7 n7 q7, .slice (some ad) kids.length qc]) (by simp [results, Tryz.results19, go_sem, cR]) rfl ?_
          exact si_end (zs := [.int .i64 16, .int .i64 n, .string s, .int .i64 f3, .int .i64 f4, .string f5, .slice A6 n6 q6, .slice A7 n7 q7, .slice (some ad) kids.length qc]) HFULLc19.out HBLc19.out hB HX.out
      have qk16 : (kind == 16) = false := by simpa using h16
      have HX := Lib.hid (HSK.out.trans (slimK_none h6 h7 h8 h9 h10 h11 h17 h16))
      go_wp2
      refine bodyPost_ret (v := .agg #[.int .i64 kind, .int .i64 n, .string s, .int .i64 f3, .int .i64 f4, .string f5, .slice A6 n6 q6, .slice A7 n7 q7, .slice A kids.length qc]) (by simp [results, Tryz.results19, go_sem, cR]) rfl ?_
      exact si_end (zs := [.int .i64 kind, .int .i64 n, .string s, .int .i64 f3, .int .i64 f4, .string f5, .slice A6 n6 q6, .slice A7 n7 q7, .slice A kids.length qc]) HFULL.out HBL.out hB HX.out
theorem slimI_calls : ∀ x, SlimI 19 x := Filt.ind fun kind n s v kids ih => slimI_of _ fun _ _ _ _ _ e => by
  injection e with e1 e2 e3 e4 e5
  subst e5
  exact ih
end Go.Proofs.YtppfgepoegicgaaGreatDoor
