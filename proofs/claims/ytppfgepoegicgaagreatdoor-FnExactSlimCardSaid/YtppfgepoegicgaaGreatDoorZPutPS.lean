/- A tree comes into a map of trees: the reference's l2Put. -/
import Derived.Test.YtppfgepoegicgaaGreatDoorGk
import Derived.Deep.DeepCutAuto
import Derived.Deep.RegionHeld3
import Derived.StillTailTactics
namespace Go.Proofs.YtppfgepoegicgaaGreatDoor
open Go Go.RowKit

set_option maxRecDepth 100000 in
set_option maxHeartbeats 8000000 in
theorem l2Put_calls (v : Val) (key : ByteArray) (x : Val) (us ux : List Value) (w G : World) (B : Nat) (hB : B ≤ w.heap.size) (hG : Sub B G w) (h : RDv G B (valDs v) us) (hx : RDv G B (valDs x) ux) (hkey : key.size ≤ 9223372036854775807) (hlen : (vKeys v).length = (vList v).length) (hl60 : (vKeys v).length ≤ 1000) (hst : Strict (vKeys v)) :
    Calls Tryz.prog 94 #[.agg us.toArray, .string key, .agg ux.toArray] w fun e w' => ∃ vs, e = .returned (.agg vs.toArray) ∧ (∀ W', Sub B G W' → (∀ b, w.heap.size ≤ b → b < w'.heap.size → W'.heap[b]? = w'.heap[b]?) → W'.heap.size = w'.heap.size → RDv W' W'.heap.size (valDs (ofPairs (putP (vPairs v) key x))) vs) ∧ Below w.heap.size w w' := by
  obtain ⟨k0, n0, s0, keys, list, A1, c1, A2, c2, rfl, rfl, hs0, hk, hl⟩ := valDs_open h
  obtain ⟨x0, x1, x2, X3, m3, p3, X4, m4, p4, rfl⟩ := valDs_shape hx
  simp only [vKeys, vList, vPairs] at hlen hl60 hst ⊢
  have HK := Lib.hid hk
  have HL := Lib.hid hl
  have HX := Lib.hid hx
  have HXONE := Lib.hid (RDv.one _ _ hx)
  have HLEN := Lib.hid hlen
  have hn2 := hk.len
  obtain ⟨iS, hiS, zS0, zS1, zS2⟩ := info_parts' Tryz.info_string
  obtain ⟨iV, hiV, zV0, zV1, zV2⟩ := info_parts' Tryz.info_Val
  obtain ⟨W1, EW⟩ : ∃ W1 : World, W1 = (((w.alloc (.cells #[.int .i64 k0, .int .i64 n0, .string s0, .slice A1 keys.length c1, .slice A2 list.length c2] 32)).alloc (.cells #[.int .i64 x0, .int .i64 x1, .string x2, .slice X3 m3 p3, .slice X4 m4 p4] 32)).alloc (.cells #[.int .i64 0, .int .i64 0, .string ⟨#[]⟩, .slice none 0 0, .slice none 0 0] 32)).alloc (.cells #[.int .i64 6, .int .i64 0, .string ⟨#[]⟩, .slice none 0 0, .slice none 0 0] 32) := ⟨_, rfl⟩
  have HI0 := Lib.hid (show PInv w G B [.int .i64 k0, .int .i64 n0, .string s0, .slice A1 keys.length c1, .slice A2 list.length c2] [.int .i64 x0, .int .i64 x1, .string x2, .slice X3 m3 p3, .slice X4 m4 p4] [] [] none 0 none 0 W1 from by
    have b0 := Blk.new w 32 [.int .i64 k0, .int .i64 n0, .string s0, .slice A1 keys.length c1, .slice A2 list.length c2]
    have b1 := Blk.new (w.alloc (.cells #[.int .i64 k0, .int .i64 n0, .string s0, .slice A1 keys.length c1, .slice A2 list.length c2] 32)) 32 [.int .i64 x0, .int .i64 x1, .string x2, .slice X3 m3 p3, .slice X4 m4 p4]
    have b2 := Blk.new ((w.alloc (.cells #[.int .i64 k0, .int .i64 n0, .string s0, .slice A1 keys.length c1, .slice A2 list.length c2] 32)).alloc (.cells #[.int .i64 x0, .int .i64 x1, .string x2, .slice X3 m3 p3, .slice X4 m4 p4] 32)) 32 zeroCells
    have b3 := Blk.new (((w.alloc (.cells #[.int .i64 k0, .int .i64 n0, .string s0, .slice A1 keys.length c1, .slice A2 list.length c2] 32)).alloc (.cells #[.int .i64 x0, .int .i64 x1, .string x2, .slice X3 m3 p3, .slice X4 m4 p4] 32)).alloc (.cells zeroCells.toArray 32)) 32 [.int .i64 6, .int .i64 0, .string ⟨#[]⟩, .slice none 0 0, .slice none 0 0]
    subst EW
    refine ⟨(((below_box2 w _ _).alloc (by simp <;> omega) _).alloc (by simp <;> omega) _), by simp, ((b0.alloc _).alloc _).alloc _, ?_, ?_, ?_, World.ownsRow_nil _ _ _ _, ⟨[], World.ownsRow_nil _ _ _ _, rfl⟩, fun q hq => by cases hq⟩
    · simpa [zeroCells] using (b1.alloc (.cells zeroCells.toArray 32)).alloc (.cells #[.int .i64 6, .int .i64 0, .string ⟨#[]⟩, .slice none 0 0, .slice none 0 0] 32)
    · simpa [zeroCells] using b2.alloc (.cells #[.int .i64 6, .int .i64 0, .string ⟨#[]⟩, .slice none 0 0, .slice none 0 0] 32)
    · simpa [zeroCells] using b3)
  have HE := Lib.hid EW
  have HSZ := Lib.hid (show ∀ p ∈ putP (keys.zip list) key x, p.1.size ≤ 9223372036854775807 from fun p hp => by
    rcases putP_mem hp with rfl | hp
    · exact hkey
    · obtain ⟨_, _, us, _, _, _, _, hr⟩ := hk
      exact strDs_size hr _ (List.of_mem_zip hp).1)
  have HST := Lib.hid (show Strict ((keys.zip list).map (·.1)) by rw [List.map_fst_zip (by omega)]; exact hst)
  clear h hx hk hl EW hst hlen
  go_enter Tryz.func94, Tryz.ntmps94
  go_upto_region 2 with fail
  rw [← HE.out]
  go_wp2
  go_loopw [8, 9] (fun dv i w' => ∃ (k : Nat) (done : Bool) (ka : List ByteArray) (va : List Val) (Ak : Option Addr) (ck : Nat) (Al : Option Addr) (cl : Nat), k ≤ keys.length ∧ dv = .bool done ∧ i = .int .i64 k ∧ ka.length ≤ 2 * k ∧ Hid (ka.length = va.length) ∧ Hid (PutTo (keys.zip list) key x done (ka.zip va) ((keys.zip list).drop k)) ∧ Hid (PInv w G B [.int .i64 k0, .int .i64 n0, .string s0, .slice A1 keys.length c1, .slice A2 list.length c2] [.int .i64 x0, .int .i64 x1, .string x2, .slice X3 m3 p3, .slice X4 m4 p4] ka va Ak ck Al cl w')) (fun _ i _ => keys.length - (intOf i).toNat)
  case atStart => exact ⟨0, false, [], [], none, 0, none, 0, by omega, rfl, rfl, by simp, (rfl : ([] : List ByteArray).length = ([] : List Val).length), PutTo.start HST.out, HI0.out⟩
  case round =>
    obtain ⟨k, done, ka, va, Ak, ck, Al, cl, hk, rfl, rfl, hka, HLA, HT, HI⟩ := hrel
    have hz := HI.out.size
    obtain ⟨cV, fV⟩ := blk_rules HI.out.bv
    obtain ⟨cX, fX⟩ := blk_rules HI.out.bx
    obtain ⟨cO, fO⟩ := blk_rules HI.out.bo
    have hva : va.length ≤ 2002 := by have := HLA.out; omega
    have hkb : ka.length ≤ 2002 := by omega
    by_cases hlt : k < keys.length
    · skip
      obtain ⟨ad, k', rfl, hab, hac0, hk9, HD1⟩ := row1_at HK.out rfl hlt
      obtain ⟨ad2, x', d0, d1, d2, d3, d4, rfl, hab2, hx5, hm5, HD5, e0, e1, e2, e3, e4⟩ := row5_at HL.out rfl (show k < list.length by rw [← HLEN.out]; exact hlt)
      have HAC := Lib.hid (hG _ _ (by rw [block_of_add]; exact hab) hac0)
      have HX5 := Lib.hid hx5
      have HONE5 := Lib.hid (RDv.one _ _ hx5)
      have H50 := Lib.hid (hG _ _ (by show (ad2.add (k * 5)).block < B; rw [block_of_add]; exact hab2) e0)
      have H51 := Lib.hid (hG _ _ (by show (ad2.add (k * 5)).block < B; rw [block_of_add]; exact hab2) e1)
      have H52 := Lib.hid (hG _ _ (by show (ad2.add (k * 5)).block < B; rw [block_of_add]; exact hab2) e2)
      have H53 := Lib.hid (hG _ _ (by show (ad2.add (k * 5)).block < B; rw [block_of_add]; exact hab2) e3)
      have H54 := Lib.hid (hG _ _ (by show (ad2.add (k * 5)).block < B; rw [block_of_add]; exact hab2) e4)
      have hlk : k < list.length := by rw [← HLEN.out]; exact hlt
      have hl2 := HL.out.len
      have j0 : (0 : Int) ≤ (k : Int) := by omega
      have j1 : (k : Int) < (keys.length : Int) := by omega
      have j2 : (k : Int) < (list.length : Int) := by omega
      have HT2 := Lib.hid (show PutTo (keys.zip list) key x done (ka.zip va) ((k', x') :: (keys.zip list).drop (k + 1)) from by have h := HT.out; rwa [zip_drop_at HD1.out HD5.out] at h)
      clear hac0 hx5 hm5 e0 e1 e2 e3 e4 HT
      have hac : wr.cell? (ad.add k) = some (.string k') := (HI.out.bel.cell (by rw [block_of_add]; omega)).trans HAC.out
      have h50 : wr.cell? (ad2.add (k * 5)) = some d0 := (HI.out.bel.cell (by show (ad2.add (k * 5)).block < _; rw [block_of_add]; omega)).trans H50.out
      have h51 : wr.cell? ⟨(ad2.add (k * 5)).block, (ad2.add (k * 5)).off + 1, none⟩ = some d1 := (HI.out.bel.cell (by show (ad2.add (k * 5)).block < _; rw [block_of_add]; omega)).trans H51.out
      have h52 : wr.cell? ⟨(ad2.add (k * 5)).block, (ad2.add (k * 5)).off + 2, none⟩ = some d2 := (HI.out.bel.cell (by show (ad2.add (k * 5)).block < _; rw [block_of_add]; omega)).trans H52.out
      have h53 : wr.cell? ⟨(ad2.add (k * 5)).block, (ad2.add (k * 5)).off + 3, none⟩ = some d3 := (HI.out.bel.cell (by show (ad2.add (k * 5)).block < _; rw [block_of_add]; omega)).trans H53.out
      have h54 : wr.cell? ⟨(ad2.add (k * 5)).block, (ad2.add (k * 5)).off + 4, none⟩ = some d4 := (HI.out.bel.cell (by show (ad2.add (k * 5)).block < _; rw [block_of_add]; omega)).trans H54.out
      cases done with
      | true =>
        have HP := Lib.hid HT2.out.behind
        have hne := str_ne HP.out.2
        go_upto_region 11 with fail
        have HId := Lib.hid HI.out.drew
        have cOa := fun o => (HId.out.bo.alloc o).cell
        have cOb := fun o => (HI.out.bo.alloc o).cell
        have HRa := Lib.hid (World.ownsRow.alloc HId.out.rk (.cells #[.string k'] 9))
        have HRD := Lib.hid (boxed_reads wr.drew 9 [.string k'] 1 rfl)
        have HON := Lib.hid (show ∀ u ∈ [(.string k' : Value)], u.oneCell' = true from fun u hu => by rw [List.mem_singleton.1 hu]; rfl)
        go_cut [9] from 11 to 67 (fun s9 wx => s9 = .int .i64 k ∧ ∃ (kp : List ByteArray) (Ak' : Option Addr) (ck' : Nat) (Al' : Option Addr) (cl' : Nat), Hid (kp = ka ++ [k']) ∧ Hid (PInv w G B [.int .i64 k0, .int .i64 n0, .string s0, .slice (some ad) keys.length c1, .slice (some ad2) list.length c2] [.int .i64 x0, .int .i64 x1, .string x2, .slice X3 m3 p3, .slice X4 m4 p4] kp va Ak' ck' Al' cl' wx))
        case first =>
          go_region_law (first | (refine step_append_reads _ (by rfl) _ _ 22 (by rfl) (w.heap.size + 4) 9 iS _ 1 16 Tryz.underlying22 hiS zS0 zS1 zS2 rfl (by decide) _ ka.length _ (by rfl) HRa.out _ 1 1 _ [_] (by rfl) HRD.out HON.out (by unfold maxLen; omega) (by omega) (by simp <;> omega) ?_; intro v2 w2 hown hg hat; obtain ⟨Ap, cp, kp, rfl, EKp, HBO, HIpx⟩ := HId.out.key' hown hg hat; obtain ⟨cO, fO⟩ := blk_rules HBO.out) | fail "no arm")
          all_goals (go_wp2_with fail; go_meet; exact ⟨by go_num, _, _, _, _, _, EKp, HIpx⟩)
        obtain ⟨rfl, kp, Ap1, cp1, Ap2, cp2, EKp, HIp⟩ := hcut
        clear HId cOa cOb HRa HRD HON
        obtain ⟨wp, ew⟩ : ∃ W : World, W = wc := ⟨_, rfl⟩; rw [← ew]; rw [← ew] at HIp; clear ew; clear cV fV cX fX cO fO
        obtain ⟨cV, fV⟩ := blk_rules HIp.out.bv
        obtain ⟨cX, fX⟩ := blk_rules HIp.out.bx
        obtain ⟨cO, fO⟩ := blk_rules HIp.out.bo
        have hzp := HIp.out.size
        have hnp : kp.length ≤ ka.length + 1 := by rw [EKp.out, List.length_append]; exact Nat.le_refl _
        go_upto_region 12 with fail
        clear hac h50 h51 h52 h53 h54
        have hac : wp.cell? (ad.add k) = some (.string k') := (HIp.out.bel.cell (by rw [block_of_add]; omega)).trans HAC.out
        have h50 : wp.cell? (ad2.add (k * 5)) = some d0 := (HIp.out.bel.cell (by show (ad2.add (k * 5)).block < _; rw [block_of_add]; omega)).trans H50.out
        have h51 : wp.cell? ⟨(ad2.add (k * 5)).block, (ad2.add (k * 5)).off + 1, none⟩ = some d1 := (HIp.out.bel.cell (by show (ad2.add (k * 5)).block < _; rw [block_of_add]; omega)).trans H51.out
        have h52 : wp.cell? ⟨(ad2.add (k * 5)).block, (ad2.add (k * 5)).off + 2, none⟩ = some d2 := (HIp.out.bel.cell (by show (ad2.add (k * 5)).block < _; rw [block_of_add]; omega)).trans H52.out
        have h53 : wp.cell? ⟨(ad2.add (k * 5)).block, (ad2.add (k * 5)).off + 3, none⟩ = some d3 := (HIp.out.bel.cell (by show (ad2.add (k * 5)).block < _; rw [block_of_add]; omega)).trans H53.out
        have h54 : wp.cell? ⟨(ad2.add (k * 5)).block, (ad2.add (k * 5)).off + 4, none⟩ = some d4 := (HIp.out.bel.cell (by show (ad2.add (k * 5)).block < _; rw [block_of_add]; omega)).trans H54.out
        have HId := Lib.hid HIp.out.drew
        have cOa := fun o => (HId.out.bo.alloc o).cell
        have cOb := fun o => (HIp.out.bo.alloc o).cell
        obtain ⟨usv, huv, hrv⟩ := HId.out.rv
        have HUV := Lib.hid huv
        have HRV := Lib.hid hrv
        clear huv hrv
        have HRa := Lib.hid (World.ownsRow.alloc HUV.out (.cells #[d0, d1, d2, d3, d4] 32))
        have HRD := Lib.hid (boxed_reads wp.drew 32 [d0, d1, d2, d3, d4] 5 rfl)
        go_region_law (first | (refine step_append_reads _ (by rfl) _ _ 30 (by rfl) (w.heap.size + 4) 32 iV _ 5 80 Tryz.underlying30 hiV zV0 zV1 zV2 rfl (by decide) _ va.length _ (by rfl) HRa.out _ 1 1 _ [_, _, _, _, _] (by rfl) HRD.out HONE5.out (by unfold maxLen; omega) (by omega) (by simp <;> omega) ?_; intro v2 w2 hown hg hat; obtain ⟨Aq, cq, vq, rfl, EVq, HBO, HIqx⟩ := HId.out.val' HUV.out HRV.out HX5.out hown hg hat; obtain ⟨cO, fO⟩ := blk_rules HBO.out) | fail "no arm")
        all_goals
          obtain ⟨wq, ew⟩ : ∃ W : World, W = w2.setCell ⟨w.heap.size + 1 + 1 + 1, 4, none⟩ (.slice Aq vq.length cq) := ⟨_, rfl⟩
          rw [← ew]
          have HIq := Lib.hid (show PInv w G B [.int .i64 k0, .int .i64 n0, .string s0, .slice (some ad) keys.length c1, .slice (some ad2) list.length c2] [.int .i64 x0, .int .i64 x1, .string x2, .slice X3 m3 p3, .slice X4 m4 p4] kp vq _ _ _ _ wq from by rw [ew]; exact HIqx.out)
          clear ew HIqx HBO cO fO HRa HRD HUV HRV HId cOa cOb cV fV cX fX
          obtain ⟨cV, fV⟩ := blk_rules HIq.out.bv
          obtain ⟨cX, fX⟩ := blk_rules HIq.out.bx
          obtain ⟨cO, fO⟩ := blk_rules HIq.out.bo
          have hzq := HIq.out.size
          have hnq : vq.length ≤ va.length + 1 := by rw [EVq.out, List.length_append]; exact Nat.le_refl _
          go_wp2
          go_roundw
          case rel => exact ⟨k + 1, true, kp, vq, _, _, _, _, by omega, rfl, by go_num, by omega, (by show _ = _; rw [EKp.out, EVq.out, List.length_append, List.length_append, HLA.out]; rfl), (by show PutTo _ _ _ _ _ _; rw [EKp.out, EVq.out, zip_snoc HLA.out]; exact HP.out.1), HIq⟩
          case measure => simp [intOf]; omega
      | false =>
        by_cases tl : Op.bytesLess k'.toList key.toList = true
        · have HP := Lib.hid (HT2.out.later tl)
          have tl2 := bl_asymm tl
          have hkk : k' ≠ key := fun e => by rw [e, bl_irrefl] at tl; cases tl
          have hne := str_ne hkk
          have tl3 := bl_of_not tl
          go_upto_region 11 with fail
          have HId := Lib.hid HI.out.drew
          have cOa := fun o => (HId.out.bo.alloc o).cell
          have cOb := fun o => (HI.out.bo.alloc o).cell
          have HRa := Lib.hid (World.ownsRow.alloc HId.out.rk (.cells #[.string k'] 9))
          have HRD := Lib.hid (boxed_reads wr.drew 9 [.string k'] 1 rfl)
          have HON := Lib.hid (show ∀ u ∈ [(.string k' : Value)], u.oneCell' = true from fun u hu => by rw [List.mem_singleton.1 hu]; rfl)
          go_cut [9] from 11 to 67 (fun s9 wx => s9 = .int .i64 k ∧ ∃ (kp : List ByteArray) (Ak' : Option Addr) (ck' : Nat) (Al' : Option Addr) (cl' : Nat), Hid (kp = ka ++ [k']) ∧ Hid (PInv w G B [.int .i64 k0, .int .i64 n0, .string s0, .slice (some ad) keys.length c1, .slice (some ad2) list.length c2] [.int .i64 x0, .int .i64 x1, .string x2, .slice X3 m3 p3, .slice X4 m4 p4] kp va Ak' ck' Al' cl' wx))
          case first =>
            go_region_law (first | (refine step_append_reads _ (by rfl) _ _ 22 (by rfl) (w.heap.size + 4) 9 iS _ 1 16 Tryz.underlying22 hiS zS0 zS1 zS2 rfl (by decide) _ ka.length _ (by rfl) HRa.out _ 1 1 _ [_] (by rfl) HRD.out HON.out (by unfold maxLen; omega) (by omega) (by simp <;> omega) ?_; intro v2 w2 hown hg hat; obtain ⟨Ap, cp, kp, rfl, EKp, HBO, HIpx⟩ := HId.out.key' hown hg hat; obtain ⟨cO, fO⟩ := blk_rules HBO.out) | fail "no arm")
            all_goals (go_wp2_with fail; go_meet; exact ⟨by go_num, _, _, _, _, _, EKp, HIpx⟩)
          obtain ⟨rfl, kp, Ap1, cp1, Ap2, cp2, EKp, HIp⟩ := hcut
          clear HId cOa cOb HRa HRD HON
          obtain ⟨wp, ew⟩ : ∃ W : World, W = wc := ⟨_, rfl⟩; rw [← ew]; rw [← ew] at HIp; clear ew; clear cV fV cX fX cO fO
          obtain ⟨cV, fV⟩ := blk_rules HIp.out.bv
          obtain ⟨cX, fX⟩ := blk_rules HIp.out.bx
          obtain ⟨cO, fO⟩ := blk_rules HIp.out.bo
          have hzp := HIp.out.size
          have hnp : kp.length ≤ ka.length + 1 := by rw [EKp.out, List.length_append]; exact Nat.le_refl _
          go_upto_region 12 with fail
          clear hac h50 h51 h52 h53 h54
          have hac : wp.cell? (ad.add k) = some (.string k') := (HIp.out.bel.cell (by rw [block_of_add]; omega)).trans HAC.out
          have h50 : wp.cell? (ad2.add (k * 5)) = some d0 := (HIp.out.bel.cell (by show (ad2.add (k * 5)).block < _; rw [block_of_add]; omega)).trans H50.out
          have h51 : wp.cell? ⟨(ad2.add (k * 5)).block, (ad2.add (k * 5)).off + 1, none⟩ = some d1 := (HIp.out.bel.cell (by show (ad2.add (k * 5)).block < _; rw [block_of_add]; omega)).trans H51.out
          have h52 : wp.cell? ⟨(ad2.add (k * 5)).block, (ad2.add (k * 5)).off + 2, none⟩ = some d2 := (HIp.out.bel.cell (by show (ad2.add (k * 5)).block < _; rw [block_of_add]; omega)).trans H52.out
          have h53 : wp.cell? ⟨(ad2.add (k * 5)).block, (ad2.add (k * 5)).off + 3, none⟩ = some d3 := (HIp.out.bel.cell (by show (ad2.add (k * 5)).block < _; rw [block_of_add]; omega)).trans H53.out
          have h54 : wp.cell? ⟨(ad2.add (k * 5)).block, (ad2.add (k * 5)).off + 4, none⟩ = some d4 := (HIp.out.bel.cell (by show (ad2.add (k * 5)).block < _; rw [block_of_add]; omega)).trans H54.out
          have HId := Lib.hid HIp.out.drew
          have cOa := fun o => (HId.out.bo.alloc o).cell
          have cOb := fun o => (HIp.out.bo.alloc o).cell
          obtain ⟨usv, huv, hrv⟩ := HId.out.rv
          have HUV := Lib.hid huv
          have HRV := Lib.hid hrv
          clear huv hrv
          have HRa := Lib.hid (World.ownsRow.alloc HUV.out (.cells #[d0, d1, d2, d3, d4] 32))
          have HRD := Lib.hid (boxed_reads wp.drew 32 [d0, d1, d2, d3, d4] 5 rfl)
          go_region_law (first | (refine step_append_reads _ (by rfl) _ _ 30 (by rfl) (w.heap.size + 4) 32 iV _ 5 80 Tryz.underlying30 hiV zV0 zV1 zV2 rfl (by decide) _ va.length _ (by rfl) HRa.out _ 1 1 _ [_, _, _, _, _] (by rfl) HRD.out HONE5.out (by unfold maxLen; omega) (by omega) (by simp <;> omega) ?_; intro v2 w2 hown hg hat; obtain ⟨Aq, cq, vq, rfl, EVq, HBO, HIqx⟩ := HId.out.val' HUV.out HRV.out HX5.out hown hg hat; obtain ⟨cO, fO⟩ := blk_rules HBO.out) | fail "no arm")
          all_goals
            obtain ⟨wq, ew⟩ : ∃ W : World, W = w2.setCell ⟨w.heap.size + 1 + 1 + 1, 4, none⟩ (.slice Aq vq.length cq) := ⟨_, rfl⟩
            rw [← ew]
            have HIq := Lib.hid (show PInv w G B [.int .i64 k0, .int .i64 n0, .string s0, .slice (some ad) keys.length c1, .slice (some ad2) list.length c2] [.int .i64 x0, .int .i64 x1, .string x2, .slice X3 m3 p3, .slice X4 m4 p4] kp vq _ _ _ _ wq from by rw [ew]; exact HIqx.out)
            clear ew HIqx HBO cO fO HRa HRD HUV HRV HId cOa cOb cV fV cX fX
            obtain ⟨cV, fV⟩ := blk_rules HIq.out.bv
            obtain ⟨cX, fX⟩ := blk_rules HIq.out.bx
            obtain ⟨cO, fO⟩ := blk_rules HIq.out.bo
            have hzq := HIq.out.size
            have hnq : vq.length ≤ va.length + 1 := by rw [EVq.out, List.length_append]; exact Nat.le_refl _
            go_wp2
            go_roundw
            case rel => exact ⟨k + 1, false, kp, vq, _, _, _, _, by omega, rfl, by go_num, by omega, (by show _ = _; rw [EKp.out, EVq.out, List.length_append, List.length_append, HLA.out]; rfl), (by show PutTo _ _ _ _ _ _; rw [EKp.out, EVq.out, zip_snoc HLA.out]; exact HP.out), HIq⟩
            case measure => simp [intOf]; omega
        have tl1 : Op.bytesLess k'.toList key.toList = false := by simpa using tl
        have tl3 := bl_not tl
        by_cases hkk : k' = key
        · have hkk2 : key = k' := hkk.symm
          clear hkk
          subst hkk2
          have HP := Lib.hid HT2.out.hit
          go_upto_region 7 with fail
          have HRa := Lib.hid (World.ownsRow.alloc HI.out.rk (.cells #[.string key] 9))
          have HRD := Lib.hid (boxed_reads wr 9 [.string key] 1 rfl)
          have HON := Lib.hid (show ∀ u ∈ [(.string key : Value)], u.oneCell' = true from fun u hu => by rw [List.mem_singleton.1 hu]; rfl)
          go_upto_region 8 with (at_builtin; go_loud (refine wpList_append_reads _ rfl _ _ 22 rfl (w.heap.size + 4) 9 iS _ 1 16 Tryz.underlying22 hiS zS0 zS1 zS2 rfl (by decide) _ ka.length _ (by rfl) HRa.out _ 1 1 _ [_] (by rfl) HRD.out HON.out (by unfold maxLen; omega) (by omega) (by simp <;> omega) ?_; intro v2 w2 hown hg hat; obtain ⟨Ar, cr, kr, rfl, EKr, HBO, HIrx⟩ := HI.out.key' hown hg hat; clear cV fV cX fX cO fO; obtain ⟨cO, fO⟩ := blk_rules HBO.out))
          obtain ⟨wr_, ew⟩ : ∃ W : World, W = w2.setCell ⟨w.heap.size + 1 + 1 + 1, 3, none⟩ (.slice Ar kr.length cr) := ⟨_, rfl⟩
          rw [← ew]
          have HIr := Lib.hid (show PInv w G B [.int .i64 k0, .int .i64 n0, .string s0, .slice (some ad) keys.length c1, .slice (some ad2) list.length c2] [.int .i64 x0, .int .i64 x1, .string x2, .slice X3 m3 p3, .slice X4 m4 p4] kr va _ _ _ _ wr_ from by rw [ew]; exact HIrx.out)
          clear ew HIrx HBO cO fO HRa HRD HON
          obtain ⟨cV, fV⟩ := blk_rules HIr.out.bv
          obtain ⟨cX, fX⟩ := blk_rules HIr.out.bx
          obtain ⟨cO, fO⟩ := blk_rules HIr.out.bo
          have hzr := HIr.out.size
          have hnr : kr.length ≤ ka.length + 1 := by rw [EKr.out, List.length_append]; exact Nat.le_refl _
          obtain ⟨usv, huv, hrv⟩ := HIr.out.rv
          have HUV := Lib.hid huv
          have HRV := Lib.hid hrv
          clear huv hrv
          have HRa := Lib.hid (World.ownsRow.alloc HUV.out (.cells #[.int .i64 x0, .int .i64 x1, .string x2, .slice X3 m3 p3, .slice X4 m4 p4] 32))
          have HRD := Lib.hid (boxed_reads wr_ 32 [.int .i64 x0, .int .i64 x1, .string x2, .slice X3 m3 p3, .slice X4 m4 p4] 5 rfl)
          go_upto_region 10 with (at_builtin; go_loud (refine wpList_append_reads _ rfl _ _ 30 rfl (w.heap.size + 4) 32 iV _ 5 80 Tryz.underlying30 hiV zV0 zV1 zV2 rfl (by decide) _ va.length _ (by rfl) HRa.out _ 1 1 _ [_, _, _, _, _] (by rfl) HRD.out HXONE.out (by unfold maxLen; omega) (by omega) (by simp <;> omega) ?_; intro v2 w2 hown hg hat; obtain ⟨As, cs, vs, rfl, EVs, HBO, HIsx⟩ := HIr.out.val' HUV.out HRV.out HX.out hown hg hat; clear cV fV cX fX cO fO; obtain ⟨cO, fO⟩ := blk_rules HBO.out))
          obtain ⟨ws, ew⟩ : ∃ W : World, W = w2.setCell ⟨w.heap.size + 1 + 1 + 1, 4, none⟩ (.slice As vs.length cs) := ⟨_, rfl⟩
          rw [← ew]
          have HIs := Lib.hid (show PInv w G B [.int .i64 k0, .int .i64 n0, .string s0, .slice (some ad) keys.length c1, .slice (some ad2) list.length c2] [.int .i64 x0, .int .i64 x1, .string x2, .slice X3 m3 p3, .slice X4 m4 p4] kr vs _ _ _ _ ws from by rw [ew]; exact HIsx.out)
          clear ew HIsx HBO cO fO HRa HRD HUV HRV
          obtain ⟨cV, fV⟩ := blk_rules HIs.out.bv
          obtain ⟨cX, fX⟩ := blk_rules HIs.out.bx
          obtain ⟨cO, fO⟩ := blk_rules HIs.out.bo
          have hzs := HIs.out.size
          have hns : vs.length ≤ va.length + 1 := by rw [EVs.out, List.length_append]; exact Nat.le_refl _
          clear hac h50 h51 h52 h53 h54
          have hac : ws.cell? (ad.add k) = some (.string key) := (HIs.out.bel.cell (by rw [block_of_add]; omega)).trans HAC.out
          have h50 : ws.cell? (ad2.add (k * 5)) = some d0 := (HIs.out.bel.cell (by show (ad2.add (k * 5)).block < _; rw [block_of_add]; omega)).trans H50.out
          have h51 : ws.cell? ⟨(ad2.add (k * 5)).block, (ad2.add (k * 5)).off + 1, none⟩ = some d1 := (HIs.out.bel.cell (by show (ad2.add (k * 5)).block < _; rw [block_of_add]; omega)).trans H51.out
          have h52 : ws.cell? ⟨(ad2.add (k * 5)).block, (ad2.add (k * 5)).off + 2, none⟩ = some d2 := (HIs.out.bel.cell (by show (ad2.add (k * 5)).block < _; rw [block_of_add]; omega)).trans H52.out
          have h53 : ws.cell? ⟨(ad2.add (k * 5)).block, (ad2.add (k * 5)).off + 3, none⟩ = some d3 := (HIs.out.bel.cell (by show (ad2.add (k * 5)).block < _; rw [block_of_add]; omega)).trans H53.out
          have h54 : ws.cell? ⟨(ad2.add (k * 5)).block, (ad2.add (k * 5)).off + 4, none⟩ = some d4 := (HIs.out.bel.cell (by show (ad2.add (k * 5)).block < _; rw [block_of_add]; omega)).trans H54.out
          go_wp2
          go_roundw
          case rel => exact ⟨k + 1, true, kr, vs, _, _, _, _, by omega, rfl, by go_num, by omega, (by show _ = _; rw [EKr.out, EVs.out, List.length_append, List.length_append, HLA.out]; rfl), (by show PutTo _ _ _ _ _ _; rw [EKr.out, EVs.out, zip_snoc HLA.out]; exact HP.out), HIs⟩
          case measure => simp [intOf]; omega
        have HP := Lib.hid (HT2.out.ahead tl1 hkk)
        have hne := str_ne hkk
        go_upto_region 7 with fail
        have HRa := Lib.hid (World.ownsRow.alloc HI.out.rk (.cells #[.string key] 9))
        have HRD := Lib.hid (boxed_reads wr 9 [.string key] 1 rfl)
        have HON := Lib.hid (show ∀ u ∈ [(.string key : Value)], u.oneCell' = true from fun u hu => by rw [List.mem_singleton.1 hu]; rfl)
        go_upto_region 8 with (at_builtin; go_loud (refine wpList_append_reads _ rfl _ _ 22 rfl (w.heap.size + 4) 9 iS _ 1 16 Tryz.underlying22 hiS zS0 zS1 zS2 rfl (by decide) _ ka.length _ (by rfl) HRa.out _ 1 1 _ [_] (by rfl) HRD.out HON.out (by unfold maxLen; omega) (by omega) (by simp <;> omega) ?_; intro v2 w2 hown hg hat; obtain ⟨Ar, cr, kr, rfl, EKr, HBO, HIrx⟩ := HI.out.key' hown hg hat; clear cV fV cX fX cO fO; obtain ⟨cO, fO⟩ := blk_rules HBO.out))
        obtain ⟨wr_, ew⟩ : ∃ W : World, W = w2.setCell ⟨w.heap.size + 1 + 1 + 1, 3, none⟩ (.slice Ar kr.length cr) := ⟨_, rfl⟩
        rw [← ew]
        have HIr := Lib.hid (show PInv w G B [.int .i64 k0, .int .i64 n0, .string s0, .slice (some ad) keys.length c1, .slice (some ad2) list.length c2] [.int .i64 x0, .int .i64 x1, .string x2, .slice X3 m3 p3, .slice X4 m4 p4] kr va _ _ _ _ wr_ from by rw [ew]; exact HIrx.out)
        clear ew HIrx HBO cO fO HRa HRD HON
        obtain ⟨cV, fV⟩ := blk_rules HIr.out.bv
        obtain ⟨cX, fX⟩ := blk_rules HIr.out.bx
        obtain ⟨cO, fO⟩ := blk_rules HIr.out.bo
        have hzr := HIr.out.size
        have hnr : kr.length ≤ ka.length + 1 := by rw [EKr.out, List.length_append]; exact Nat.le_refl _
        obtain ⟨usv, huv, hrv⟩ := HIr.out.rv
        have HUV := Lib.hid huv
        have HRV := Lib.hid hrv
        clear huv hrv
        have HRa := Lib.hid (World.ownsRow.alloc HUV.out (.cells #[.int .i64 x0, .int .i64 x1, .string x2, .slice X3 m3 p3, .slice X4 m4 p4] 32))
        have HRD := Lib.hid (boxed_reads wr_ 32 [.int .i64 x0, .int .i64 x1, .string x2, .slice X3 m3 p3, .slice X4 m4 p4] 5 rfl)
        go_upto_region 10 with (at_builtin; go_loud (refine wpList_append_reads _ rfl _ _ 30 rfl (w.heap.size + 4) 32 iV _ 5 80 Tryz.underlying30 hiV zV0 zV1 zV2 rfl (by decide) _ va.length _ (by rfl) HRa.out _ 1 1 _ [_, _, _, _, _] (by rfl) HRD.out HXONE.out (by unfold maxLen; omega) (by omega) (by simp <;> omega) ?_; intro v2 w2 hown hg hat; obtain ⟨As, cs, vs, rfl, EVs, HBO, HIsx⟩ := HIr.out.val' HUV.out HRV.out HX.out hown hg hat; clear cV fV cX fX cO fO; obtain ⟨cO, fO⟩ := blk_rules HBO.out))
        obtain ⟨ws, ew⟩ : ∃ W : World, W = w2.setCell ⟨w.heap.size + 1 + 1 + 1, 4, none⟩ (.slice As vs.length cs) := ⟨_, rfl⟩
        rw [← ew]
        have HIs := Lib.hid (show PInv w G B [.int .i64 k0, .int .i64 n0, .string s0, .slice (some ad) keys.length c1, .slice (some ad2) list.length c2] [.int .i64 x0, .int .i64 x1, .string x2, .slice X3 m3 p3, .slice X4 m4 p4] kr vs _ _ _ _ ws from by rw [ew]; exact HIsx.out)
        clear ew HIsx HBO cO fO HRa HRD HUV HRV
        obtain ⟨cV, fV⟩ := blk_rules HIs.out.bv
        obtain ⟨cX, fX⟩ := blk_rules HIs.out.bx
        obtain ⟨cO, fO⟩ := blk_rules HIs.out.bo
        have hzs := HIs.out.size
        have hns : vs.length ≤ va.length + 1 := by rw [EVs.out, List.length_append]; exact Nat.le_refl _
        have HLR := Lib.hid (show kr.length = vs.length by rw [EKr.out, EVs.out, List.length_append, List.length_append, HLA.out]; rfl)
        clear hac h50 h51 h52 h53 h54
        have hac : ws.cell? (ad.add k) = some (.string k') := (HIs.out.bel.cell (by rw [block_of_add]; omega)).trans HAC.out
        have h50 : ws.cell? (ad2.add (k * 5)) = some d0 := (HIs.out.bel.cell (by show (ad2.add (k * 5)).block < _; rw [block_of_add]; omega)).trans H50.out
        have h51 : ws.cell? ⟨(ad2.add (k * 5)).block, (ad2.add (k * 5)).off + 1, none⟩ = some d1 := (HIs.out.bel.cell (by show (ad2.add (k * 5)).block < _; rw [block_of_add]; omega)).trans H51.out
        have h52 : ws.cell? ⟨(ad2.add (k * 5)).block, (ad2.add (k * 5)).off + 2, none⟩ = some d2 := (HIs.out.bel.cell (by show (ad2.add (k * 5)).block < _; rw [block_of_add]; omega)).trans H52.out
        have h53 : ws.cell? ⟨(ad2.add (k * 5)).block, (ad2.add (k * 5)).off + 3, none⟩ = some d3 := (HIs.out.bel.cell (by show (ad2.add (k * 5)).block < _; rw [block_of_add]; omega)).trans H53.out
        have h54 : ws.cell? ⟨(ad2.add (k * 5)).block, (ad2.add (k * 5)).off + 4, none⟩ = some d4 := (HIs.out.bel.cell (by show (ad2.add (k * 5)).block < _; rw [block_of_add]; omega)).trans H54.out
        go_upto_region 11 with fail
        have HId := Lib.hid HIs.out.drew
        have cOa := fun o => (HId.out.bo.alloc o).cell
        have cOb := fun o => (HIs.out.bo.alloc o).cell
        have HRa := Lib.hid (World.ownsRow.alloc HId.out.rk (.cells #[.string k'] 9))
        have HRD := Lib.hid (boxed_reads ws.drew 9 [.string k'] 1 rfl)
        have HON := Lib.hid (show ∀ u ∈ [(.string k' : Value)], u.oneCell' = true from fun u hu => by rw [List.mem_singleton.1 hu]; rfl)
        go_cut [9] from 11 to 67 (fun s9 wx => s9 = .int .i64 k ∧ ∃ (kp : List ByteArray) (Ak' : Option Addr) (ck' : Nat) (Al' : Option Addr) (cl' : Nat), Hid (kp = kr ++ [k']) ∧ Hid (PInv w G B [.int .i64 k0, .int .i64 n0, .string s0, .slice (some ad) keys.length c1, .slice (some ad2) list.length c2] [.int .i64 x0, .int .i64 x1, .string x2, .slice X3 m3 p3, .slice X4 m4 p4] kp vs Ak' ck' Al' cl' wx))
        case first =>
          go_region_law (first | (refine step_append_reads _ (by rfl) _ _ 22 (by rfl) (w.heap.size + 4) 9 iS _ 1 16 Tryz.underlying22 hiS zS0 zS1 zS2 rfl (by decide) _ kr.length _ (by rfl) HRa.out _ 1 1 _ [_] (by rfl) HRD.out HON.out (by unfold maxLen; omega) (by omega) (by simp <;> omega) ?_; intro v2 w2 hown hg hat; obtain ⟨Ap, cp, kp, rfl, EKp, HBO, HIpx⟩ := HId.out.key' hown hg hat; obtain ⟨cO, fO⟩ := blk_rules HBO.out) | fail "no arm")
          all_goals (go_wp2_with fail; go_meet; exact ⟨by go_num, _, _, _, _, _, EKp, HIpx⟩)
        obtain ⟨rfl, kp, Ap1, cp1, Ap2, cp2, EKp, HIp⟩ := hcut
        clear HId cOa cOb HRa HRD HON
        obtain ⟨wp, ew⟩ : ∃ W : World, W = wc := ⟨_, rfl⟩; rw [← ew]; rw [← ew] at HIp; clear ew; clear cV fV cX fX cO fO
        obtain ⟨cV, fV⟩ := blk_rules HIp.out.bv
        obtain ⟨cX, fX⟩ := blk_rules HIp.out.bx
        obtain ⟨cO, fO⟩ := blk_rules HIp.out.bo
        have hzp := HIp.out.size
        have hnp : kp.length ≤ kr.length + 1 := by rw [EKp.out, List.length_append]; exact Nat.le_refl _
        go_upto_region 12 with fail
        clear hac h50 h51 h52 h53 h54
        have hac : wp.cell? (ad.add k) = some (.string k') := (HIp.out.bel.cell (by rw [block_of_add]; omega)).trans HAC.out
        have h50 : wp.cell? (ad2.add (k * 5)) = some d0 := (HIp.out.bel.cell (by show (ad2.add (k * 5)).block < _; rw [block_of_add]; omega)).trans H50.out
        have h51 : wp.cell? ⟨(ad2.add (k * 5)).block, (ad2.add (k * 5)).off + 1, none⟩ = some d1 := (HIp.out.bel.cell (by show (ad2.add (k * 5)).block < _; rw [block_of_add]; omega)).trans H51.out
        have h52 : wp.cell? ⟨(ad2.add (k * 5)).block, (ad2.add (k * 5)).off + 2, none⟩ = some d2 := (HIp.out.bel.cell (by show (ad2.add (k * 5)).block < _; rw [block_of_add]; omega)).trans H52.out
        have h53 : wp.cell? ⟨(ad2.add (k * 5)).block, (ad2.add (k * 5)).off + 3, none⟩ = some d3 := (HIp.out.bel.cell (by show (ad2.add (k * 5)).block < _; rw [block_of_add]; omega)).trans H53.out
        have h54 : wp.cell? ⟨(ad2.add (k * 5)).block, (ad2.add (k * 5)).off + 4, none⟩ = some d4 := (HIp.out.bel.cell (by show (ad2.add (k * 5)).block < _; rw [block_of_add]; omega)).trans H54.out
        have HId := Lib.hid HIp.out.drew
        have cOa := fun o => (HId.out.bo.alloc o).cell
        have cOb := fun o => (HIp.out.bo.alloc o).cell
        obtain ⟨usv, huv, hrv⟩ := HId.out.rv
        have HUV := Lib.hid huv
        have HRV := Lib.hid hrv
        clear huv hrv
        have HRa := Lib.hid (World.ownsRow.alloc HUV.out (.cells #[d0, d1, d2, d3, d4] 32))
        have HRD := Lib.hid (boxed_reads wp.drew 32 [d0, d1, d2, d3, d4] 5 rfl)
        go_region_law (first | (refine step_append_reads _ (by rfl) _ _ 30 (by rfl) (w.heap.size + 4) 32 iV _ 5 80 Tryz.underlying30 hiV zV0 zV1 zV2 rfl (by decide) _ vs.length _ (by rfl) HRa.out _ 1 1 _ [_, _, _, _, _] (by rfl) HRD.out HONE5.out (by unfold maxLen; omega) (by omega) (by simp <;> omega) ?_; intro v2 w2 hown hg hat; obtain ⟨Aq, cq, vq, rfl, EVq, HBO, HIqx⟩ := HId.out.val' HUV.out HRV.out HX5.out hown hg hat; obtain ⟨cO, fO⟩ := blk_rules HBO.out) | fail "no arm")
        all_goals
          obtain ⟨wq, ew⟩ : ∃ W : World, W = w2.setCell ⟨w.heap.size + 1 + 1 + 1, 4, none⟩ (.slice Aq vq.length cq) := ⟨_, rfl⟩
          rw [← ew]
          have HIq := Lib.hid (show PInv w G B [.int .i64 k0, .int .i64 n0, .string s0, .slice (some ad) keys.length c1, .slice (some ad2) list.length c2] [.int .i64 x0, .int .i64 x1, .string x2, .slice X3 m3 p3, .slice X4 m4 p4] kp vq _ _ _ _ wq from by rw [ew]; exact HIqx.out)
          clear ew HIqx HBO cO fO HRa HRD HUV HRV HId cOa cOb cV fV cX fX
          obtain ⟨cV, fV⟩ := blk_rules HIq.out.bv
          obtain ⟨cX, fX⟩ := blk_rules HIq.out.bx
          obtain ⟨cO, fO⟩ := blk_rules HIq.out.bo
          have hzq := HIq.out.size
          have hnq : vq.length ≤ vs.length + 1 := by rw [EVq.out, List.length_append]; exact Nat.le_refl _
          go_wp2
          go_roundw
          case rel => exact ⟨k + 1, true, kp, vq, _, _, _, _, by omega, rfl, by go_num, by omega, (by show _ = _; rw [EKp.out, EVq.out, List.length_append, List.length_append, HLR.out]; rfl), (by show PutTo _ _ _ _ _ _; rw [EKp.out, EVq.out, zip_snoc HLR.out, EKr.out, EVs.out, zip_snoc HLA.out]; exact HP.out), HIq⟩
          case measure => simp [intOf]; omega
    · have hke : k = keys.length := by omega
      have hle := HLEN.out
      have HTE := Lib.hid (show PutTo (keys.zip list) key x done (ka.zip va) [] from by have h := HT.out; rwa [List.drop_of_length_le (by rw [List.length_zip]; omega)] at h)
      clear hle
      cases done with
      | true =>
        have HZ := Lib.hid (PutTo.end_.1 HTE.out)
        obtain ⟨cR, fR⟩ := blk_rules (show Blk _ _ _ [.int .i64 0, .int .i64 0, .string ⟨#[]⟩, .slice none 0 0, .slice none 0 0] from HI.out.br)
        go_wp2
        refine bodyPost_ret (v := .agg #[.int .i64 6, .int .i64 0, .string ⟨#[]⟩, .slice Ak ka.length ck, .slice Al va.length cl]) (by simp [results, Tryz.results94, go_sem, cR]) rfl ?_
        exact HI.out.result hB HLA.out HZ.out HSZ.out (fun e w' => ∃ vs, e = .returned (.agg vs.toArray) ∧ (∀ W', Sub B G W' → (∀ b, w.heap.size ≤ b → b < w'.heap.size → W'.heap[b]? = w'.heap[b]?) → W'.heap.size = w'.heap.size → RDv W' W'.heap.size (valDs (ofPairs (putP (keys.zip list) key x))) vs) ∧ Below w.heap.size w w') (fun vs W h1 h2 => ⟨vs, rfl, h1, h2⟩)
      | false =>
        have HZ := Lib.hid (PutTo.end_.2 HTE.out)
        go_upto_region 14 with fail
        have HRa := Lib.hid (World.ownsRow.alloc HI.out.rk (.cells #[.string key] 9))
        have HRD := Lib.hid (boxed_reads wr 9 [.string key] 1 rfl)
        have HON := Lib.hid (show ∀ u ∈ [(.string key : Value)], u.oneCell' = true from fun u hu => by rw [List.mem_singleton.1 hu]; rfl)
        go_upto_region 15 with (at_builtin; go_loud (refine wpList_append_reads _ rfl _ _ 22 rfl (w.heap.size + 4) 9 iS _ 1 16 Tryz.underlying22 hiS zS0 zS1 zS2 rfl (by decide) _ ka.length _ (by rfl) HRa.out _ 1 1 _ [_] (by rfl) HRD.out HON.out (by unfold maxLen; omega) (by omega) (by simp <;> omega) ?_; intro v2 w2 hown hg hat; obtain ⟨Ap, cp, kp, rfl, EKp, HBO, HIpx⟩ := HI.out.key' hown hg hat; clear cV fV cX fX cO fO; obtain ⟨cO, fO⟩ := blk_rules HBO.out))
        obtain ⟨wp, ew⟩ : ∃ W : World, W = w2.setCell ⟨w.heap.size + 1 + 1 + 1, 3, none⟩ (.slice Ap kp.length cp) := ⟨_, rfl⟩
        rw [← ew]
        have HIp := Lib.hid (show PInv w G B [.int .i64 k0, .int .i64 n0, .string s0, .slice A1 keys.length c1, .slice A2 list.length c2] [.int .i64 x0, .int .i64 x1, .string x2, .slice X3 m3 p3, .slice X4 m4 p4] kp va _ _ _ _ wp from by rw [ew]; exact HIpx.out)
        clear ew HIpx HBO cO fO HRa HRD HON
        obtain ⟨cV, fV⟩ := blk_rules HIp.out.bv
        obtain ⟨cX, fX⟩ := blk_rules HIp.out.bx
        obtain ⟨cO, fO⟩ := blk_rules HIp.out.bo
        have hzp := HIp.out.size
        have hnp : kp.length ≤ ka.length + 1 := by rw [EKp.out, List.length_append]; exact Nat.le_refl _
        obtain ⟨usv, huv, hrv⟩ := HIp.out.rv
        have HUV := Lib.hid huv
        have HRV := Lib.hid hrv
        clear huv hrv
        have HRa := Lib.hid (World.ownsRow.alloc HUV.out (.cells #[.int .i64 x0, .int .i64 x1, .string x2, .slice X3 m3 p3, .slice X4 m4 p4] 32))
        have HRD := Lib.hid (boxed_reads wp 32 [.int .i64 x0, .int .i64 x1, .string x2, .slice X3 m3 p3, .slice X4 m4 p4] 5 rfl)
        go_upto_region 16 with (at_builtin; go_loud (refine wpList_append_reads _ rfl _ _ 30 rfl (w.heap.size + 4) 32 iV _ 5 80 Tryz.underlying30 hiV zV0 zV1 zV2 rfl (by decide) _ va.length _ (by rfl) HRa.out _ 1 1 _ [_, _, _, _, _] (by rfl) HRD.out HXONE.out (by unfold maxLen; omega) (by omega) (by simp <;> omega) ?_; intro v2 w2 hown hg hat; obtain ⟨Aq, cq, vq, rfl, EVq, HBO, HIqx⟩ := HIp.out.val' HUV.out HRV.out HX.out hown hg hat; clear cV fV cX fX cO fO; obtain ⟨cO, fO⟩ := blk_rules HBO.out))
        obtain ⟨wq, ew⟩ : ∃ W : World, W = w2.setCell ⟨w.heap.size + 1 + 1 + 1, 4, none⟩ (.slice Aq vq.length cq) := ⟨_, rfl⟩
        rw [← ew]
        have HIq := Lib.hid (show PInv w G B [.int .i64 k0, .int .i64 n0, .string s0, .slice A1 keys.length c1, .slice A2 list.length c2] [.int .i64 x0, .int .i64 x1, .string x2, .slice X3 m3 p3, .slice X4 m4 p4] kp vq _ _ _ _ wq from by rw [ew]; exact HIqx.out)
        clear ew HIqx HBO cO fO HRa HRD HUV HRV
        obtain ⟨cV, fV⟩ := blk_rules HIq.out.bv
        obtain ⟨cX, fX⟩ := blk_rules HIq.out.bx
        obtain ⟨cO, fO⟩ := blk_rules HIq.out.bo
        have hzq := HIq.out.size
        have hnq : vq.length ≤ va.length + 1 := by rw [EVq.out, List.length_append]; exact Nat.le_refl _
        obtain ⟨cR, fR⟩ := blk_rules (show Blk _ _ _ [.int .i64 0, .int .i64 0, .string ⟨#[]⟩, .slice none 0 0, .slice none 0 0] from HIq.out.br)
        go_wp2
        refine bodyPost_ret (v := .agg #[.int .i64 6, .int .i64 0, .string ⟨#[]⟩, .slice Ap kp.length cp, .slice Aq vq.length cq]) (by simp [results, Tryz.results94, go_sem, cR]) rfl ?_
        exact HIq.out.result hB (by rw [EKp.out, EVq.out, List.length_append, List.length_append, HLA.out]; rfl) (by rw [EKp.out, EVq.out, zip_snoc HLA.out]; exact HZ.out) HSZ.out (fun e w' => ∃ vs, e = .returned (.agg vs.toArray) ∧ (∀ W', Sub B G W' → (∀ b, w.heap.size ≤ b → b < w'.heap.size → W'.heap[b]? = w'.heap[b]?) → W'.heap.size = w'.heap.size → RDv W' W'.heap.size (valDs (ofPairs (putP (keys.zip list) key x))) vs) ∧ Below w.heap.size w w') (fun vs W h1 h2 => ⟨vs, rfl, h1, h2⟩)
end Go.Proofs.YtppfgepoegicgaaGreatDoor
