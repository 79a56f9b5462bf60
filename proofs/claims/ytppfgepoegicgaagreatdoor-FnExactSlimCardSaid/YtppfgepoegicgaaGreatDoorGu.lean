/- The law's look at a row of texts that was marked. -/
import Derived.Test.YtppfgepoegicgaaGreatDoorGs
namespace Go.Proofs.YtppfgepoegicgaaGreatDoor
open Go Go.RowKit

/-- What a look at marked data does: it returns the next number. -/
def PHeld (k' : Int) (w : World) (e : Ending) (w' : World) : Prop := e = .returned (.int .i64 k') ∧ Below w.heap.size w w'
theorem mStrs_drop : ∀ (ss : List ByteArray) (k : Int) (j : Nat), (mStrs ss k).drop j = mStrs (ss.drop j) (k + j)
  | [], _, _ => by simp [mStrs]
  | _ :: _, k, 0 => by simp
  | _ :: r, k, j + 1 => by
    simp only [mStrs, List.drop_succ_cons, mStrs_drop r]
    congr 1
    omega

set_option maxRecDepth 100000 in
set_option maxHeartbeats 2000000 in
theorem heldStringS_calls (ss : List ByteArray) (A : Option Addr) (c n B : Nat) (k : Int) (w : World) (hB : B ≤ w.heap.size) (hk0 : 0 ≤ k) (hk : k + ss.length ≤ 4611686018427387904) (hn0 : ss.length = n) (h : RD w B (.row 1 n (strDs (mStrs ss k))) (.slice A n c)) :
    Calls Tryz.prog 52 #[.slice A n c, .int .i64 k] w (PHeld (k + n) w) := by
  have hn := h.len
  have H := Lib.hid h
  have HN := Lib.hid hn0
  rw [hn0] at hk
  clear h hn0
  go_enter Tryz.func52, Tryz.ntmps52
  go_wp2
  go_loopw [1, 5] (fun q i w' => ∃ (j : Nat), j ≤ n ∧ i = .int .i64 j ∧ q = .int .i64 (k + j) ∧ Below w.heap.size w w') (fun _ i _ => n - (intOf i).toNat)
  case atStart => exact ⟨0, by omega, rfl, by go_num, Below.refl _ _⟩
  case round =>
    obtain ⟨j, hj, rfl, rfl, hb⟩ := hrel
    by_cases hlt : j < n
    · obtain ⟨ad, s, rfl, hbl, hc, hs, hd⟩ := row1_at (H.out.upto (hb.mono hB) (Nat.le_refl _)) (by rw [mStrs_length, HN.out]) hlt
      have hs2 : s = markT (k + j) := by
        have h1 := hd.out
        rw [mStrs_drop, List.drop_eq_getElem_cons (by rw [HN.out]; exact hlt), mStrs] at h1
        injection h1 with h1 h2
        exact h1.symm
      subst hs2
      have hz := hb.size
      have j0 : (0 : Int) ≤ (j : Int) := by omega
      have j1 : (j : Int) < (n : Int) := by omega
      go_wp2
      go_region_held3 (fun w' => w'.cell? (ad.add j) = some (.string (markT (k + j)))) (first | (simpa using hc) | (exact (hbm.cell (p := ad.add j) (by rw [block_of_add]; simp; omega)).trans (by simpa using hc))) ((go_at_call 51; ((with_reducible refine (markText_calls _ _ (by omega)).mono ?_); rintro e w1 ⟨rfl, hbm⟩)))
      have hb2 := (hb.trans ((Below.refl _ _).drew.trans (hbm.mono (by simpa using hz))))
      clear hbm hc hd
      go_wp2
      go_roundw
      case rel => exact ⟨j + 1, by omega, by go_num, by go_num, hb2⟩
      case measure => simp [intOf]; omega
    · obtain rfl : j = n := by omega
      go_wp2
      go_ret
      exact ⟨rfl, hb⟩
end Go.Proofs.YtppfgepoegicgaaGreatDoor
namespace Go.Proofs.YtppfgepoegicgaaGreatDoor
open Go Go.RowKit

theorem RDv.cons_iff {w : World} {B : Nat} {d : Dat} {ds : List Dat} {u : Value} {us : List Value} : RDv w B (d :: ds) (u :: us) ↔ RD w B d u ∧ RDv w B ds us :=
  ⟨fun ⟨_, _, e, h1, h2⟩ => by injection e with e1 e2; subst e1 e2; exact ⟨h1, h2⟩, fun ⟨h1, h2⟩ => ⟨_, _, rfl, h1, h2⟩⟩
def HeldVals (vs : List Val) : Prop := ∀ (A : Option Addr) (c n B : Nat) (k : Int) (w : World), B ≤ w.heap.size → 0 ≤ k → k + vsCnt vs ≤ 4611686018427387904 → vs.length = n → RD w B (.row 5 n (valsDs (mVals vs k))) (.slice A n c) →
    Calls Tryz.prog 53 #[.slice A n c, .int .i64 k] w (PHeld (k + vsCnt vs) w)
set_option maxRecDepth 100000 in
set_option maxHeartbeats 8000000 in
theorem heldVals_of (vs : List Val) (ih : ∀ kind n s keys list, (.mk kind n s keys list) ∈ vs → HeldVals list) : HeldVals vs := by
  intro A c n B k w hB hk0 hk hn0 h
  have hn := h.len
  have H := Lib.hid h
  have HN := Lib.hid hn0
  have HK := Lib.hid hk
  have IH := Lib.hid ih
  clear ih
  clear h hn0 hk
  go_enter Tryz.func53, Tryz.ntmps53
  go_wp2
  go_loopw [1, 5] (fun q i w' => ∃ (j : Nat) (ks : List Val) (r : Int), j ≤ n ∧ i = .int .i64 j ∧ q = .int .i64 r ∧ 0 ≤ r ∧ Hid (r = k + vsCnt ks) ∧ Hid (ks.length = j) ∧ Hid (vs = ks ++ vs.drop j) ∧ Below w.heap.size w w') (fun _ i _ => n - (intOf i).toNat)
  case atStart => exact ⟨0, [], k, by omega, rfl, rfl, hk0, (by simp [vsCnt] : k = k + vsCnt []), (rfl : ([] : List Val).length = 0), (rfl : vs = [] ++ vs.drop 0), Below.refl _ _⟩
  case round =>
    obtain ⟨j, ks, r, hj, rfl, rfl, hr0, HR, HL, HS, hb⟩ := hrel
    have hz := hb.size
    by_cases hlt : j < n
    · have hdr := List.drop_eq_getElem_cons (l := vs) (i := j) (by rw [HN.out]; exact hlt)
      obtain ⟨v, ev⟩ : ∃ v, v = vs[j]'(by rw [HN.out]; exact hlt) := ⟨_, rfl⟩
      rw [← ev] at hdr
      have hmem : v ∈ vs := by rw [ev]; exact List.getElem_mem _
      have HD := Lib.hid hdr
      have hsum : r + vCnt v ≤ 4611686018427387904 := by
        have h1 := HK.out
        have h2 := congrArg vsCnt HS.out
        rw [hdr, vsCnt_append, vsCnt] at h2
        have := HR.out
        omega
      obtain ⟨ad, x, c0, c1, c2, c3, c4, rfl, hbl, hv, hxm, hd, z0, z1, z2, z3, z4⟩ := row5_at (H.out.upto (hb.mono hB) (Nat.le_refl _)) (by rw [mVals_length, HN.out]) hlt
      have hx : x = mVal v r := by
        have h1 := hd.out
        rw [HS.out, mVals_append, List.drop_append_of_le_length (by rw [mVals_length, HL.out]; omega), List.drop_of_length_le (by rw [mVals_length, HL.out]; omega), hdr, mVals, ← HR.out] at h1
        injection h1 with h1 h2
        exact h1.symm
      subst hx
      obtain ⟨kind, nn, s, keys, list⟩ := v
      have IH2 := Lib.hid (IH.out _ _ _ _ _ hmem)
      have hcnt : (vCnt (.mk kind nn s keys list) : Int) = 3 + keys.length + vsCnt list := by simp [vCnt]
      have b1 : r + 3 + keys.length + vsCnt list ≤ 4611686018427387904 := by omega
      simp only [mVal, valDs] at hv
      simp only [mStrs_length, mVals_length, RDv.cons_iff] at hv
      obtain ⟨h0, h1, h2, h3, h4, h5⟩ := hv
      obtain rfl : c0 = .int .i64 (r) := h0
      obtain rfl : c1 = .int .i64 (r + 1) := h1
      obtain ⟨rfl, _⟩ : c2 = .string (markT (r + 1 + 1)) ∧ _ := h2
      obtain ⟨A3, q3, us3, rfl, hr3⟩ := h3
      have R3 := Lib.hid (show RD wr B (.row 1 keys.length (strDs (mStrs keys (r + 1 + 1 + 1)))) (.slice A3 keys.length q3) from ⟨_, _, us3, rfl, hr3⟩)
      have l3 : keys.length ≤ 9223372036854775807 := R3.out.len
      obtain ⟨A4, q4, us4, rfl, hr4⟩ := h4
      have R4 := Lib.hid (show RD wr B (.row 5 list.length (valsDs (mVals list (r + 1 + 1 + 1 + keys.length)))) (.slice A4 list.length q4) from ⟨_, _, us4, rfl, hr4⟩)
      have l4 : list.length ≤ 9223372036854775807 := R4.out.len
      have Z0 := Lib.hid z0
      have Z1 := Lib.hid z1
      have Z2 := Lib.hid z2
      have Z3 := Lib.hid z3
      have Z4 := Lib.hid z4
      have hcn := Lib.hid hcnt
      have hbl2 : ad.block < wr.heap.size := by omega
      have hBr : B ≤ wr.heap.size := by omega
      have j0 : (0 : Int) ≤ (j : Int) := by omega
      have j1 : (j : Int) < (n : Int) := by omega
      clear hdr ev hd hxm hcnt hsum hmem h5 hr3 hr4
      go_wp2
      go_region_held3 (fun w' => w'.cell? ⟨(ad.add (j * 5)).block, (ad.add (j * 5)).off + 2, none⟩ = some (.string (markT (r + 1 + 1)))) (first | (simpa using z2) | (exact (hbm.cell (p := ⟨(ad.add (j * 5)).block, (ad.add (j * 5)).off + 2, none⟩) (by show (ad.add (j * 5)).block < _; rw [block_of_add]; (try simp); omega)).trans (by simpa using z2))) ((go_at_call 51; ((with_reducible refine (markText_calls _ _ (by omega)).mono ?_); rintro e w1 ⟨rfl, hbm⟩)))
      have hB1 : Below wr.heap.size wr w1 := (Below.refl _ _).drew.trans (hbm.mono (by simp))
      have hs1 := hB1.size
      have B1 := Lib.hid hB1
      clear hbm hB1 z0 z1 z2 z3 z4
      have z3 := (B1.out.cell (p := ⟨(ad.add (j * 5)).block, (ad.add (j * 5)).off + 3, none⟩) (by show (ad.add (j * 5)).block < _; rw [block_of_add]; (try simp); omega)).trans Z3.out
      have z4 := (B1.out.cell (p := ⟨(ad.add (j * 5)).block, (ad.add (j * 5)).off + 4, none⟩) (by show (ad.add (j * 5)).block < _; rw [block_of_add]; (try simp); omega)).trans Z4.out
      go_wp2_with fail
      refine (heldStringS_calls keys _ _ _ B _ _ (by omega) (by omega) (by omega) rfl (R3.out.below (B1.out.mono hBr))).mono ?_
      rintro e w2 ⟨rfl, hbm⟩
      have hB2 : Below wr.heap.size wr w2 := B1.out.trans (hbm.mono (by omega))
      have hs2 := hB2.size
      have B2 := Lib.hid hB2
      clear hbm hB2 z3 z4
      have z4 := (B2.out.cell (p := ⟨(ad.add (j * 5)).block, (ad.add (j * 5)).off + 4, none⟩) (by show (ad.add (j * 5)).block < _; rw [block_of_add]; (try simp); omega)).trans Z4.out
      have n2 : ¬ (r + 1 + 1 + 1 + keys.length < 0) := by omega
      go_wp2_with fail
      refine (IH2.out _ _ _ B _ _ (by omega) (by omega) (by omega) rfl (R4.out.below (B2.out.mono hBr))).mono ?_
      rintro e w3 ⟨rfl, hbm⟩
      have hB3 : Below wr.heap.size wr w3 := B2.out.trans (hbm.mono (by omega))
      have hs3 := hB3.size
      have B3 := Lib.hid hB3
      clear hbm hB3 z4
      have n3 : ¬ (r + 1 + 1 + 1 + keys.length + vsCnt list < 0) := by omega
      have HB2 := hb.trans (B3.out.mono hz)
      have HR2 := Lib.hid (show r + 1 + 1 + 1 + keys.length + vsCnt list = k + vsCnt (ks ++ [.mk kind nn s keys list]) by
        have h1 := HR.out
        have h2 := hcn.out
        simp only [vsCnt_append, vsCnt]
        omega)
      have HL2 := Lib.hid (show (ks ++ [(.mk kind nn s keys list : Val)]).length = j + 1 by rw [List.length_append, HL.out]; rfl)
      have HS2 := Lib.hid (show vs = (ks ++ [.mk kind nn s keys list]) ++ vs.drop (j + 1) by rw [List.append_assoc, List.singleton_append, ← HD.out]; exact HS.out)
      clear HR HL HS
      go_wp2
      go_roundw
      case rel => exact ⟨j + 1, _, _, by omega, by go_num, rfl, by omega, HR2, HL2, HS2, HB2⟩
      case measure => simp [intOf]; omega
    · obtain rfl : j = n := by omega
      have HR2 := Lib.hid (show r = k + vsCnt vs by
        have h2 := HS.out
        rw [← HN.out, List.drop_length, List.append_nil] at h2
        rw [h2]
        exact HR.out)
      clear HS HL HR
      go_wp2
      go_ret
      exact ⟨by rw [← HR2.out]; rfl, hb⟩
theorem heldVals_all (v : Val) : ∀ kind n s keys list, v = .mk kind n s keys list → HeldVals list := by
  induction v using Val.ind with
  | h kind n s keys list ih =>
    intro _ _ _ _ _ e
    injection e with e1 e2 e3 e4 e5
    subst e5
    exact heldVals_of _ fun kind n s keys l hm => ih _ hm _ _ _ _ _ rfl
theorem heldVals_calls (vs : List Val) : HeldVals vs := heldVals_of vs fun kind n s keys l _ => heldVals_all (.mk kind n s keys l) _ _ _ _ _ rfl
end Go.Proofs.YtppfgepoegicgaaGreatDoor
namespace Go.Proofs.YtppfgepoegicgaaGreatDoor
open Go Go.RowKit

set_option maxRecDepth 100000 in
set_option maxHeartbeats 4000000 in
theorem heldVal_calls (v : Val) (us : List Value) (k : Int) (w : World) (B : Nat) (hB : B ≤ w.heap.size) (hk0 : 0 ≤ k) (hk : k + topCnt v ≤ 4611686018427387904) (h : RDv w B (valDs (mTop v k)) us) :
    Calls Tryz.prog 25 #[.agg us.toArray, .int .i64 k] w (PHeld (k + topCnt v) w) := by
  obtain ⟨kind, n, s, keys, list⟩ := v
  simp only [mTop] at h
  obtain ⟨kind', n', s', keys', list', A1, c1, A2, c2, ev, rfl, hs, hk1, hl1⟩ := valDs_open h
  injection ev with e1 e2 e3 e4 e5
  subst e1 e2 e3 e4 e5
  simp only [mStrs_length, mVals_length] at hk1 hl1 ⊢
  simp only [topCnt] at hk
  have H1 := Lib.hid hk1
  have H2 := Lib.hid hl1
  have hbx := below_box w (.cells #[.int .i64 kind, .int .i64 n, .string s, .slice A1 keys.length c1, .slice A2 list.length c2] 32)
  have hn0 : ¬ (k + keys.length < 0) := by omega
  have hn1 : ¬ (k + keys.length + vsCnt list < 0) := by omega
  clear h hk1 hl1
  go_enter Tryz.func25, Tryz.ntmps25
  go_wp2_with fail
  refine (heldStringS_calls keys A1 c1 _ B k _ (Nat.le_trans hB hbx.size) hk0 (by omega) rfl (H1.out.below (hbx.mono hB))).mono ?_
  rintro e w1 ⟨rfl, hb1⟩
  obtain ⟨hb, hz, bP⟩ := boxes1 (P := [_, _, _, _, _]) (boxes1_of hb1)
  obtain ⟨cP, fP⟩ := blk_rules bP
  clear hb1 bP
  go_wp2_with fail
  refine (heldVals_calls list A2 c2 _ B _ _ (by omega) (by omega) (by omega) rfl (H2.out.below (hb.mono hB))).mono ?_
  rintro e w2 ⟨rfl, hb2⟩
  have hb3 := hb.trans (hb2.mono (by omega))
  clear hb2 cP fP
  go_wp2
  go_ret
  exact ⟨by simp only [topCnt]; rw [show k + keys.length + vsCnt list = k + ((keys.length + vsCnt list : Nat) : Int) by omega]; rfl, hb3⟩
end Go.Proofs.YtppfgepoegicgaaGreatDoor
