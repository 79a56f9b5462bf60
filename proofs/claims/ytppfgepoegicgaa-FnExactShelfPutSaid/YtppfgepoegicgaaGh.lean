/- The law's look at a row of texts that was marked. -/
import Derived.Test.YtppfgepoegicgaaGg
import Derived.Test.YtppfgepoegicgaaGf
namespace Go.Proofs.Ytppfgepoegicgaa
open Go Go.RowKit

/-- What a look at marked data does: it returns the next number. -/
def PHeld (k' : Int) (w : World) (e : Ending) (w' : World) : Prop := e = .returned (.int .i64 k') ∧ Below w.heap.size w w'
theorem mStrs_drop : ∀ (ss : List ByteArray) (k : Int) (j : Nat), (mStrs ss k).drop j = mStrs (ss.drop j) (k + j)
  | [], _, _ => by simp [mStrs]
  | _ :: _, k, 0 => by simp
  | _ :: r, k, j + 1 => by
    simp only [mStrs, List.drop_succ_cons, mStrs_drop r]
    congr 1
    omega

set_option maxRecDepth 100000 in
set_option maxHeartbeats 2000000 in
theorem heldStringS_calls (ss : List ByteArray) (A : Option Addr) (c n B : Nat) (k : Int) (w : World) (hB : B ≤ w.heap.size) (hk0 : 0 ≤ k) (hk : k + ss.length ≤ 4611686018427387904) (hn0 : ss.length = n) (h : RD w B (.row 1 n (strDs (mStrs ss k))) (.slice A n c)) :
    Calls Try.prog 58 #[.slice A n c, .int .i64 k] w (PHeld (k + n) w) := by
  have hn := h.len
  have H := Lib.hid h
  have HN := Lib.hid hn0
  rw [hn0] at hk
  clear h hn0
  go_enter Try.func58, Try.ntmps58
  go_wp2
  go_loopw [1, 5] (fun q i w' => ∃ (j : Nat), j ≤ n ∧ i = .int .i64 j ∧ q = .int .i64 (k + j) ∧ Below w.heap.size w w') (fun _ i _ => n - (intOf i).toNat)
  case atStart => exact ⟨0, by omega, rfl, by go_num, Below.refl _ _⟩
  case round =>
    obtain ⟨j, hj, rfl, rfl, hb⟩ := hrel
    by_cases hlt : j < n
    · obtain ⟨ad, s, rfl, hbl, hc, hs, hd⟩ := row1_at (H.out.upto (hb.mono hB) (Nat.le_refl _)) (by rw [mStrs_length, HN.out]) hlt
      have hs2 : s = markT (k + j) := by
        have h1 := hd.out
        rw [mStrs_drop, List.drop_eq_getElem_cons (by rw [HN.out]; exact hlt), mStrs] at h1
        injection h1 with h1 h2
        exact h1.symm
      subst hs2
      have hz := hb.size
      have j0 : (0 : Int) ≤ (j : Int) := by omega
      have j1 : (j : Int) < (n : Int) := by omega
      go_wp2
      go_region_held3 (fun w' => w'.cell? (ad.add j) = some (.string (markT (k + j)))) (first | (simpa using hc) | (exact (hbm.cell (p := ad.add j) (by rw [block_of_add]; simp; omega)).trans (by simpa using hc))) ((go_at_call 87; ((with_reducible refine (markText_calls _ _ (by omega)).mono ?_); rintro e w1 ⟨rfl, hbm⟩)))
      have hb2 := (hb.trans ((Below.refl _ _).drew.trans (hbm.mono (by simpa using hz))))
      clear hbm hc hd
      go_wp2
      go_roundw
      case rel => exact ⟨j + 1, by omega, by go_num, by go_num, hb2⟩
      case measure => simp [intOf]; omega
    · obtain rfl : j = n := by omega
      go_wp2
      go_ret
      exact ⟨rfl, hb⟩
end Go.Proofs.Ytppfgepoegicgaa
namespace Go.Proofs.Ytppfgepoegicgaa
open Go Go.RowKit

theorem RDv.cons_iff {w : World} {B : Nat} {d : Dat} {ds : List Dat} {u : Value} {us : List Value} : RDv w B (d :: ds) (u :: us) ↔ RD w B d u ∧ RDv w B ds us :=
  ⟨fun ⟨_, _, e, h1, h2⟩ => by injection e with e1 e2; subst e1 e2; exact ⟨h1, h2⟩, fun ⟨h1, h2⟩ => ⟨_, _, rfl, h1, h2⟩⟩
def HeldVals (vs : List Val) : Prop := ∀ (A : Option Addr) (c n B : Nat) (k : Int) (w : World), B ≤ w.heap.size → 0 ≤ k → k + vsCnt vs ≤ 4611686018427387904 → vs.length = n → RD w B (.row 5 n (valsDs (mVals vs k))) (.slice A n c) →
    Calls Try.prog 59 #[.slice A n c, .int .i64 k] w (PHeld (k + vsCnt vs) w)
set_option maxRecDepth 100000 in
set_option maxHeartbeats 8000000 in
theorem heldVals_of (vs : List Val) (ih : ∀ kind n s keys list, (.mk kind n s keys list) ∈ vs → HeldVals list) : HeldVals vs := by
  intro A c n B k w hB hk0 hk hn0 h
  have hn := h.len
  have H := Lib.hid h
  have HN := Lib.hid hn0
  have HK := Lib.hid hk
  have IH := Lib.hid ih
  clear ih
  clear h hn0 hk
  go_enter Try.func59, Try.ntmps59
  go_wp2
  go_loopw [1, 5] (fun q i w' => ∃ (j : Nat) (ks : List Val) (r : Int), j ≤ n ∧ i = .int .i64 j ∧ q = .int .i64 r ∧ 0 ≤ r ∧ Hid (r = k + vsCnt ks) ∧ Hid (ks.length = j) ∧ Hid (vs = ks ++ vs.drop j) ∧ Below w.heap.size w w') (fun _ i _ => n - (intOf i).toNat)
  case atStart => exact ⟨0, [], k, by omega, rfl, rfl, hk0, (by simp [vsCnt] : k = k + vsCnt []), (rfl : ([] : List Val).length = 0), (rfl : vs = [] ++ vs.drop 0), Below.refl _ _⟩
  case round =>
    obtain ⟨j, ks, r, hj, rfl, rfl, hr0, HR, HL, HS, hb⟩ := hrel
    have hz := hb.size
    by_cases hlt : j < n
    · have hdr := List.drop_eq_getElem_cons (l := vs) (i := j) (by rw [HN.out]; exact hlt)
      obtain ⟨v, ev⟩ : ∃ v, v = vs[j]'(by rw [HN.out]; exact hlt) := ⟨_, rfl⟩
      rw [← ev] at hdr
      have hmem : v ∈ vs := by rw [ev]; exact List.getElem_mem _
      have HD := Lib.hid hdr
      have hsum : r + vCnt v ≤ 4611686018427387904 := by
        have h1 := HK.out
        have h2 := congrArg vsCnt HS.out
        rw [hdr, vsCnt_append, vsCnt] at h2
        have := HR.out
        omega
      obtain ⟨ad, x, c0, c1, c2, c3, c4, rfl, hbl, hv, hxm, hd, z0, z1, z2, z3, z4⟩ := row5_at (H.out.upto (hb.mono hB) (Nat.le_refl _)) (by rw [mVals_length, HN.out]) hlt
      have hx : x = mVal v r := by
        have h1 := hd.out
        rw [HS.out, mVals_append, List.drop_append_of_le_length (by rw [mVals_length, HL.out]; omega), List.drop_of_length_le (by rw [mVals_length, HL.out]; omega), hdr, mVals, ← HR.out] at h1
        injection h1 with h1 h2
        exact h1.symm
      subst hx
      obtain ⟨kind, nn, s, keys, list⟩ := v
      have IH2 := Lib.hid (IH.out _ _ _ _ _ hmem)
      have hcnt : (vCnt (.mk kind nn s keys list) : Int) = 3 + keys.length + vsCnt list := by simp [vCnt]
      have b1 : r + 3 + keys.length + vsCnt list ≤ 4611686018427387904 := by omega
      simp only [mVal, valDs] at hv
      simp only [mStrs_length, mVals_length, RDv.cons_iff] at hv
      obtain ⟨h0, h1, h2, h3, h4, h5⟩ := hv
      obtain rfl : c0 = .int .i64 (r) := h0
      obtain rfl : c1 = .int .i64 (r + 1) := h1
      obtain ⟨rfl, _⟩ : c2 = .string (markT (r + 1 + 1)) ∧ _ := h2
      obtain ⟨A3, q3, us3, rfl, hr3⟩ := h3
      have R3 := Lib.hid (show RD wr B (.row 1 keys.length (strDs (mStrs keys (r + 1 + 1 + 1)))) (.slice A3 keys.length q3) from ⟨_, _, us3, rfl, hr3⟩)
      have l3 : keys.length ≤ 9223372036854775807 := R3.out.len
      obtain ⟨A4, q4, us4, rfl, hr4⟩ := h4
      have R4 := Lib.hid (show RD wr B (.row 5 list.length (valsDs (mVals list (r + 1 + 1 + 1 + keys.length)))) (.slice A4 list.length q4) from ⟨_, _, us4, rfl, hr4⟩)
      have l4 : list.length ≤ 9223372036854775807 := R4.out.len
      have Z0 := Lib.hid z0
      have Z1 := Lib.hid z1
      have Z2 := Lib.hid z2
      have Z3 := Lib.hid z3
      have Z4 := Lib.hid z4
      have hcn := Lib.hid hcnt
      have hbl2 : ad.block < wr.heap.size := by omega
      have hBr : B ≤ wr.heap.size := by omega
      have j0 : (0 : Int) ≤ (j : Int) := by omega
      have j1 : (j : Int) < (n : Int) := by omega
      clear hdr ev hd hxm hcnt hsum hmem h5 hr3 hr4
      go_wp2
      go_region_held3 (fun w' => w'.cell? ⟨(ad.add (j * 5)).block, (ad.add (j * 5)).off + 2, none⟩ = some (.string (markT (r + 1 + 1)))) (first | (simpa using z2) | (exact (hbm.cell (p := ⟨(ad.add (j * 5)).block, (ad.add (j * 5)).off + 2, none⟩) (by show (ad.add (j * 5)).block < _; rw [block_of_add]; (try simp); omega)).trans (by simpa using z2))) ((go_at_call 87; ((with_reducible refine (markText_calls _ _ (by omega)).mono ?_); rintro e w1 ⟨rfl, hbm⟩)))
      have hB1 : Below wr.heap.size wr w1 := (Below.refl _ _).drew.trans (hbm.mono (by simp))
      have hs1 := hB1.size
      have B1 := Lib.hid hB1
      clear hbm hB1 z0 z1 z2 z3 z4
      have z3 := (B1.out.cell (p := ⟨(ad.add (j * 5)).block, (ad.add (j * 5)).off + 3, none⟩) (by show (ad.add (j * 5)).block < _; rw [block_of_add]; (try simp); omega)).trans Z3.out
      have z4 := (B1.out.cell (p := ⟨(ad.add (j * 5)).block, (ad.add (j * 5)).off + 4, none⟩) (by show (ad.add (j * 5)).block < _; rw [block_of_add]; (try simp); omega)).trans Z4.out
      go_wp2_with fail
      refine (heldStringS_calls keys _ _ _ B _ _ (by omega) (by omega) (by omega) rfl (R3.out.below (B1.out.mono hBr))).mono ?_
      rintro e w2 ⟨rfl, hbm⟩
      have hB2 : Below wr.heap.size wr w2 := B1.out.trans (hbm.mono (by omega))
      have hs2 := hB2.size
      have B2 := Lib.hid hB2
      clear hbm hB2 z3 z4
      have z4 := (B2.out.cell (p := ⟨(ad.add (j * 5)).block, (ad.add (j * 5)).off + 4, none⟩) (by show (ad.add (j * 5)).block < _; rw [block_of_add]; (try simp); omega)).trans Z4.out
      have n2 : ¬ (r + 1 + 1 + 1 + keys.length < 0) := by omega
      go_wp2_with fail
      refine (IH2.out _ _ _ B _ _ (by omega) (by omega) (by omega) rfl (R4.out.below (B2.out.mono hBr))).mono ?_
      rintro e w3 ⟨rfl, hbm⟩
      have hB3 : Below wr.heap.size wr w3 := B2.out.trans (hbm.mono (by omega))
      have hs3 := hB3.size
      have B3 := Lib.hid hB3
      clear hbm hB3 z4
      have n3 : ¬ (r + 1 + 1 + 1 + keys.length + vsCnt list < 0) := by omega
      have HB2 := hb.trans (B3.out.mono hz)
      have HR2 := Lib.hid (show r + 1 + 1 + 1 + keys.length + vsCnt list = k + vsCnt (ks ++ [.mk kind nn s keys list]) by
        have h1 := HR.out
        have h2 := hcn.out
        simp only [vsCnt_append, vsCnt]
        omega)
      have HL2 := Lib.hid (show (ks ++ [(.mk kind nn s keys list : Val)]).length = j + 1 by rw [List.length_append, HL.out]; rfl)
      have HS2 := Lib.hid (show vs = (ks ++ [.mk kind nn s keys list]) ++ vs.drop (j + 1) by rw [List.append_assoc, List.singleton_append, ← HD.out]; exact HS.out)
      clear HR HL HS
      go_wp2
      go_roundw
      case rel => exact ⟨j + 1, _, _, by omega, by go_num, rfl, by omega, HR2, HL2, HS2, HB2⟩
      case measure => simp [intOf]; omega
    · obtain rfl : j = n := by omega
      have HR2 := Lib.hid (show r = k + vsCnt vs by
        have h2 := HS.out
        rw [← HN.out, List.drop_length, List.append_nil] at h2
        rw [h2]
        exact HR.out)
      clear HS HL HR
      go_wp2
      go_ret
      exact ⟨by rw [← HR2.out]; rfl, hb⟩
theorem heldVals_all (v : Val) : ∀ kind n s keys list, v = .mk kind n s keys list → HeldVals list := by
  induction v using Val.ind with
  | h kind n s keys list ih =>
    intro _ _ _ _ _ e
    injection e with e1 e2 e3 e4 e5
    subst e5
    exact heldVals_of _ fun kind n s keys l hm => ih _ hm _ _ _ _ _ rfl
theorem heldVals_calls (vs : List Val) : HeldVals vs := heldVals_of vs fun kind n s keys l _ => heldVals_all (.mk kind n s keys l) _ _ _ _ _ rfl
end Go.Proofs.Ytppfgepoegicgaa
namespace Go.Proofs.Ytppfgepoegicgaa
open Go Go.RowKit

set_option maxRecDepth 100000 in
set_option maxHeartbeats 8000000 in
theorem heldKepts_calls (vs : List Kept) : ∀ (A : Option Addr) (c n B : Nat) (k : Int) (w : World), B ≤ w.heap.size → 0 ≤ k → k + ksCnt vs ≤ 4611686018427387904 → vs.length = n → RD w B (.row 6 n (keptsDs (mKepts vs k))) (.slice A n c) →
    Calls Try.prog 90 #[.slice A n c, .int .i64 k] w (PHeld (k + ksCnt vs) w) := by
  intro A c n B k w hB hk0 hk hn0 h
  have hn := h.len
  have H := Lib.hid h
  have HN := Lib.hid hn0
  have HK := Lib.hid hk
  clear h hn0 hk
  go_enter Try.func90, Try.ntmps90
  go_wp2
  go_loopw [1, 5] (fun q i w' => ∃ (j : Nat) (ks : List Kept) (r : Int), j ≤ n ∧ i = .int .i64 j ∧ q = .int .i64 r ∧ 0 ≤ r ∧ Hid (r = k + ksCnt ks) ∧ Hid (ks.length = j) ∧ Hid (vs = ks ++ vs.drop j) ∧ Below w.heap.size w w') (fun _ i _ => n - (intOf i).toNat)
  case atStart => exact ⟨0, [], k, by omega, rfl, rfl, hk0, (by simp [ksCnt] : k = k + ksCnt []), (rfl : ([] : List Kept).length = 0), (rfl : vs = [] ++ vs.drop 0), Below.refl _ _⟩
  case round =>
    obtain ⟨j, ks, r, hj, rfl, rfl, hr0, HR, HL, HS, hb⟩ := hrel
    have hz := hb.size
    by_cases hlt : j < n
    · have hdr := List.drop_eq_getElem_cons (l := vs) (i := j) (by rw [HN.out]; exact hlt)
      obtain ⟨v, ev⟩ : ∃ v, v = vs[j]'(by rw [HN.out]; exact hlt) := ⟨_, rfl⟩
      rw [← ev] at hdr
      have hmem : v ∈ vs := by rw [ev]; exact List.getElem_mem _
      have HD := Lib.hid hdr
      have hsum : r + kCnt v ≤ 4611686018427387904 := by
        have h1 := HK.out
        have h2 := congrArg ksCnt HS.out
        rw [hdr, ksCnt_append, ksCnt] at h2
        have := HR.out
        omega
      obtain ⟨ad, x, c0, c1, c2, c3, c4, c5, rfl, hbl, hv, hxm, hd, z0, z1, z2, z3, z4, z5⟩ := row6_at (H.out.upto (hb.mono hB) (Nat.le_refl _)) (by rw [mKepts_length, HN.out]) hlt
      have hx : x = mKept v r := by
        have h1 := hd.out
        rw [HS.out, mKepts_append, List.drop_append_of_le_length (by rw [mKepts_length, HL.out]; omega), List.drop_of_length_le (by rw [mKepts_length, HL.out]; omega), hdr, mKepts, ← HR.out] at h1
        injection h1 with h1 h2
        exact h1.symm
      subst hx
      obtain ⟨nm, kind, nn, s, keys, list⟩ := v
      have hcnt : (kCnt ⟨nm, .mk kind nn s keys list⟩ : Int) = 1 + (3 + keys.length + vsCnt list) := by simp [kCnt, vCnt]
      have b1 : r + 1 + 3 + keys.length + vsCnt list ≤ 4611686018427387904 := by omega
      simp only [mKept, keptDs, mVal, valDs] at hv
      simp only [mStrs_length, mVals_length, RDv.cons_iff] at hv
      obtain ⟨h0, h1, h2, h3, h4, h5, h6⟩ := hv
      obtain ⟨rfl, _⟩ : c0 = .string (markT (r)) ∧ _ := h0
      obtain rfl : c1 = .int .i64 (r + 1) := h1
      obtain rfl : c2 = .int .i64 (r + 1 + 1) := h2
      obtain ⟨rfl, _⟩ : c3 = .string (markT (r + 1 + 1 + 1)) ∧ _ := h3
      obtain ⟨A4, q4, us4, rfl, hr4⟩ := h4
      have R4 := Lib.hid (show RD wr B (.row 1 keys.length (strDs (mStrs keys (r + 1 + 1 + 1 + 1)))) (.slice A4 keys.length q4) from ⟨_, _, us4, rfl, hr4⟩)
      have l4 : keys.length ≤ 9223372036854775807 := R4.out.len
      obtain ⟨A5, q5, us5, rfl, hr5⟩ := h5
      have R5 := Lib.hid (show RD wr B (.row 5 list.length (valsDs (mVals list (r + 1 + 1 + 1 + 1 + keys.length)))) (.slice A5 list.length q5) from ⟨_, _, us5, rfl, hr5⟩)
      have l5 : list.length ≤ 9223372036854775807 := R5.out.len
      have Z0 := Lib.hid z0
      have Z1 := Lib.hid z1
      have Z2 := Lib.hid z2
      have Z3 := Lib.hid z3
      have Z4 := Lib.hid z4
      have Z5 := Lib.hid z5
      have hcn := Lib.hid hcnt
      have hbl2 : ad.block < wr.heap.size := by omega
      have hBr : B ≤ wr.heap.size := by omega
      have j0 : (0 : Int) ≤ (j : Int) := by omega
      have j1 : (j : Int) < (n : Int) := by omega
      clear hdr ev hd hxm hcnt hsum hmem h6 hr4 hr5
      go_wp2
      go_region_held3 (fun w' => w'.cell? (ad.add (j * 6)) = some (.string (markT (r)))) (first | (simpa using z0) | (exact (hbm.cell (p := (ad.add (j * 6))) (by show (ad.add (j * 6)).block < _; rw [block_of_add]; (try simp); omega)).trans (by simpa using z0))) ((go_at_call 87; ((with_reducible refine (markText_calls _ _ (by omega)).mono ?_); rintro e w1 ⟨rfl, hbm⟩)))
      have hB1 : Below wr.heap.size wr w1 := (Below.refl _ _).drew.trans (hbm.mono (by simp))
      have hs1 := hB1.size
      have B1 := Lib.hid hB1
      clear hbm hB1 z0 z1 z2 z3 z4 z5
      have z1 := (B1.out.cell (p := ⟨(ad.add (j * 6)).block, (ad.add (j * 6)).off + 1, none⟩) (by show (ad.add (j * 6)).block < _; rw [block_of_add]; (try simp); omega)).trans Z1.out
      have z2 := (B1.out.cell (p := ⟨(ad.add (j * 6)).block, (ad.add (j * 6)).off + 2, none⟩) (by show (ad.add (j * 6)).block < _; rw [block_of_add]; (try simp); omega)).trans Z2.out
      have z3 := (B1.out.cell (p := ⟨(ad.add (j * 6)).block, (ad.add (j * 6)).off + 3, none⟩) (by show (ad.add (j * 6)).block < _; rw [block_of_add]; (try simp); omega)).trans Z3.out
      have z4 := (B1.out.cell (p := ⟨(ad.add (j * 6)).block, (ad.add (j * 6)).off + 4, none⟩) (by show (ad.add (j * 6)).block < _; rw [block_of_add]; (try simp); omega)).trans Z4.out
      have z5 := (B1.out.cell (p := ⟨(ad.add (j * 6)).block, (ad.add (j * 6)).off + 5, none⟩) (by show (ad.add (j * 6)).block < _; rw [block_of_add]; (try simp); omega)).trans Z5.out
      go_wp2
      go_region_held3 (fun w' => w'.cell? ⟨(ad.add (j * 6)).block, (ad.add (j * 6)).off + 3, none⟩ = some (.string (markT (r + 1 + 1 + 1)))) (first | (simpa using z3) | (exact (hbm.cell (p := ⟨(ad.add (j * 6)).block, (ad.add (j * 6)).off + 3, none⟩) (by show (ad.add (j * 6)).block < _; rw [block_of_add]; (try simp); omega)).trans (by simpa using z3))) ((go_at_call 87; ((with_reducible refine (markText_calls _ _ (by omega)).mono ?_); rintro e w2 ⟨rfl, hbm⟩)))
      have hB2 : Below wr.heap.size wr w2 := (B1.out.trans ((Below.refl _ _).drew.mono (by omega))).trans (hbm.mono (by simp; omega))
      have hs2 := hB2.size
      have B2 := Lib.hid hB2
      clear hbm hB2 z1 z2 z3 z4 z5
      have z4 := (B2.out.cell (p := ⟨(ad.add (j * 6)).block, (ad.add (j * 6)).off + 4, none⟩) (by show (ad.add (j * 6)).block < _; rw [block_of_add]; (try simp); omega)).trans Z4.out
      have z5 := (B2.out.cell (p := ⟨(ad.add (j * 6)).block, (ad.add (j * 6)).off + 5, none⟩) (by show (ad.add (j * 6)).block < _; rw [block_of_add]; (try simp); omega)).trans Z5.out
      go_wp2_with fail
      refine (heldStringS_calls keys _ _ _ B _ _ (by omega) (by omega) (by omega) rfl (R4.out.below (B2.out.mono hBr))).mono ?_
      rintro e w3 ⟨rfl, hbm⟩
      have hB3 : Below wr.heap.size wr w3 := B2.out.trans (hbm.mono (by omega))
      have hs3 := hB3.size
      have B3 := Lib.hid hB3
      clear hbm hB3 z4 z5
      have z5 := (B3.out.cell (p := ⟨(ad.add (j * 6)).block, (ad.add (j * 6)).off + 5, none⟩) (by show (ad.add (j * 6)).block < _; rw [block_of_add]; (try simp); omega)).trans Z5.out
      have n3 : ¬ (r + 1 + 1 + 1 + 1 + keys.length < 0) := by omega
      go_wp2_with fail
      refine (heldVals_calls list _ _ _ B _ _ (by omega) (by omega) (by omega) rfl (R5.out.below (B3.out.mono hBr))).mono ?_
      rintro e w4 ⟨rfl, hbm⟩
      have hB4 : Below wr.heap.size wr w4 := B3.out.trans (hbm.mono (by omega))
      have hs4 := hB4.size
      have B4 := Lib.hid hB4
      clear hbm hB4 z5
      have n4 : ¬ (r + 1 + 1 + 1 + 1 + keys.length + vsCnt list < 0) := by omega
      have HB2 := hb.trans (B4.out.mono hz)
      have HR2 := Lib.hid (show r + 1 + 1 + 1 + 1 + keys.length + vsCnt list = k + ksCnt (ks ++ [⟨nm, .mk kind nn s keys list⟩]) by
        have h1 := HR.out
        have h2 := hcn.out
        simp only [ksCnt_append, ksCnt]
        omega)
      have HL2 := Lib.hid (show (ks ++ [(⟨nm, .mk kind nn s keys list⟩ : Kept)]).length = j + 1 by rw [List.length_append, HL.out]; rfl)
      have HS2 := Lib.hid (show vs = (ks ++ [⟨nm, .mk kind nn s keys list⟩]) ++ vs.drop (j + 1) by rw [List.append_assoc, List.singleton_append, ← HD.out]; exact HS.out)
      clear HR HL HS
      go_wp2
      go_roundw
      case rel => exact ⟨j + 1, _, _, by omega, by go_num, rfl, by omega, HR2, HL2, HS2, HB2⟩
      case measure => simp [intOf]; omega
    · obtain rfl : j = n := by omega
      have HR2 := Lib.hid (show r = k + ksCnt vs by
        have h2 := HS.out
        rw [← HN.out, List.drop_length, List.append_nil] at h2
        rw [h2]
        exact HR.out)
      clear HS HL HR
      go_wp2
      go_ret
      exact ⟨by rw [← HR2.out]; rfl, hb⟩
end Go.Proofs.Ytppfgepoegicgaa
namespace Go.Proofs.Ytppfgepoegicgaa
open Go Go.RowKit

set_option maxRecDepth 100000 in
set_option maxHeartbeats 8000000 in
theorem heldAskers_calls (vs : List Asker) : ∀ (A : Option Addr) (c n B : Nat) (k : Int) (w : World), B ≤ w.heap.size → 0 ≤ k → k + asCnt vs ≤ 4611686018427387904 → vs.length = n → RD w B (.row 4 n (askersDs (mAskers vs k))) (.slice A n c) →
    Calls Try.prog 63 #[.slice A n c, .int .i64 k] w (PHeld (k + asCnt vs) w) := by
  intro A c n B k w hB hk0 hk hn0 h
  have hn := h.len
  have H := Lib.hid h
  have HN := Lib.hid hn0
  have HK := Lib.hid hk
  clear h hn0 hk
  go_enter Try.func63, Try.ntmps63
  go_wp2
  go_loopw [1, 5] (fun q i w' => ∃ (j : Nat) (ks : List Asker) (r : Int), j ≤ n ∧ i = .int .i64 j ∧ q = .int .i64 r ∧ 0 ≤ r ∧ Hid (r = k + asCnt ks) ∧ Hid (ks.length = j) ∧ Hid (vs = ks ++ vs.drop j) ∧ Below w.heap.size w w') (fun _ i _ => n - (intOf i).toNat)
  case atStart => exact ⟨0, [], k, by omega, rfl, rfl, hk0, (by simp [asCnt] : k = k + asCnt []), (rfl : ([] : List Asker).length = 0), (rfl : vs = [] ++ vs.drop 0), Below.refl _ _⟩
  case round =>
    obtain ⟨j, ks, r, hj, rfl, rfl, hr0, HR, HL, HS, hb⟩ := hrel
    have hz := hb.size
    by_cases hlt : j < n
    · have hdr := List.drop_eq_getElem_cons (l := vs) (i := j) (by rw [HN.out]; exact hlt)
      obtain ⟨v, ev⟩ : ∃ v, v = vs[j]'(by rw [HN.out]; exact hlt) := ⟨_, rfl⟩
      rw [← ev] at hdr
      have hmem : v ∈ vs := by rw [ev]; exact List.getElem_mem _
      have HD := Lib.hid hdr
      have hsum : r + aCnt v ≤ 4611686018427387904 := by
        have h1 := HK.out
        have h2 := congrArg asCnt HS.out
        rw [hdr, asCnt_append, asCnt] at h2
        have := HR.out
        omega
      obtain ⟨ad, x, c0, c1, c2, c3, rfl, hbl, hv, hxm, hd, z0, z1, z2, z3⟩ := row4_at (H.out.upto (hb.mono hB) (Nat.le_refl _)) (by rw [mAskers_length, HN.out]) hlt
      have hx : x = mAsker v r := by
        have h1 := hd.out
        rw [HS.out, mAskers_append, List.drop_append_of_le_length (by rw [mAskers_length, HL.out]; omega), List.drop_of_length_le (by rw [mAskers_length, HL.out]; omega), hdr, mAskers, ← HR.out] at h1
        injection h1 with h1 h2
        exact h1.symm
      subst hx
      obtain ⟨nm, most, fuel, trees⟩ := v
      have hcnt : (aCnt ⟨nm, most, fuel, trees⟩ : Int) = 3 + ksCnt trees := by simp [aCnt]
      have b1 : r + 3 + ksCnt trees ≤ 4611686018427387904 := by omega
      simp only [mAsker, askerDs] at hv
      simp only [mKepts_length, RDv.cons_iff] at hv
      obtain ⟨h0, h1, h2, h3, h4⟩ := hv
      obtain ⟨rfl, _⟩ : c0 = .string (markT (r)) ∧ _ := h0
      obtain rfl : c1 = .int .i64 (r + 1) := h1
      obtain rfl : c2 = .int .i64 (r + 1 + 1) := h2
      obtain ⟨A3, q3, us3, rfl, hr3⟩ := h3
      have R3 := Lib.hid (show RD wr B (.row 6 trees.length (keptsDs (mKepts trees (r + 1 + 1 + 1)))) (.slice A3 trees.length q3) from ⟨_, _, us3, rfl, hr3⟩)
      have l3 : trees.length ≤ 9223372036854775807 := R3.out.len
      have Z0 := Lib.hid z0
      have Z1 := Lib.hid z1
      have Z2 := Lib.hid z2
      have Z3 := Lib.hid z3
      have hcn := Lib.hid hcnt
      have hbl2 : ad.block < wr.heap.size := by omega
      have hBr : B ≤ wr.heap.size := by omega
      have j0 : (0 : Int) ≤ (j : Int) := by omega
      have j1 : (j : Int) < (n : Int) := by omega
      clear hdr ev hd hxm hcnt hsum hmem h4 hr3
      go_wp2
      go_region_held3 (fun w' => w'.cell? (ad.add (j * 4)) = some (.string (markT (r)))) (first | (simpa using z0) | (exact (hbm.cell (p := (ad.add (j * 4))) (by show (ad.add (j * 4)).block < _; rw [block_of_add]; (try simp); omega)).trans (by simpa using z0))) ((go_at_call 87; ((with_reducible refine (markText_calls _ _ (by omega)).mono ?_); rintro e w1 ⟨rfl, hbm⟩)))
      have hB1 : Below wr.heap.size wr w1 := (Below.refl _ _).drew.trans (hbm.mono (by simp))
      have hs1 := hB1.size
      have B1 := Lib.hid hB1
      clear hbm hB1 z0 z1 z2 z3
      have z1 := (B1.out.cell (p := ⟨(ad.add (j * 4)).block, (ad.add (j * 4)).off + 1, none⟩) (by show (ad.add (j * 4)).block < _; rw [block_of_add]; (try simp); omega)).trans Z1.out
      have z2 := (B1.out.cell (p := ⟨(ad.add (j * 4)).block, (ad.add (j * 4)).off + 2, none⟩) (by show (ad.add (j * 4)).block < _; rw [block_of_add]; (try simp); omega)).trans Z2.out
      have z3 := (B1.out.cell (p := ⟨(ad.add (j * 4)).block, (ad.add (j * 4)).off + 3, none⟩) (by show (ad.add (j * 4)).block < _; rw [block_of_add]; (try simp); omega)).trans Z3.out
      go_wp2_with fail
      refine (heldKepts_calls trees _ _ _ B _ _ (by omega) (by omega) (by omega) rfl (R3.out.below (B1.out.mono hBr))).mono ?_
      rintro e w2 ⟨rfl, hbm⟩
      have hB2 : Below wr.heap.size wr w2 := B1.out.trans (hbm.mono (by omega))
      have hs2 := hB2.size
      have B2 := Lib.hid hB2
      clear hbm hB2 z1 z2 z3
      have n2 : ¬ (r + 1 + 1 + 1 + ksCnt trees < 0) := by omega
      have HB2 := hb.trans (B2.out.mono hz)
      have HR2 := Lib.hid (show r + 1 + 1 + 1 + ksCnt trees = k + asCnt (ks ++ [⟨nm, most, fuel, trees⟩]) by
        have h1 := HR.out
        have h2 := hcn.out
        simp only [asCnt_append, asCnt]
        omega)
      have HL2 := Lib.hid (show (ks ++ [(⟨nm, most, fuel, trees⟩ : Asker)]).length = j + 1 by rw [List.length_append, HL.out]; rfl)
      have HS2 := Lib.hid (show vs = (ks ++ [⟨nm, most, fuel, trees⟩]) ++ vs.drop (j + 1) by rw [List.append_assoc, List.singleton_append, ← HD.out]; exact HS.out)
      clear HR HL HS
      go_wp2
      go_roundw
      case rel => exact ⟨j + 1, _, _, by omega, by go_num, rfl, by omega, HR2, HL2, HS2, HB2⟩
      case measure => simp [intOf]; omega
    · obtain rfl : j = n := by omega
      have HR2 := Lib.hid (show r = k + asCnt vs by
        have h2 := HS.out
        rw [← HN.out, List.drop_length, List.append_nil] at h2
        rw [h2]
        exact HR.out)
      clear HS HL HR
      go_wp2
      go_ret
      exact ⟨by rw [← HR2.out]; rfl, hb⟩
end Go.Proofs.Ytppfgepoegicgaa
namespace Go.Proofs.Ytppfgepoegicgaa
open Go Go.RowKit

mutual
def scal : Dat → Nat
  | .int _ => 1
  | .str _ => 1
  | .row _ _ cells => scals cells
def scals : List Dat → Nat
  | [] => 0
  | d :: ds => scal d + scals ds
end
mutual
def WfD : Dat → Prop
  | .int _ => True
  | .str _ => True
  | .row _ n cells => cells.length ≤ 9 * n ∧ WfDs cells
def WfDs : List Dat → Prop
  | [] => True
  | d :: ds => WfD d ∧ WfDs ds
end
theorem scals_append : ∀ a b : List Dat, scals (a ++ b) = scals a + scals b
  | [], _ => by simp [scals]
  | _ :: a, b => by simp [scals, scals_append a b, Nat.add_assoc]
theorem wfDs_append : ∀ {a b : List Dat}, WfDs (a ++ b) ↔ WfDs a ∧ WfDs b
  | [], _ => by simp [WfDs]
  | _ :: a, b => by simp [WfDs, wfDs_append (a := a) (b := b), and_assoc]
mutual
theorem scal_of_sz : ∀ (d : Dat) (l : Int), WfD d → 0 ≤ l → 0 ≤ szD d l → (scal d : Int) ≤ 1 + 9 * (l - szD d l)
  | .int _, l, _, _, _ => by simp only [scal, szD]; omega
  | .str s, l, _, h0, h => by
    simp only [scal, szD] at h ⊢
    split at h
    · omega
    · next h1 => rw [if_neg h1]; omega
  | .row _ n cells, l, hw, h0, h => by
    obtain ⟨h1, h2, h3⟩ := sz_row h
    have := scals_of_sz cells (l - n) hw.2 h1 h2
    have := hw.1
    rw [h3]
    simp only [scal]
    omega
theorem scals_of_sz : ∀ (ds : List Dat) (l : Int), WfDs ds → 0 ≤ l → 0 ≤ szDs ds l → (scals ds : Int) ≤ ds.length + 9 * (l - szDs ds l)
  | [], l, _, _, _ => by simp [scals, szDs]
  | d :: ds, l, hw, h0, h => by
    obtain ⟨h1, h2, h3⟩ := sz_cons h0 h
    have e1 := scal_of_sz d l hw.1 h0 h1
    have e2 := scals_of_sz ds _ hw.2 h1 h3
    have e3 : szDs (d :: ds) l = szDs ds (szD d l) := by
      simp only [szDs]
      rw [if_neg (by omega)]
    rw [e3]
    simp only [scals, List.length_cons]
    omega
end
theorem strDs_scal : ∀ ks : List ByteArray, scals (strDs ks) = ks.length ∧ WfDs (strDs ks)
  | [] => ⟨rfl, trivial⟩
  | _ :: r => by
    have := strDs_scal r
    refine ⟨by simp [strDs, scals, scal, this.1]; omega, trivial, this.2⟩
theorem valsDs_len : ∀ l : List Val, (valsDs l).length = l.length * 5
  | [] => rfl
  | x :: l => by simp [valsDs, valDs_length, valsDs_len l]; omega
theorem vals_scal_of : ∀ (l : List Val), (∀ v ∈ l, scals (valDs v) = vCnt v ∧ WfDs (valDs v)) → scals (valsDs l) = vsCnt l ∧ WfDs (valsDs l)
  | [], _ => ⟨by simp [valsDs, scals, vsCnt], trivial⟩
  | v :: r, h => by
    have h1 := h v List.mem_cons_self
    have h2 := vals_scal_of r fun x hx => h x (List.mem_cons_of_mem _ hx)
    refine ⟨by simp [valsDs, scals_append, vsCnt, h1.1, h2.1], ?_⟩
    simp only [valsDs]
    exact wfDs_append.2 ⟨h1.2, h2.2⟩
theorem val_scal : ∀ v, scals (valDs v) = vCnt v ∧ WfDs (valDs v) := Val.ind fun kind n s keys list ih => by
  have h1 := strDs_scal keys
  have h2 := vals_scal_of list ih
  refine ⟨?_, trivial, trivial, trivial, ⟨by rw [strDs_length]; omega, h1.2⟩, ⟨by rw [valsDs_len]; omega, h2.2⟩, trivial⟩
  simp only [valDs, scals, scal, vCnt, h1.1, h2.1]
  omega
theorem keptsDs_len : ∀ l : List Kept, (keptsDs l).length = l.length * 6
  | [] => rfl
  | x :: l => by simp [keptsDs, keptDs_length, keptsDs_len l]; omega
theorem kepts_scal : ∀ l : List Kept, scals (keptsDs l) = ksCnt l ∧ WfDs (keptsDs l)
  | [] => ⟨by simp [keptsDs, scals, ksCnt], trivial⟩
  | v :: r => by
    have h1 := val_scal v.v
    have h2 := kepts_scal r
    refine ⟨by simp [keptsDs, scals_append, ksCnt, kCnt, keptDs, scals, scal, h1.1, h2.1]; omega, ?_⟩
    simp only [keptsDs, keptDs]
    exact wfDs_append.2 ⟨⟨trivial, h1.2⟩, h2.2⟩
theorem askersDs_len : ∀ l : List Asker, (askersDs l).length = l.length * 4
  | [] => rfl
  | x :: l => by simp [askersDs, askerDs_length, askersDs_len l]; omega
theorem askers_scal : ∀ l : List Asker, scals (askersDs l) = asCnt l ∧ WfDs (askersDs l)
  | [] => ⟨by simp [askersDs, scals, asCnt], trivial⟩
  | v :: r => by
    have h1 := kepts_scal v.trees
    have h2 := askers_scal r
    refine ⟨?_, ?_⟩
    · simp only [askersDs, scals_append, asCnt, aCnt, askerDs, scals, scal, h1.1, h2.1]
      omega
    · simp only [askersDs, askerDs]
      exact wfDs_append.2 ⟨⟨trivial, trivial, trivial, ⟨by rw [keptsDs_len]; omega, h1.2⟩, trivial⟩, h2.2⟩
/-- A shelf of the law's size takes few marks. -/
theorem shelf_few (x : Shelf) {l : Int} (h0 : 0 ≤ l) (h1 : l ≤ 1048576) (h : 0 ≤ szDs (shelfDs x) l) : asCnt x.askers ≤ 10000000 := by
  have h2 := askers_scal x.askers
  have h3 := scals_of_sz (shelfDs x) l ⟨⟨by rw [askersDs_len]; omega, h2.2⟩, trivial⟩ h0 h
  simp only [shelfDs, scals, scal, h2.1, List.length_cons, List.length_nil] at h3
  simp only [shelfDs] at h
  omega
theorem val_few (v : Val) {l : Int} (h0 : 0 ≤ l) (h1 : l ≤ 1048576) (h : 0 ≤ szDs (valDs v) l) : vCnt v ≤ 10000000 := by
  have h2 := val_scal v
  have h3 := scals_of_sz (valDs v) l h2.2 h0 h
  rw [h2.1, valDs_length] at h3
  omega
theorem ksCnt_mem : ∀ {l : List Kept} {t : Kept}, t ∈ l → kCnt t ≤ ksCnt l
  | [], _, h => by cases h
  | x :: r, t, h => by
    rcases List.mem_cons.1 h with rfl | h
    · simp [ksCnt]
    · have := ksCnt_mem h
      simp only [ksCnt]
      omega
theorem asCnt_mem : ∀ {l : List Asker} {t : Asker}, t ∈ l → aCnt t ≤ asCnt l
  | [], _, h => by cases h
  | x :: r, t, h => by
    rcases List.mem_cons.1 h with rfl | h
    · simp [asCnt]
    · have := asCnt_mem h
      simp only [asCnt]
      omega

/-- A tree, its own parts marked (not its head). -/
def mTop : Val → Int → Val
  | .mk kind n s keys list, k => .mk kind n s (mStrs keys k) (mVals list (k + keys.length))
def topCnt : Val → Nat
  | .mk _ _ _ keys list => keys.length + vsCnt list
theorem topCnt_le (v : Val) : topCnt v + 3 = vCnt v := by
  obtain ⟨_, _, _, _, _⟩ := v
  simp only [topCnt, vCnt]
  omega
def PMarks (k' : Int) (ds : List Dat) (us : List Value) (fp : List Nat) (w : World) (e : Ending) (w' : World) : Prop := e = .returned (.int .i64 k') ∧ ODv w' ds us fp ∧ Upd fp w w'
theorem rowOwn {w : World} {d : Dat} {c : Value} {us : List Value} {fp : List Nat} (h : ODv w [d] us fp) : ∃ u, us = [u] ∧ OD w d u fp := by
  obtain ⟨u, us', f1, f2, rfl, rfl, h1, rfl, rfl⟩ := h
  exact ⟨u, rfl, by simpa using h1⟩

set_option maxRecDepth 100000 in
set_option maxHeartbeats 4000000 in
theorem markShelf_calls (x : Shelf) (us : List Value) (k : Int) (fp : List Nat) (w : World) (hk0 : 0 ≤ k) (hk : k + asCnt x.askers ≤ 4611686018427387904) (h : ODv w (shelfDs x) us fp) (hnd : fp.Nodup) :
    Calls Try.prog 22 #[.agg us.toArray, .int .i64 k] w (PMarks (k + asCnt x.askers) (shelfDs ⟨mAskers x.askers k⟩) us fp w) := by
  obtain ⟨u, us', f1, f2, rfl, rfl, ho, rfl, rfl⟩ := h
  obtain ⟨A, c, n, rfl⟩ := row_shape ho.rd'
  have hlen : n = x.askers.length := by
    obtain ⟨_, _, _, e, _⟩ := ho.rd'
    injection e
  subst hlen
  simp only [List.append_nil] at hnd ⊢
  have HO := Lib.hid (OD.keep (w' := w.alloc (.cells #[.slice A x.askers.length c] 29)) _ _ f1 (fun b hb => Below.heap_alloc _ _ _ (OD.lt _ _ _ ho b hb)) ho)
  have HN := Lib.hid hnd
  have hbx := below_box w (.cells #[.slice A x.askers.length c] 29)
  clear ho hnd
  go_enter Try.func22, Try.ntmps22
  go_wp2_with fail
  refine (markAskers_calls x.askers A c k f1 _ hk0 hk HO.out HN.out).mono ?_
  rintro e w1 ⟨rfl, h1, h2⟩
  have H1 := Lib.hid h1
  have H2 := Lib.hid ((Upd.of_below hbx).trans h2)
  clear h1 h2 hbx
  go_wp2
  go_ret
  exact ⟨rfl, ⟨_, _, f1, [], rfl, by simp, by rw [mAskers_length]; exact H1.out, rfl, rfl⟩, H2.out⟩

set_option maxRecDepth 100000 in
set_option maxHeartbeats 4000000 in
theorem heldShelf_calls (x : Shelf) (us : List Value) (k : Int) (w : World) (B : Nat) (hB : B ≤ w.heap.size) (hk0 : 0 ≤ k) (hk : k + asCnt x.askers ≤ 4611686018427387904) (h : RDv w B (shelfDs ⟨mAskers x.askers k⟩) us) :
    Calls Try.prog 27 #[.agg us.toArray, .int .i64 k] w (PHeld (k + asCnt x.askers) w) := by
  obtain ⟨A, c, rfl, hl⟩ := shelfDs_open h
  simp only [mAskers_length] at hl ⊢
  have HL := Lib.hid hl
  have hbx := below_box w (.cells #[.slice A x.askers.length c] 29)
  have hn0 : ¬ (k + asCnt x.askers < 0) := by omega
  clear h hl
  go_enter Try.func27, Try.ntmps27
  go_wp2_with fail
  refine (heldAskers_calls x.askers A c _ B k _ (Nat.le_trans hB hbx.size) hk0 hk rfl (HL.out.below (hbx.mono hB))).mono ?_
  rintro e w1 ⟨rfl, hb1⟩
  have hb2 := hbx.trans (hb1.mono hbx.size)
  clear hb1
  go_wp2
  go_ret
  exact ⟨rfl, hb2⟩

set_option maxRecDepth 100000 in
set_option maxHeartbeats 4000000 in
theorem markVal_calls (v : Val) (us : List Value) (k : Int) (fp : List Nat) (w : World) (hk0 : 0 ≤ k) (hk : k + topCnt v ≤ 4611686018427387904) (h : ODv w (valDs v) us fp) (hnd : fp.Nodup) :
    Calls Try.prog 23 #[.agg us.toArray, .int .i64 k] w (PMarks (k + topCnt v) (valDs (mTop v k)) us fp w) := by
  have hr := h.rd'
  obtain ⟨kind, n, s, keys, list, A1, c1, A2, c2, rfl, rfl, hs, _, _⟩ := valDs_open hr
  simp only [topCnt] at hk
  obtain ⟨W, eW⟩ : ∃ W, W = w.alloc (.cells #[.int .i64 kind, .int .i64 n, .string s, .slice A1 keys.length c1, .slice A2 list.length c2] 39) := ⟨_, rfl⟩
  have hbx : Below w.heap.size w W := by rw [eW]; exact below_box _ _
  have bP : Blk W w.heap.size 39 [.int .i64 kind, .int .i64 n, .string s, .slice A1 keys.length c1, .slice A2 list.length c2] := by rw [eW]; exact Blk.new _ _ _
  have hW : ODv W (valDs (.mk kind n s keys list)) [.int .i64 kind, .int .i64 n, .string s, .slice A1 keys.length c1, .slice A2 list.length c2] fp := ODv.keep _ _ _ (fun b hb => hbx.block b (ODv.lt _ _ _ h b hb)) h
  obtain ⟨fa, f3, fb, e3, o3, cl3⟩ := hW.pick 3 rfl rfl
  have hlt := ODv.lt _ _ _ h
  have hnd3 : f3.Nodup ∧ (∀ b ∈ fa ++ fb, b ∉ f3) := by
    rw [e3] at hnd
    obtain ⟨k1, k2, k3⟩ := List.nodup_append.1 hnd
    obtain ⟨m1, m2, m3⟩ := List.nodup_append.1 k2
    refine ⟨m1, fun b hb hm => ?_⟩
    rcases List.mem_append.1 hb with hb | hb
    · exact k3 b hb b (List.mem_append_left _ hm) rfl
    · exact m3 b hm b hb rfl
  have EW := Lib.hid eW
  have O3 := Lib.hid o3
  have C3 := Lib.hid cl3
  have E3 := Lib.hid e3
  have HP := Lib.hid bP
  have HN := Lib.hid hnd
  have HN3 := Lib.hid hnd3
  have HLT := Lib.hid hlt
  obtain ⟨cP, fP⟩ := blk_rules bP
  clear hr h eW bP hW o3 cl3 e3 hnd hnd3 hlt
  go_enter Try.func23, Try.ntmps23
  go_wp2_with fail
  rw [← EW.out]
  refine (markStringS_calls keys A1 c1 k f3 _ hk0 (by omega) O3.out HN3.out.1).mono ?_
  rintro e w1 ⟨rfl, h1, h2⟩
  have hfp : ∀ b ∈ fp, b < W.heap.size := fun b hb => Nat.lt_of_lt_of_le (HLT.out b hb) hbx.size
  have hm1 := C3.out w1 _ h1 fun b hb => h2.block b (hfp b (by rw [E3.out]; rcases List.mem_append.1 hb with hb | hb <;> simp [hb])) (HN3.out.2 b hb)
  have hP1 := h2.blk (fun hm => by have := HLT.out w.heap.size (by rw [E3.out]; simp [hm]); omega) HP.out
  obtain ⟨ga, f4, gb, e4, o4, cl4⟩ := hm1.pick 4 rfl rfl
  have hnd4 : f4.Nodup ∧ (∀ b ∈ ga ++ gb, b ∉ f4) := by
    have hnd := HN.out
    rw [e4] at hnd
    obtain ⟨k1, k2, k3⟩ := List.nodup_append.1 hnd
    obtain ⟨m1, m2, m3⟩ := List.nodup_append.1 k2
    refine ⟨m1, fun b hb hm => ?_⟩
    rcases List.mem_append.1 hb with hb | hb
    · exact k3 b hb b (List.mem_append_left _ hm) rfl
    · exact m3 b hm b hb rfl
  have hsz := h2.size
  have U1 := Lib.hid (show Upd fp w w1 from (Upd.of_below hbx).trans (h2.mono fun b hb => by rw [E3.out]; simp [hb]))
  have O4 := Lib.hid o4
  have C4 := Lib.hid cl4
  have E4 := Lib.hid e4
  have HN4 := Lib.hid hnd4
  have HP1 := Lib.hid hP1
  clear h1 h2 hm1 o4 cl4 e4 hnd4 hP1 cP fP
  obtain ⟨cP, fP⟩ := blk_rules HP1.out
  go_wp2_with fail
  refine (markVals_calls list A2 c2 _ f4 _ (by omega) (by omega) O4.out HN4.out.1).mono ?_
  rintro e w2 ⟨rfl, h3, h4⟩
  have hm2 := C4.out w2 _ h3 fun b hb => h4.block b (Nat.lt_of_lt_of_le (hfp b (by rw [E4.out]; rcases List.mem_append.1 hb with hb | hb <;> simp [hb])) hsz) (HN4.out.2 b hb)
  have HM := Lib.hid hm2
  have U2 := Lib.hid (U1.out.trans (h4.mono fun b hb => by rw [E4.out]; simp [hb]))
  clear h3 h4 hm2 hfp cP fP
  go_wp2
  go_ret
  refine ⟨by simp only [topCnt]; rw [show k + keys.length + vsCnt list = k + ((keys.length + vsCnt list : Nat) : Int) by omega]; rfl, ?_, U2.out⟩
  have h1 := HM.out
  simp only [valDs, mTop, mStrs_length, mVals_length, List.set_cons_zero, List.set_cons_succ] at h1 ⊢
  exact h1

set_option maxRecDepth 100000 in
set_option maxHeartbeats 4000000 in
theorem heldVal_calls (v : Val) (us : List Value) (k : Int) (w : World) (B : Nat) (hB : B ≤ w.heap.size) (hk0 : 0 ≤ k) (hk : k + topCnt v ≤ 4611686018427387904) (h : RDv w B (valDs (mTop v k)) us) :
    Calls Try.prog 24 #[.agg us.toArray, .int .i64 k] w (PHeld (k + topCnt v) w) := by
  obtain ⟨kind, n, s, keys, list⟩ := v
  simp only [mTop] at h
  obtain ⟨kind', n', s', keys', list', A1, c1, A2, c2, ev, rfl, hs, hk1, hl1⟩ := valDs_open h
  injection ev with e1 e2 e3 e4 e5
  subst e1 e2 e3 e4 e5
  simp only [mStrs_length, mVals_length] at hk1 hl1 ⊢
  simp only [topCnt] at hk
  have H1 := Lib.hid hk1
  have H2 := Lib.hid hl1
  have hbx := below_box w (.cells #[.int .i64 kind, .int .i64 n, .string s, .slice A1 keys.length c1, .slice A2 list.length c2] 39)
  have hn0 : ¬ (k + keys.length < 0) := by omega
  have hn1 : ¬ (k + keys.length + vsCnt list < 0) := by omega
  clear h hk1 hl1
  go_enter Try.func24, Try.ntmps24
  go_wp2_with fail
  refine (heldStringS_calls keys A1 c1 _ B k _ (Nat.le_trans hB hbx.size) hk0 (by omega) rfl (H1.out.below (hbx.mono hB))).mono ?_
  rintro e w1 ⟨rfl, hb1⟩
  obtain ⟨hb, hz, bP⟩ := boxes1 (P := [_, _, _, _, _]) (boxes1_of hb1)
  obtain ⟨cP, fP⟩ := blk_rules bP
  clear hb1 bP
  go_wp2_with fail
  refine (heldVals_calls list A2 c2 _ B _ _ (by omega) (by omega) (by omega) rfl (H2.out.below (hb.mono hB))).mono ?_
  rintro e w2 ⟨rfl, hb2⟩
  have hb3 := hb.trans (hb2.mono (by omega))
  clear hb2 cP fP
  go_wp2
  go_ret
  exact ⟨by simp only [topCnt]; rw [show k + keys.length + vsCnt list = k + ((keys.length + vsCnt list : Nat) : Int) by omega]; rfl, hb3⟩
end Go.Proofs.Ytppfgepoegicgaa
namespace Go.Proofs.Ytppfgepoegicgaa
open Go Go.RowKit
theorem ODv.below {w w' : World} {ds : List Dat} {us : List Value} {fp : List Nat} (h : ODv w ds us fp) (hb : Below w.heap.size w w') : ODv w' ds us fp := ODv.keep _ _ _ (fun b hm => hb.block b (ODv.lt _ _ _ h b hm)) h
theorem ODv.upd {w w' : World} {ds : List Dat} {us : List Value} {fp fx : List Nat} (h : ODv w ds us fp) (hu : Upd fx w w') (hd : ∀ b ∈ fp, b ∉ fx) : ODv w' ds us fp := ODv.keep _ _ _ (fun b hm => hu.block b (ODv.lt _ _ _ h b hm) (hd b hm)) h
theorem Has.upd {l : List (Nat × List Value)} {w w' : World} {fx : List Nat} (h : Has l w) (hu : Upd fx w w') (hd : ∀ p ∈ l, p.1 ∉ fx) : Has l w' := fun p hp => by
  have h1 := h p hp
  have hb := hu.block p.1 h1.1 (hd p hp)
  refine ⟨Nat.lt_of_lt_of_le h1.1 hu.size, fun i u hi => ?_⟩
  rw [← h1.2 i u hi]
  exact World.cell?_of_block (w := w) (a := ⟨p.1, i, none⟩) hb
theorem shelf_shape {w : World} {B : Nat} {x : Shelf} {us : List Value} (h : RDv w B (shelfDs x) us) : ∃ (A : Option Addr) (n c : Nat), us = [.slice A n c] := by
  obtain ⟨A, c, rfl, _⟩ := shelfDs_open h
  exact ⟨A, _, c, rfl⟩
end Go.Proofs.Ytppfgepoegicgaa
