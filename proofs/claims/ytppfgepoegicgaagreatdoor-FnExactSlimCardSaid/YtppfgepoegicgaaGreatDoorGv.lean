/- The law's look at a row of marked Filt. -/
import Derived.Test.YtppfgepoegicgaaGreatDoorGu
import Derived.Test.YtppfgepoegicgaaGreatDoorGt
import Derived.Test.YtppfgepoegicgaaGreatDoorZSlimK
namespace Go.Proofs.YtppfgepoegicgaaGreatDoor
open Go Go.RowKit

def HeldFilts (vs : List Filt) : Prop := ∀ (A : Option Addr) (c n B : Nat) (k : Int) (w : World), B ≤ w.heap.size → 0 ≤ k → k + fsCnt vs ≤ 4611686018427387904 → vs.length = n → RD w B (.row 9 n (filtsDs (mFilts vs k))) (.slice A n c) →
    Calls Tryz.prog 26 #[.slice A n c, .int .i64 k] w (PHeld (k + fsCnt vs) w)
set_option maxRecDepth 100000 in
set_option maxHeartbeats 8000000 in
theorem heldFilts_of (vs : List Filt) (ih : ∀ kind n s v kids, (.mk kind n s v kids) ∈ vs → HeldFilts kids) : HeldFilts vs := by
  intro A c n B k w hB hk0 hk hn0 h
  have hn := h.len
  have H := Lib.hid h
  have HN := Lib.hid hn0
  have HK := Lib.hid hk
  have IH := Lib.hid ih
  clear ih
  clear h hn0 hk
  go_enter Tryz.func26, Tryz.ntmps26
  go_wp2
  go_loopw [1, 5] (fun q i w' => ∃ (j : Nat) (ks : List Filt) (r : Int), j ≤ n ∧ i = .int .i64 j ∧ q = .int .i64 r ∧ 0 ≤ r ∧ Hid (r = k + fsCnt ks) ∧ Hid (ks.length = j) ∧ Hid (vs = ks ++ vs.drop j) ∧ Below w.heap.size w w') (fun _ i _ => n - (intOf i).toNat)
  case atStart => exact ⟨0, [], k, by omega, rfl, rfl, hk0, (by simp [fsCnt] : k = k + fsCnt []), (rfl : ([] : List Filt).length = 0), (rfl : vs = [] ++ vs.drop 0), Below.refl _ _⟩
  case round =>
    obtain ⟨j, ks, r, hj, rfl, rfl, hr0, HR, HL, HS, hb⟩ := hrel
    have hz := hb.size
    by_cases hlt : j < n
    · have hdr := List.drop_eq_getElem_cons (l := vs) (i := j) (by rw [HN.out]; exact hlt)
      obtain ⟨v, ev⟩ : ∃ v, v = vs[j]'(by rw [HN.out]; exact hlt) := ⟨_, rfl⟩
      rw [← ev] at hdr
      have hmem : v ∈ vs := by rw [ev]; exact List.getElem_mem _
      have HD := Lib.hid hdr
      have hsum : r + fCnt v ≤ 4611686018427387904 := by
        have h1 := HK.out
        have h2 := congrArg fsCnt HS.out
        rw [hdr, fsCnt_append, fsCnt] at h2
        have := HR.out
        omega
      obtain ⟨ad, x, c0, c1, c2, c3, c4, c5, c6, c7, c8, rfl, hbl, hv, hxm, hd, z0, z1, z2, z3, z4, z5, z6, z7, z8⟩ := row9_at (H.out.upto (hb.mono hB) (Nat.le_refl _)) (by rw [mFilts_length, HN.out]) hlt
      have hx : x = mFilt v r := by
        have h1 := hd.out
        rw [HS.out, mFilts_append, List.drop_append_of_le_length (by rw [mFilts_length, HL.out]; omega), List.drop_of_length_le (by rw [mFilts_length, HL.out]; omega), hdr, mFilts, ← HR.out] at h1
        injection h1 with h1 h2
        exact h1.symm
      subst hx
      obtain ⟨fk, fn, fs, ⟨kind, nn, s, keys, list⟩, kids⟩ := v
      have IH2 := Lib.hid (IH.out _ _ _ _ _ hmem)
      have hcnt : (fCnt (.mk fk fn fs (.mk kind nn s keys list) kids) : Int) = 3 + (3 + keys.length + vsCnt list) + fsCnt kids := by simp [fCnt, vCnt]
      have b1 : r + 3 + 3 + keys.length + vsCnt list + fsCnt kids ≤ 4611686018427387904 := by omega
      simp only [mFilt, filtDs, mVal, valDs, List.cons_append, List.nil_append] at hv
      simp only [mStrs_length, mVals_length, mFilts_length, RDv.cons_iff] at hv
      obtain ⟨h0, h1, h2, h3, h4, h5, h6, h7, h8, h9⟩ := hv
      obtain rfl : c0 = .int .i64 (r) := h0
      obtain rfl : c1 = .int .i64 (r + 1) := h1
      obtain ⟨rfl, _⟩ : c2 = .string (markT (r + 1 + 1)) ∧ _ := h2
      obtain rfl : c3 = .int .i64 (r + 1 + 1 + 1) := h3
      obtain rfl : c4 = .int .i64 (r + 1 + 1 + 1 + 1) := h4
      obtain ⟨rfl, _⟩ : c5 = .string (markT (r + 1 + 1 + 1 + 1 + 1)) ∧ _ := h5
      obtain ⟨A6, q6, us6, rfl, hr6⟩ := h6
      have R6 := Lib.hid (show RD wr B (.row 1 keys.length (strDs (mStrs keys (r + 1 + 1 + 1 + 1 + 1 + 1)))) (.slice A6 keys.length q6) from ⟨_, _, us6, rfl, hr6⟩)
      have l6 : keys.length ≤ 9223372036854775807 := R6.out.len
      obtain ⟨A7, q7, us7, rfl, hr7⟩ := h7
      have R7 := Lib.hid (show RD wr B (.row 5 list.length (valsDs (mVals list (r + 1 + 1 + 1 + 1 + 1 + 1 + keys.length)))) (.slice A7 list.length q7) from ⟨_, _, us7, rfl, hr7⟩)
      have l7 : list.length ≤ 9223372036854775807 := R7.out.len
      obtain ⟨A8, q8, us8, rfl, hr8⟩ := h8
      have R8 := Lib.hid (show RD wr B (.row 9 kids.length (filtsDs (mFilts kids (r + 1 + 1 + 1 + 1 + 1 + 1 + keys.length + vsCnt list)))) (.slice A8 kids.length q8) from ⟨_, _, us8, rfl, hr8⟩)
      have l8 : kids.length ≤ 9223372036854775807 := R8.out.len
      have Z0 := Lib.hid z0
      have Z1 := Lib.hid z1
      have Z2 := Lib.hid z2
      have Z3 := Lib.hid z3
      have Z4 := Lib.hid z4
      have Z5 := Lib.hid z5
      have Z6 := Lib.hid z6
      have Z7 := Lib.hid z7
      have Z8 := Lib.hid z8
      have hcn := Lib.hid hcnt
      have hbl2 : ad.block < wr.heap.size := by omega
      have hBr : B ≤ wr.heap.size := by omega
      have j0 : (0 : Int) ≤ (j : Int) := by omega
      have j1 : (j : Int) < (n : Int) := by omega
      clear hdr ev hd hxm hcnt hsum hmem h9 hr6 hr7 hr8
      go_wp2
      go_region_held3 (fun w' => w'.cell? ⟨(ad.add (j * 9)).block, (ad.add (j * 9)).off + 2, none⟩ = some (.string (markT (r + 1 + 1)))) (first | (simpa using z2) | (exact (hbm.cell (p := ⟨(ad.add (j * 9)).block, (ad.add (j * 9)).off + 2, none⟩) (by show (ad.add (j * 9)).block < _; rw [block_of_add]; (try simp); omega)).trans (by simpa using z2))) ((go_at_call 51; ((with_reducible refine (markText_calls _ _ (by omega)).mono ?_); rintro e w1 ⟨rfl, hbm⟩)))
      have hB1 : Below wr.heap.size wr w1 := (Below.refl _ _).drew.trans (hbm.mono (by simp))
      have hs1 := hB1.size
      have B1 := Lib.hid hB1
      clear hbm hB1 z0 z1 z2 z3 z4 z5 z6 z7 z8
      have z3 := (B1.out.cell (p := ⟨(ad.add (j * 9)).block, (ad.add (j * 9)).off + 3, none⟩) (by show (ad.add (j * 9)).block < _; rw [block_of_add]; (try simp); omega)).trans Z3.out
      have z4 := (B1.out.cell (p := ⟨(ad.add (j * 9)).block, (ad.add (j * 9)).off + 4, none⟩) (by show (ad.add (j * 9)).block < _; rw [block_of_add]; (try simp); omega)).trans Z4.out
      have z5 := (B1.out.cell (p := ⟨(ad.add (j * 9)).block, (ad.add (j * 9)).off + 5, none⟩) (by show (ad.add (j * 9)).block < _; rw [block_of_add]; (try simp); omega)).trans Z5.out
      have z6 := (B1.out.cell (p := ⟨(ad.add (j * 9)).block, (ad.add (j * 9)).off + 6, none⟩) (by show (ad.add (j * 9)).block < _; rw [block_of_add]; (try simp); omega)).trans Z6.out
      have z7 := (B1.out.cell (p := ⟨(ad.add (j * 9)).block, (ad.add (j * 9)).off + 7, none⟩) (by show (ad.add (j * 9)).block < _; rw [block_of_add]; (try simp); omega)).trans Z7.out
      have z8 := (B1.out.cell (p := ⟨(ad.add (j * 9)).block, (ad.add (j * 9)).off + 8, none⟩) (by show (ad.add (j * 9)).block < _; rw [block_of_add]; (try simp); omega)).trans Z8.out
      go_wp2
      go_region_held3 (fun w' => w'.cell? ⟨(ad.add (j * 9)).block, (ad.add (j * 9)).off + 5, none⟩ = some (.string (markT (r + 1 + 1 + 1 + 1 + 1)))) (first | (simpa using z5) | (exact (hbm.cell (p := ⟨(ad.add (j * 9)).block, (ad.add (j * 9)).off + 5, none⟩) (by show (ad.add (j * 9)).block < _; rw [block_of_add]; (try simp); omega)).trans (by simpa using z5))) ((go_at_call 51; ((with_reducible refine (markText_calls _ _ (by omega)).mono ?_); rintro e w2 ⟨rfl, hbm⟩)))
      have hB2 : Below wr.heap.size wr w2 := (B1.out.trans ((Below.refl _ _).drew.mono (by omega))).trans (hbm.mono (by simp; omega))
      have hs2 := hB2.size
      have B2 := Lib.hid hB2
      clear hbm hB2 z3 z4 z5 z6 z7 z8
      have z6 := (B2.out.cell (p := ⟨(ad.add (j * 9)).block, (ad.add (j * 9)).off + 6, none⟩) (by show (ad.add (j * 9)).block < _; rw [block_of_add]; (try simp); omega)).trans Z6.out
      have z7 := (B2.out.cell (p := ⟨(ad.add (j * 9)).block, (ad.add (j * 9)).off + 7, none⟩) (by show (ad.add (j * 9)).block < _; rw [block_of_add]; (try simp); omega)).trans Z7.out
      have z8 := (B2.out.cell (p := ⟨(ad.add (j * 9)).block, (ad.add (j * 9)).off + 8, none⟩) (by show (ad.add (j * 9)).block < _; rw [block_of_add]; (try simp); omega)).trans Z8.out
      go_wp2_with fail
      refine (heldStringS_calls keys _ _ _ B _ _ (by omega) (by omega) (by omega) rfl (R6.out.below (B2.out.mono hBr))).mono ?_
      rintro e w3 ⟨rfl, hbm⟩
      have hB3 : Below wr.heap.size wr w3 := B2.out.trans (hbm.mono (by omega))
      have hs3 := hB3.size
      have B3 := Lib.hid hB3
      clear hbm hB3 z6 z7 z8
      have z7 := (B3.out.cell (p := ⟨(ad.add (j * 9)).block, (ad.add (j * 9)).off + 7, none⟩) (by show (ad.add (j * 9)).block < _; rw [block_of_add]; (try simp); omega)).trans Z7.out
      have z8 := (B3.out.cell (p := ⟨(ad.add (j * 9)).block, (ad.add (j * 9)).off + 8, none⟩) (by show (ad.add (j * 9)).block < _; rw [block_of_add]; (try simp); omega)).trans Z8.out
      have n3 : ¬ (r + 1 + 1 + 1 + 1 + 1 + 1 + keys.length < 0) := by omega
      go_wp2_with fail
      refine (heldVals_calls list _ _ _ B _ _ (by omega) (by omega) (by omega) rfl (R7.out.below (B3.out.mono hBr))).mono ?_
      rintro e w4 ⟨rfl, hbm⟩
      have hB4 : Below wr.heap.size wr w4 := B3.out.trans (hbm.mono (by omega))
      have hs4 := hB4.size
      have B4 := Lib.hid hB4
      clear hbm hB4 z7 z8
      have z8 := (B4.out.cell (p := ⟨(ad.add (j * 9)).block, (ad.add (j * 9)).off + 8, none⟩) (by show (ad.add (j * 9)).block < _; rw [block_of_add]; (try simp); omega)).trans Z8.out
      have n4 : ¬ (r + 1 + 1 + 1 + 1 + 1 + 1 + keys.length + vsCnt list < 0) := by omega
      go_wp2_with fail
      refine (IH2.out _ _ _ B _ _ (by omega) (by omega) (by omega) rfl (R8.out.below (B4.out.mono hBr))).mono ?_
      rintro e w5 ⟨rfl, hbm⟩
      have hB5 : Below wr.heap.size wr w5 := B4.out.trans (hbm.mono (by omega))
      have hs5 := hB5.size
      have B5 := Lib.hid hB5
      clear hbm hB5 z8
      have n5 : ¬ (r + 1 + 1 + 1 + 1 + 1 + 1 + keys.length + vsCnt list + fsCnt kids < 0) := by omega
      have HB2 := hb.trans (B5.out.mono hz)
      have HR2 := Lib.hid (show r + 1 + 1 + 1 + 1 + 1 + 1 + keys.length + vsCnt list + fsCnt kids = k + fsCnt (ks ++ [.mk fk fn fs (.mk kind nn s keys list) kids]) by
        have h1 := HR.out
        have h2 := hcn.out
        simp only [fsCnt_append, fsCnt]
        omega)
      have HL2 := Lib.hid (show (ks ++ [(.mk fk fn fs (.mk kind nn s keys list) kids : Filt)]).length = j + 1 by rw [List.length_append, HL.out]; rfl)
      have HS2 := Lib.hid (show vs = (ks ++ [.mk fk fn fs (.mk kind nn s keys list) kids]) ++ vs.drop (j + 1) by rw [List.append_assoc, List.singleton_append, ← HD.out]; exact HS.out)
      clear HR HL HS
      go_wp2
      go_roundw
      case rel => exact ⟨j + 1, _, _, by omega, by go_num, rfl, by omega, HR2, HL2, HS2, HB2⟩
      case measure => simp [intOf]; omega
    · obtain rfl : j = n := by omega
      have HR2 := Lib.hid (show r = k + fsCnt vs by
        have h2 := HS.out
        rw [← HN.out, List.drop_length, List.append_nil] at h2
        rw [h2]
        exact HR.out)
      clear HS HL HR
      go_wp2
      go_ret
      exact ⟨by rw [← HR2.out]; rfl, hb⟩
theorem heldFilts_all (x : Filt) : ∀ kind n s v kids, x = .mk kind n s v kids → HeldFilts kids := by
  induction x using Filt.ind with
  | h kind n s v kids ih =>
    intro _ _ _ _ _ e
    injection e with e1 e2 e3 e4 e5
    subst e5
    exact heldFilts_of _ fun kind n s v l hm => ih _ hm _ _ _ _ _ rfl
theorem heldFilts_calls (vs : List Filt) : HeldFilts vs := heldFilts_of vs fun kind n s v l _ => heldFilts_all (.mk kind n s v l) _ _ _ _ _ rfl
end Go.Proofs.YtppfgepoegicgaaGreatDoor
namespace Go.Proofs.YtppfgepoegicgaaGreatDoor
open Go Go.RowKit

theorem mFilts_len : ∀ (l : List Filt) (k : Int), (mFilts l k).length = l.length := mFilts_length
set_option maxRecDepth 100000 in
set_option maxHeartbeats 4000000 in
theorem heldFilt_calls (x : Filt) (us : List Value) (k : Int) (w : World) (B : Nat) (hB : B ≤ w.heap.size) (hk0 : 0 ≤ k) (hk : k + topF x ≤ 4611686018427387904) (h : RDv w B (filtDs (mFTop x k)) us) :
    Calls Tryz.prog 10 #[.agg us.toArray, .int .i64 k] w (PHeld (k + topF x) w) := by
  obtain ⟨kind, n, s, v, kids⟩ := x
  simp only [mFTop] at h
  obtain ⟨_, _, _, _, _, a3, a4, a5, A6, n6, q6, A7, n7, q7, A8, q8, ex, rfl, hs, hv, hk8⟩ := filtDs_all h
  injection ex with e1 e2 e3 e4 e5
  subst e1 e2 e3 e4 e5
  rw [mFilts_length] at hk8
  simp only [mFilts_length]
  simp only [topF] at hk
  have HV := Lib.hid hv
  have HK := Lib.hid hk8
  have hbx := below_box w (.cells #[.int .i64 kind, .int .i64 n, .string s, .int .i64 a3, .int .i64 a4, .string a5, .slice A6 n6 q6, .slice A7 n7 q7, .slice A8 kids.length q8] 35)
  have hn0 : ¬ (k + topCnt v < 0) := by omega
  have hn1 : ¬ (k + topCnt v + fsCnt kids < 0) := by omega
  clear h hv hk8
  go_enter Tryz.func10, Tryz.ntmps10
  go_wp2_with fail
  refine (heldVal_calls v [_, _, _, _, _] k _ B (Nat.le_trans hB hbx.size) hk0 (by omega) (HV.out.below (hbx.mono hB))).mono ?_
  rintro e w1 ⟨rfl, hb1⟩
  obtain ⟨hb, hz, bP⟩ := boxes1 (P := [_, _, _, _, _, _, _, _, _]) (boxes1_of hb1)
  obtain ⟨cP, fP⟩ := blk_rules bP
  clear hb1 bP
  go_wp2_with fail
  refine (heldFilts_calls kids A8 q8 _ B _ _ (by omega) (by omega) (by omega) rfl (HK.out.below (hb.mono hB))).mono ?_
  rintro e w2 ⟨rfl, hb2⟩
  have hb3 := hb.trans (hb2.mono (by omega))
  clear hb2 cP fP
  go_wp2
  go_ret
  exact ⟨by simp only [topF]; rw [show k + topCnt v + fsCnt kids = k + ((topCnt v + fsCnt kids : Nat) : Int) by omega]; rfl, hb3⟩
theorem vCnt_le : ∀ (v : Val) (d : Nat), Form d v → vCnt v + 1 ≤ 4 * valCnt v := Val.ind fun kind n s keys list ih d h => by
  obtain ⟨m, rfl⟩ : ∃ m, d = m + 1 := by
    cases d with
    | zero => exact h.elim
    | succ m => exact ⟨m, rfl⟩
  obtain ⟨⟨hc, hk, hn, hs, h6⟩, hl⟩ := h
  have hkeys : keys.length ≤ list.length := by
    by_cases e : kind = 6
    · exact Nat.le_of_eq (h6 e).1
    · rw [hc.2.2.1 e]; simp
  have hone : ∀ l : List Val, (∀ v ∈ l, vCnt v + 1 ≤ 4 * valCnt v) → vsCnt l + l.length ≤ 4 * valsCnt l := fun l => by
    induction l with
    | nil => intro _; simp [vsCnt]
    | cons y r ihr =>
      intro hy
      have h1 := hy y List.mem_cons_self
      have h2 := ihr fun z hz => hy z (List.mem_cons_of_mem _ hz)
      simp only [vsCnt, valsCnt, List.length_cons]
      omega
  have h1 := hone list fun v hv => ih v hv m (hl v hv)
  simp only [vCnt, valCnt]
  omega
def fB : Nat → Nat
  | 0 => 0
  | d + 1 => 243 + 3 * fB d
theorem fCnt_le : ∀ (x : Filt) (d : Nat), FForm d x → fCnt x ≤ fB d := Filt.ind fun kind n s v kids ih d h => by
  obtain ⟨m, rfl⟩ : ∃ m, d = m + 1 := ⟨d - 1, by have := fform_pos h; omega⟩
  obtain ⟨⟨a1, a2, a3, a4, a5⟩, h2, h3⟩ := h
  have hl : kids.length ≤ 3 := by have := kidsOf_le kind; omega
  have hv := vCnt_le v 6 a5.1
  have hv2 := a5.2
  have hsum : ∀ l : List Filt, (∀ y ∈ l, fCnt y ≤ fB m) → fsCnt l ≤ l.length * fB m := fun l => by
    induction l with
    | nil => intro _; simp [fsCnt]
    | cons y r ihr =>
      intro hy
      have h1 := hy y List.mem_cons_self
      have h2 := ihr fun z hz => hy z (List.mem_cons_of_mem _ hz)
      simp only [fsCnt, List.length_cons]
      rw [Nat.succ_mul]
      omega
  have h4 := hsum kids fun y hy => ih y hy m (h2 y hy)
  have h5 : kids.length * fB m ≤ 3 * fB m := Nat.mul_le_mul_right _ hl
  simp only [fCnt, fB]
  omega
theorem form_few {x : Filt} (h : FForm 7 x) : topF x ≤ 10000000 := by
  have h1 := fCnt_le x 7 h
  have h2 := topF_le x
  have h3 : fB 7 ≤ 10000000 := by decide
  omega
end Go.Proofs.YtppfgepoegicgaaGreatDoor
