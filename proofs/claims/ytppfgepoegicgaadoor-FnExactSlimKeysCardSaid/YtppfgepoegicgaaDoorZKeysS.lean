/- The keys of a filter: the reference's l6Keys. -/
import Derived.Test.YtppfgepoegicgaaDoorZKeysPut
import Derived.Deep.DeepCutAuto
namespace Go.Proofs.YtppfgepoegicgaaDoor
open Go Go.RowKit

theorem insS_len (s : ByteArray) : ∀ l : List ByteArray, (insS l s).length ≤ l.length + 1
  | [] => by simp [insS]
  | x :: r => by
    have := insS_len s r
    unfold insS
    split
    · simp only [List.length_cons]; omega
    · split <;> simp
theorem insAll_len : ∀ (a l : List ByteArray), (insAll l a).length ≤ l.length + a.length
  | [], l => by simp [insAll]
  | s :: a, l => by
    have h1 := insAll_len a (insS l s)
    have h2 := insS_len s l
    simp only [insAll, List.length_cons]
    omega
def SKeysC (f : Nat) (x : Filt) : Prop := ∀ (us : List Value) (w : World) (B base : Nat) (A : Option Addr) (c : Nat) (l : List ByteArray), B ≤ base → base ≤ w.heap.size → RDv w B (filtDs x) us → StrRow base w A c l → l.length + filtCnt x ≤ 100 →
  Calls Tryd.prog f #[.slice A l.length c, .agg us.toArray] w fun e w' => ∃ A' c' l', e = .returned (.slice A' l'.length c') ∧ Hid (l' = insAll l (fks x)) ∧ Hid (StrRow base w' A' c' l') ∧ Hid (Grew w w' (Value.slice A l.length c).ownBlock (Value.slice A' l'.length c').ownBlock)
theorem skeys_room {kids : List Filt} {k : Nat} {y : Filt} {l lk : List ByteArray} {kind n : Int} {s : ByteArray} {v : Val} (hd : kids.drop k = y :: kids.drop (k + 1)) (hl : lk = insAll (insAll l (oneKey kind s)) (fkss (kids.take k))) (hC : l.length + filtCnt (.mk kind n s v kids) ≤ 100) : lk.length + filtCnt y ≤ 100 := by
  have h1 := List.take_append_drop k kids
  have h2 := fkss_le (kids.take k)
  have h3 := oneKey_le kind s
  have h4 := insAll_len (fkss (kids.take k)) (insAll l (oneKey kind s))
  have h5 := insAll_len (oneKey kind s) l
  rw [hd] at h1
  rw [hl]
  simp only [filtCnt] at hC
  rw [← h1, filtsCnt_app_k] at hC
  simp only [filtsCnt] at hC
  omega
theorem skeys_next {kids : List Filt} {k : Nat} {y : Filt} {l2 lk lk' : List ByteArray} (hd : kids.drop k = y :: kids.drop (k + 1)) (hl : lk = insAll l2 (fkss (kids.take k))) (hl' : lk' = insAll lk (fks y)) : lk' = insAll l2 (fkss (kids.take (k + 1))) := by
  rw [hl', hl, take_of_drop hd, fkss_append, insAll_append]
  simp [fkss]
set_option maxRecDepth 100000 in
set_option maxHeartbeats 8000000 in
theorem sKeysF_of (x : Filt) (ih : ∀ kind n s v kids, x = .mk kind n s v kids → ∀ y ∈ kids, SKeysC 31 y) : SKeysC 31 x := by
  intro us w B base A c l hB hbase h hrow hC
  obtain ⟨kind, n, s, v, kids, a3, a4, a5, A6, n6, q6, A7, n7, q7, A8, q8, rfl, rfl, hs, hv, hk⟩ := filtDs_all h
  have IH := Lib.hid (ih _ _ _ _ _ rfl)
  have HK := Lib.hid hk
  have HR := Lib.hid hrow
  have HC := Lib.hid hC
  have hkn : kids.length ≤ 100 := by
    have h1 := hk.len
    have h2 := filtsCnt_len_k kids
    simp only [filtCnt] at hC
    omega
  have hln : l.length ≤ 100 := by omega
  clear ih h hv hk hs hrow hC
  obtain ⟨iS, hiS, zS0, zS1, zS2⟩ := info_parts' Tryd.info_string
  have W1 := Lib.hid (Blk.new w 36 [.int .i64 kind, .int .i64 n, .string s, .int .i64 a3, .int .i64 a4, .string a5, .slice A6 n6 q6, .slice A7 n7 q7, .slice A8 kids.length q8])
  obtain ⟨w1, e1⟩ : ∃ w1 : World, w1 = w.alloc (.cells #[.int .i64 kind, .int .i64 n, .string s, .int .i64 a3, .int .i64 a4, .string a5, .slice A6 n6 q6, .slice A7 n7 q7, .slice A8 kids.length q8] 36) := ⟨_, rfl⟩
  rw [← e1] at W1
  have HB1 := Lib.hid (show Below w.heap.size w w1 from by rw [e1]; exact below_box w _)
  have hz1 : w.heap.size + 1 = w1.heap.size := by rw [e1]; simp
  have HE := Lib.hid e1
  have hz1' := Nat.le_of_eq hz1
  have HZ1 := Lib.hid hz1
  clear e1 hz1
  have HR1 := Lib.hid (HR.out.grew HB1.out)
  have ho1 : (Value.slice A l.length c).ownBlock ≠ some w.heap.size := fun e => by have := (HR.out.lt _ e).2; omega
  have HO1 := Lib.hid ho1
  clear ho1
  by_cases h3 : kind = 3
  · subst h3
    go_enter Tryd.func31, Tryd.ntmps31
    go_upto_region 1 with fail
    rw [← HE.out]
    obtain ⟨cP, fP⟩ := blk_rules W1.out
    go_wp2_with fail
    refine (put_calls base A c l s w1 (by omega) HR1.out (by omega)).mono ?_
    rintro e w2 ⟨A2, c2, l2, rfl, hl2, hr2, hg2⟩
    have HL2 := Lib.hid (show l2 = insAll l (oneKey 3 s) from hl2.out)
    have HR2 := Lib.hid hr2.out
    have HG2 := Lib.hid hg2.out
    have W2 := Lib.hid (HG2.out.blk HO1.out W1.out)
    clear hl2 hr2 hg2 cP fP
    obtain ⟨cP, fP⟩ := blk_rules W2.out
    go_wp2
    go_loopw [0, 5] (fun tv i w' => ∃ (k : Nat) (A' : Option Addr) (c' : Nat) (lk : List ByteArray), k ≤ kids.length ∧ tv = .slice A' lk.length c' ∧ i = .int .i64 k ∧ Hid (lk = insAll l2 (fkss (kids.take k))) ∧ Hid (StrRow base w' A' c' lk) ∧ Hid (Grew w1 w' (Value.slice A l.length c).ownBlock (Value.slice A' lk.length c').ownBlock)) (fun _ i _ => kids.length - (intOf i).toNat)
    case atStart => exact ⟨0, _, _, l2, by omega, rfl, rfl, (rfl : l2 = insAll l2 (fkss (kids.take 0))), HR2.out, HG2.out⟩
    case round =>
      obtain ⟨k, A3, c3, lk, hk, rfl, rfl, HLK, HRk, HGk⟩ := hrel
      clear cP fP
      have hzr := HGk.out.size
      have Wr := Lib.hid (HGk.out.blk HO1.out W1.out)
      have HBB := Lib.hid ((HB1.out.mono (show B ≤ w.heap.size by omega)).trans ((HGk.out.below (B := base) (by omega) (fun q hq => (HR.out.lt q hq).1)).mono hB))
      obtain ⟨cP, fP⟩ := blk_rules Wr.out
      by_cases hlt : k < kids.length
      · obtain ⟨ad, y, x0, x1, x2, x3, x4, x5, x6, x7, x8, rfl, hbl, hv, hm, hd, z0, z1, z2, z3, z4, z5, z6, z7, z8⟩ := row9_at (HK.out.upto HBB.out (Nat.le_refl _)) rfl hlt
        have j0 : (0 : Int) ≤ (k : Int) := by omega
        have j1 : (k : Int) < (kids.length : Int) := by omega
        obtain ⟨g0, g1, g2, g3, g4, g5, G6, h6, i6, G7, h7, i7, G8, h8, i8, ec⟩ := filtDs_shape hv
        simp only [List.cons.injEq, and_true] at ec
        obtain ⟨rfl, rfl, rfl, rfl, rfl, rfl, rfl, rfl, rfl⟩ := ec
        have HV := Lib.hid hv
        have hro := skeys_room (lk := lk) hd.out (by rw [← HL2.out]; exact HLK.out) HC.out
        clear hv
        go_wp2_with fail
        refine (IH.out y hm [_, _, _, _, _, _, _, _, _] _ B base A3 c3 lk hB (show base ≤ wr.heap.size by omega) HV.out HRk.out hro).mono ?_
        rintro e w4 ⟨A4, c4, l4, rfl, hl4, hr4, hg4⟩
        have HL4 := Lib.hid (skeys_next hd.out HLK.out hl4.out)
        have HG4 := Lib.hid (HGk.out.trans hg4.out)
        clear hl4 hg4 z0 z1 z2 z3 z4 z5 z6 z7 z8 cP fP
        go_wp2
        go_roundw
        case rel => exact ⟨k + 1, _, _, l4, by omega, rfl, by go_num, HL4, hr4, HG4⟩
        case measure => simp [intOf]; omega
      · obtain rfl : k = kids.length := by omega
        go_wp2
        go_ret
        exact ⟨_, _, lk, rfl, (by rw [HLK.out, HL2.out, List.take_length, ← insAll_append]; rfl : lk = insAll l (fks _)), HRk.out, (Grew.of_below HB1.out _).trans HGk.out⟩
  by_cases h21 : kind = 21
  · subst h21
    go_enter Tryd.func31, Tryd.ntmps31
    go_upto_region 1 with fail
    rw [← HE.out]
    obtain ⟨cP, fP⟩ := blk_rules W1.out
    go_wp2_with fail
    refine (put_calls base A c l s w1 (by omega) HR1.out (by omega)).mono ?_
    rintro e w2 ⟨A2, c2, l2, rfl, hl2, hr2, hg2⟩
    have HL2 := Lib.hid (show l2 = insAll l (oneKey 21 s) from hl2.out)
    have HR2 := Lib.hid hr2.out
    have HG2 := Lib.hid hg2.out
    have W2 := Lib.hid (HG2.out.blk HO1.out W1.out)
    clear hl2 hr2 hg2 cP fP
    obtain ⟨cP, fP⟩ := blk_rules W2.out
    go_wp2
    go_loopw [0, 5] (fun tv i w' => ∃ (k : Nat) (A' : Option Addr) (c' : Nat) (lk : List ByteArray), k ≤ kids.length ∧ tv = .slice A' lk.length c' ∧ i = .int .i64 k ∧ Hid (lk = insAll l2 (fkss (kids.take k))) ∧ Hid (StrRow base w' A' c' lk) ∧ Hid (Grew w1 w' (Value.slice A l.length c).ownBlock (Value.slice A' lk.length c').ownBlock)) (fun _ i _ => kids.length - (intOf i).toNat)
    case atStart => exact ⟨0, _, _, l2, by omega, rfl, rfl, (rfl : l2 = insAll l2 (fkss (kids.take 0))), HR2.out, HG2.out⟩
    case round =>
      obtain ⟨k, A3, c3, lk, hk, rfl, rfl, HLK, HRk, HGk⟩ := hrel
      clear cP fP
      have hzr := HGk.out.size
      have Wr := Lib.hid (HGk.out.blk HO1.out W1.out)
      have HBB := Lib.hid ((HB1.out.mono (show B ≤ w.heap.size by omega)).trans ((HGk.out.below (B := base) (by omega) (fun q hq => (HR.out.lt q hq).1)).mono hB))
      obtain ⟨cP, fP⟩ := blk_rules Wr.out
      by_cases hlt : k < kids.length
      · obtain ⟨ad, y, x0, x1, x2, x3, x4, x5, x6, x7, x8, rfl, hbl, hv, hm, hd, z0, z1, z2, z3, z4, z5, z6, z7, z8⟩ := row9_at (HK.out.upto HBB.out (Nat.le_refl _)) rfl hlt
        have j0 : (0 : Int) ≤ (k : Int) := by omega
        have j1 : (k : Int) < (kids.length : Int) := by omega
        obtain ⟨g0, g1, g2, g3, g4, g5, G6, h6, i6, G7, h7, i7, G8, h8, i8, ec⟩ := filtDs_shape hv
        simp only [List.cons.injEq, and_true] at ec
        obtain ⟨rfl, rfl, rfl, rfl, rfl, rfl, rfl, rfl, rfl⟩ := ec
        have HV := Lib.hid hv
        have hro := skeys_room (lk := lk) hd.out (by rw [← HL2.out]; exact HLK.out) HC.out
        clear hv
        go_wp2_with fail
        refine (IH.out y hm [_, _, _, _, _, _, _, _, _] _ B base A3 c3 lk hB (show base ≤ wr.heap.size by omega) HV.out HRk.out hro).mono ?_
        rintro e w4 ⟨A4, c4, l4, rfl, hl4, hr4, hg4⟩
        have HL4 := Lib.hid (skeys_next hd.out HLK.out hl4.out)
        have HG4 := Lib.hid (HGk.out.trans hg4.out)
        clear hl4 hg4 z0 z1 z2 z3 z4 z5 z6 z7 z8 cP fP
        go_wp2
        go_roundw
        case rel => exact ⟨k + 1, _, _, l4, by omega, rfl, by go_num, HL4, hr4, HG4⟩
        case measure => simp [intOf]; omega
      · obtain rfl : k = kids.length := by omega
        go_wp2
        go_ret
        exact ⟨_, _, lk, rfl, (by rw [HLK.out, HL2.out, List.take_length, ← insAll_append]; rfl : lk = insAll l (fks _)), HRk.out, (Grew.of_below HB1.out _).trans HGk.out⟩
  · have c3 : (kind == 3) = false := by simpa using h3
    have c21 : (kind == 21) = false := by simpa using h21
    obtain ⟨l2, el2⟩ : ∃ l2, l2 = l := ⟨_, rfl⟩
    have HL2 := Lib.hid (show l2 = insAll l (oneKey kind s) by rw [el2]; unfold oneKey; rw [if_neg (by omega)]; rfl)
    have HR2 := Lib.hid (show StrRow base w1 A c l2 by rw [el2]; exact HR1.out)
    have HG2 := Lib.hid (show Grew w1 w1 (Value.slice A l.length c).ownBlock (Value.slice A l2.length c).ownBlock by rw [el2]; exact Grew.of_below (Below.refl _ _) _)
    have HEL := Lib.hid el2.symm
    clear h3 h21 el2
    go_enter Tryd.func31, Tryd.ntmps31
    go_upto_region 1 with fail
    rw [← HE.out]
    obtain ⟨cP, fP⟩ := blk_rules W1.out
    go_wp2
    go_loopw [0, 5] (fun tv i w' => ∃ (k : Nat) (A' : Option Addr) (c' : Nat) (lk : List ByteArray), k ≤ kids.length ∧ tv = .slice A' lk.length c' ∧ i = .int .i64 k ∧ Hid (lk = insAll l2 (fkss (kids.take k))) ∧ Hid (StrRow base w' A' c' lk) ∧ Hid (Grew w1 w' (Value.slice A l.length c).ownBlock (Value.slice A' lk.length c').ownBlock)) (fun _ i _ => kids.length - (intOf i).toNat)
    case atStart => exact ⟨0, _, _, l2, by omega, by rw [← HEL.out], rfl, (rfl : l2 = insAll l2 (fkss (kids.take 0))), HR2.out, HG2.out⟩
    case round =>
      obtain ⟨k, A3, c3, lk, hk, rfl, rfl, HLK, HRk, HGk⟩ := hrel
      clear cP fP
      have hzr := HGk.out.size
      have Wr := Lib.hid (HGk.out.blk HO1.out W1.out)
      have HBB := Lib.hid ((HB1.out.mono (show B ≤ w.heap.size by omega)).trans ((HGk.out.below (B := base) (by omega) (fun q hq => (HR.out.lt q hq).1)).mono hB))
      obtain ⟨cP, fP⟩ := blk_rules Wr.out
      by_cases hlt : k < kids.length
      · obtain ⟨ad, y, x0, x1, x2, x3, x4, x5, x6, x7, x8, rfl, hbl, hv, hm, hd, z0, z1, z2, z3, z4, z5, z6, z7, z8⟩ := row9_at (HK.out.upto HBB.out (Nat.le_refl _)) rfl hlt
        have j0 : (0 : Int) ≤ (k : Int) := by omega
        have j1 : (k : Int) < (kids.length : Int) := by omega
        obtain ⟨g0, g1, g2, g3, g4, g5, G6, h6, i6, G7, h7, i7, G8, h8, i8, ec⟩ := filtDs_shape hv
        simp only [List.cons.injEq, and_true] at ec
        obtain ⟨rfl, rfl, rfl, rfl, rfl, rfl, rfl, rfl, rfl⟩ := ec
        have HV := Lib.hid hv
        have hro := skeys_room (lk := lk) hd.out (by rw [← HL2.out]; exact HLK.out) HC.out
        clear hv
        go_wp2_with fail
        refine (IH.out y hm [_, _, _, _, _, _, _, _, _] _ B base A3 c3 lk hB (show base ≤ wr.heap.size by omega) HV.out HRk.out hro).mono ?_
        rintro e w4 ⟨A4, c4, l4, rfl, hl4, hr4, hg4⟩
        have HL4 := Lib.hid (skeys_next hd.out HLK.out hl4.out)
        have HG4 := Lib.hid (HGk.out.trans hg4.out)
        clear hl4 hg4 z0 z1 z2 z3 z4 z5 z6 z7 z8 cP fP
        go_wp2
        go_roundw
        case rel => exact ⟨k + 1, _, _, l4, by omega, rfl, by go_num, HL4, hr4, HG4⟩
        case measure => simp [intOf]; omega
      · obtain rfl : k = kids.length := by omega
        go_wp2
        go_ret
        exact ⟨_, _, lk, rfl, (by rw [HLK.out, HL2.out, List.take_length, ← insAll_append]; rfl : lk = insAll l (fks _)), HRk.out, (Grew.of_below HB1.out _).trans HGk.out⟩
theorem sKeysF_calls : ∀ x, SKeysC 31 x := Filt.ind fun kind n s v kids ih => sKeysF_of _ fun _ _ _ _ _ e => by
  injection e with e1 e2 e3 e4 e5
  subst e5
  exact ih
end Go.Proofs.YtppfgepoegicgaaDoor
