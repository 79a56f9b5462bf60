/- The keys of a filter: the program's keys. -/
import Derived.Test.YtppfgepoegicgaaDoorZKeysDef
import Derived.Deep.DeepCutAuto
import Derived.Deep.RegionHeld3
namespace Go.Proofs.YtppfgepoegicgaaDoor
open Go Go.RowKit

set_option maxRecDepth 100000 in
set_option maxHeartbeats 8000000 in
theorem iKeys_of (x : Filt) (ih : ∀ kind n s v kids, x = .mk kind n s v kids → ∀ y ∈ kids, KeysC 32 y) : KeysC 32 x := by
  intro us w B base A c l hB hbase h hrow hC
  obtain ⟨kind, n, s, v, kids, a3, a4, a5, A6, n6, q6, A7, n7, q7, A8, q8, rfl, rfl, hs, hv, hk⟩ := filtDs_all h
  have IH := Lib.hid (ih _ _ _ _ _ rfl)
  have HK := Lib.hid hk
  have HR := Lib.hid hrow
  have HC := Lib.hid hC
  have hkn : kids.length ≤ 100 := by
    have h1 := hk.len
    have h2 := filtsCnt_len_k kids
    simp only [filtCnt] at hC
    omega
  have hln : l.length ≤ 100 := by omega
  clear ih h hv hk hs hrow hC
  obtain ⟨iS, hiS, zS0, zS1, zS2⟩ := info_parts' Tryd.info_string
  have W1 := Lib.hid (Blk.new w 36 [.int .i64 kind, .int .i64 n, .string s, .int .i64 a3, .int .i64 a4, .string a5, .slice A6 n6 q6, .slice A7 n7 q7, .slice A8 kids.length q8])
  obtain ⟨w1, e1⟩ : ∃ w1 : World, w1 = w.alloc (.cells #[.int .i64 kind, .int .i64 n, .string s, .int .i64 a3, .int .i64 a4, .string a5, .slice A6 n6 q6, .slice A7 n7 q7, .slice A8 kids.length q8] 36) := ⟨_, rfl⟩
  rw [← e1] at W1
  have HB1 := Lib.hid (show Below w.heap.size w w1 from by rw [e1]; exact below_box w _)
  have hz1 : w.heap.size + 1 = w1.heap.size := by rw [e1]; simp
  have HE := Lib.hid e1
  have hz1' := Nat.le_of_eq hz1
  have HZ1 := Lib.hid hz1
  clear e1 hz1
  have HR1 := Lib.hid (HR.out.grew HB1.out)
  have ho1 : (Value.slice A l.length c).ownBlock ≠ some w.heap.size := fun e => by have := (HR.out.lt _ e).2; omega
  have HO1 := Lib.hid ho1
  clear ho1
  by_cases h3 : kind = 3
  · subst h3
    have HRa := Lib.hid (show StrRow base (w1.alloc (.cells #[.string s] 9)) A c l from HR1.out.grew (below_box w1 _))
    have HRD := Lib.hid (show Reads (w1.alloc (.cells #[.string s] 9)) (w1.heap.size + 1) 1 (some ⟨w1.heap.size, 0, none⟩) 1 [.string s] from
      ⟨rfl, fun _ => ⟨_, rfl, by show w1.heap.size < _; omega, fun i u hi => by
        rw [show (⟨w1.heap.size, 0, none⟩ : Addr).add i = ⟨w1.heap.size, i, none⟩ by unfold Addr.add; split <;> simp_all, (Blk.new w1 9 [Value.string s]).cell]; exact hi⟩⟩)
    have HON := Lib.hid (show ∀ u ∈ [Value.string s], u.oneCell' = true from strVs_one [s])
    obtain ⟨l2, el2⟩ : ∃ l2, l2 = l ++ oneKey 3 s := ⟨_, rfl⟩
    have HL2 := Lib.hid el2
    clear el2
    go_enter Tryd.func32, Tryd.ntmps32
    go_upto_region 1 with fail
    rw [← HE.out]
    obtain ⟨cP, fP⟩ := blk_rules W1.out
    go_wp2_with (at_builtin; go_loud (refine wpList_append_reads _ rfl _ _ 22 rfl base 9 iS _ 1 16 Tryd.underlying22 hiS zS0 zS1 zS2 rfl (by decide) _ l.length _ (by rfl) HRa.out _ 1 1 (w1.heap.size + 1) [_] (by rfl) HRD.out HON.out (by unfold maxLen; omega) (by omega) (by simp <;> omega) ?_; intro v2 w2 hown2 hg2 hat2; obtain ⟨A2, c2, rfl, hr2⟩ := StrRow.of_owns (l := l2) hown2 (by rw [HL2.out]; simp [oneKey]) (by rw [HL2.out]; simp [oneKey, strVs]); have HR2 := Lib.hid hr2; have HG2 := Lib.hid ((Grew.of_below (below_box w1 _) _).trans (Grew.of_grown hg2 hat2)); have W2 := Lib.hid (HG2.out.blk HO1.out W1.out); clear hown2 hg2 hat2 hr2 cP fP; obtain ⟨cP, fP⟩ := blk_rules W2.out))
    go_loopw [1, 23] (fun tv i w' => ∃ (k : Nat) (A' : Option Addr) (c' : Nat) (lk : List ByteArray), k ≤ kids.length ∧ tv = .slice A' lk.length c' ∧ i = .int .i64 k ∧ Hid (lk = l2 ++ fkss (kids.take k)) ∧ Hid (StrRow base w' A' c' lk) ∧ Hid (Grew w1 w' (Value.slice A l.length c).ownBlock (Value.slice A' lk.length c').ownBlock)) (fun _ i _ => kids.length - (intOf i).toNat)
    case atStart => exact ⟨0, _, _, l2, by omega, rfl, rfl, (by simp [fkss] : l2 = l2 ++ fkss (kids.take 0)), HR2.out, HG2.out⟩
    case round =>
      obtain ⟨k, A3, c3, lk, hk, rfl, rfl, HLK, HRk, HGk⟩ := hrel
      clear cP fP
      have hzr := HGk.out.size
      have Wr := Lib.hid (HGk.out.blk HO1.out W1.out)
      have HBB := Lib.hid ((HB1.out.mono (show B ≤ w.heap.size by omega)).trans ((HGk.out.below (B := base) (by omega) (fun q hq => (HR.out.lt q hq).1)).mono hB))
      obtain ⟨cP, fP⟩ := blk_rules Wr.out
      by_cases hlt : k < kids.length
      · obtain ⟨ad, y, x0, x1, x2, x3, x4, x5, x6, x7, x8, rfl, hbl, hv, hm, hd, z0, z1, z2, z3, z4, z5, z6, z7, z8⟩ := row9_at (HK.out.upto HBB.out (Nat.le_refl _)) rfl hlt
        have j0 : (0 : Int) ≤ (k : Int) := by omega
        have j1 : (k : Int) < (kids.length : Int) := by omega
        obtain ⟨g0, g1, g2, g3, g4, g5, G6, h6, i6, G7, h7, i7, G8, h8, i8, ec⟩ := filtDs_shape hv
        simp only [List.cons.injEq, and_true] at ec
        obtain ⟨rfl, rfl, rfl, rfl, rfl, rfl, rfl, rfl, rfl⟩ := ec
        have hby := below_box wr (.cells #[.int .i64 g0, .int .i64 g1, .string g2, .int .i64 g3, .int .i64 g4, .string g5, .slice G6 h6 i6, .slice G7 h7 i7, .slice G8 h8 i8] 36)
        have HV := Lib.hid (hv.below (hby.mono (show B ≤ wr.heap.size by omega)))
        have HRy := Lib.hid (HRk.out.grew hby)
        have HBY := Lib.hid hby
        have hro := keys_room (lk := lk) hd.out (by rw [← HL2.out]; exact HLK.out) HC.out
        clear hv hby
        go_wp2_with fail
        refine (IH.out y hm [_, _, _, _, _, _, _, _, _] _ B base A3 c3 lk hB (Nat.le_trans (show base ≤ wr.heap.size by omega) HBY.out.size) HV.out HRy.out hro).mono ?_
        rintro e w4 ⟨A4, c4, l4, rfl, hl4, hr4, hg4⟩
        have HL4 := Lib.hid (keys_next hd.out HLK.out hl4.out)
        have HG4 := Lib.hid (HGk.out.trans ((Grew.of_below HBY.out _).trans hg4.out))
        clear hl4 hg4 z0 z1 z2 z3 z4 z5 z6 z7 z8 cP fP
        go_wp2
        go_roundw
        case rel => exact ⟨k + 1, _, _, l4, by omega, rfl, by go_num, HL4, hr4, HG4⟩
        case measure => simp [intOf]; omega
      · obtain rfl : k = kids.length := by omega
        go_wp2
        go_ret
        exact ⟨_, _, lk, rfl, (by rw [HLK.out, HL2.out, List.take_length]; simp [fks] : lk = l ++ fks _), HRk.out, (Grew.of_below HB1.out _).trans HGk.out⟩
  by_cases h21 : kind = 21
  · subst h21
    have HRa := Lib.hid (show StrRow base (w1.alloc (.cells #[.string s] 9)) A c l from HR1.out.grew (below_box w1 _))
    have HRD := Lib.hid (show Reads (w1.alloc (.cells #[.string s] 9)) (w1.heap.size + 1) 1 (some ⟨w1.heap.size, 0, none⟩) 1 [.string s] from
      ⟨rfl, fun _ => ⟨_, rfl, by show w1.heap.size < _; omega, fun i u hi => by
        rw [show (⟨w1.heap.size, 0, none⟩ : Addr).add i = ⟨w1.heap.size, i, none⟩ by unfold Addr.add; split <;> simp_all, (Blk.new w1 9 [Value.string s]).cell]; exact hi⟩⟩)
    have HON := Lib.hid (show ∀ u ∈ [Value.string s], u.oneCell' = true from strVs_one [s])
    obtain ⟨l2, el2⟩ : ∃ l2, l2 = l ++ oneKey 21 s := ⟨_, rfl⟩
    have HL2 := Lib.hid el2
    clear el2
    go_enter Tryd.func32, Tryd.ntmps32
    go_upto_region 1 with fail
    rw [← HE.out]
    obtain ⟨cP, fP⟩ := blk_rules W1.out
    go_wp2_with (at_builtin; go_loud (refine wpList_append_reads _ rfl _ _ 22 rfl base 9 iS _ 1 16 Tryd.underlying22 hiS zS0 zS1 zS2 rfl (by decide) _ l.length _ (by rfl) HRa.out _ 1 1 (w1.heap.size + 1) [_] (by rfl) HRD.out HON.out (by unfold maxLen; omega) (by omega) (by simp <;> omega) ?_; intro v2 w2 hown2 hg2 hat2; obtain ⟨A2, c2, rfl, hr2⟩ := StrRow.of_owns (l := l2) hown2 (by rw [HL2.out]; simp [oneKey]) (by rw [HL2.out]; simp [oneKey, strVs]); have HR2 := Lib.hid hr2; have HG2 := Lib.hid ((Grew.of_below (below_box w1 _) _).trans (Grew.of_grown hg2 hat2)); have W2 := Lib.hid (HG2.out.blk HO1.out W1.out); clear hown2 hg2 hat2 hr2 cP fP; obtain ⟨cP, fP⟩ := blk_rules W2.out))
    go_loopw [1, 23] (fun tv i w' => ∃ (k : Nat) (A' : Option Addr) (c' : Nat) (lk : List ByteArray), k ≤ kids.length ∧ tv = .slice A' lk.length c' ∧ i = .int .i64 k ∧ Hid (lk = l2 ++ fkss (kids.take k)) ∧ Hid (StrRow base w' A' c' lk) ∧ Hid (Grew w1 w' (Value.slice A l.length c).ownBlock (Value.slice A' lk.length c').ownBlock)) (fun _ i _ => kids.length - (intOf i).toNat)
    case atStart => exact ⟨0, _, _, l2, by omega, rfl, rfl, (by simp [fkss] : l2 = l2 ++ fkss (kids.take 0)), HR2.out, HG2.out⟩
    case round =>
      obtain ⟨k, A3, c3, lk, hk, rfl, rfl, HLK, HRk, HGk⟩ := hrel
      clear cP fP
      have hzr := HGk.out.size
      have Wr := Lib.hid (HGk.out.blk HO1.out W1.out)
      have HBB := Lib.hid ((HB1.out.mono (show B ≤ w.heap.size by omega)).trans ((HGk.out.below (B := base) (by omega) (fun q hq => (HR.out.lt q hq).1)).mono hB))
      obtain ⟨cP, fP⟩ := blk_rules Wr.out
      by_cases hlt : k < kids.length
      · obtain ⟨ad, y, x0, x1, x2, x3, x4, x5, x6, x7, x8, rfl, hbl, hv, hm, hd, z0, z1, z2, z3, z4, z5, z6, z7, z8⟩ := row9_at (HK.out.upto HBB.out (Nat.le_refl _)) rfl hlt
        have j0 : (0 : Int) ≤ (k : Int) := by omega
        have j1 : (k : Int) < (kids.length : Int) := by omega
        obtain ⟨g0, g1, g2, g3, g4, g5, G6, h6, i6, G7, h7, i7, G8, h8, i8, ec⟩ := filtDs_shape hv
        simp only [List.cons.injEq, and_true] at ec
        obtain ⟨rfl, rfl, rfl, rfl, rfl, rfl, rfl, rfl, rfl⟩ := ec
        have hby := below_box wr (.cells #[.int .i64 g0, .int .i64 g1, .string g2, .int .i64 g3, .int .i64 g4, .string g5, .slice G6 h6 i6, .slice G7 h7 i7, .slice G8 h8 i8] 36)
        have HV := Lib.hid (hv.below (hby.mono (show B ≤ wr.heap.size by omega)))
        have HRy := Lib.hid (HRk.out.grew hby)
        have HBY := Lib.hid hby
        have hro := keys_room (lk := lk) hd.out (by rw [← HL2.out]; exact HLK.out) HC.out
        clear hv hby
        go_wp2_with fail
        refine (IH.out y hm [_, _, _, _, _, _, _, _, _] _ B base A3 c3 lk hB (Nat.le_trans (show base ≤ wr.heap.size by omega) HBY.out.size) HV.out HRy.out hro).mono ?_
        rintro e w4 ⟨A4, c4, l4, rfl, hl4, hr4, hg4⟩
        have HL4 := Lib.hid (keys_next hd.out HLK.out hl4.out)
        have HG4 := Lib.hid (HGk.out.trans ((Grew.of_below HBY.out _).trans hg4.out))
        clear hl4 hg4 z0 z1 z2 z3 z4 z5 z6 z7 z8 cP fP
        go_wp2
        go_roundw
        case rel => exact ⟨k + 1, _, _, l4, by omega, rfl, by go_num, HL4, hr4, HG4⟩
        case measure => simp [intOf]; omega
      · obtain rfl : k = kids.length := by omega
        go_wp2
        go_ret
        exact ⟨_, _, lk, rfl, (by rw [HLK.out, HL2.out, List.take_length]; simp [fks] : lk = l ++ fks _), HRk.out, (Grew.of_below HB1.out _).trans HGk.out⟩
  · have c3 : (kind == 3) = false := by simpa using h3
    have c21 : (kind == 21) = false := by simpa using h21
    obtain ⟨l2, el2⟩ : ∃ l2, l2 = l := ⟨_, rfl⟩
    have HL2 := Lib.hid (show l2 = l ++ oneKey kind s by rw [el2]; unfold oneKey; rw [if_neg (by omega)]; simp)
    have HR2 := Lib.hid (show StrRow base w1 A c l2 by rw [el2]; exact HR1.out)
    have HG2 := Lib.hid (show Grew w1 w1 (Value.slice A l.length c).ownBlock (Value.slice A l2.length c).ownBlock by rw [el2]; exact Grew.of_below (Below.refl _ _) _)
    have HEL := Lib.hid el2.symm
    clear h3 h21 el2
    go_enter Tryd.func32, Tryd.ntmps32
    go_upto_region 1 with fail
    rw [← HE.out]
    obtain ⟨cP, fP⟩ := blk_rules W1.out
    go_wp2
    go_loopw [1, 23] (fun tv i w' => ∃ (k : Nat) (A' : Option Addr) (c' : Nat) (lk : List ByteArray), k ≤ kids.length ∧ tv = .slice A' lk.length c' ∧ i = .int .i64 k ∧ Hid (lk = l2 ++ fkss (kids.take k)) ∧ Hid (StrRow base w' A' c' lk) ∧ Hid (Grew w1 w' (Value.slice A l.length c).ownBlock (Value.slice A' lk.length c').ownBlock)) (fun _ i _ => kids.length - (intOf i).toNat)
    case atStart => exact ⟨0, _, _, l2, by omega, by rw [← HEL.out], rfl, (by simp [fkss] : l2 = l2 ++ fkss (kids.take 0)), HR2.out, HG2.out⟩
    case round =>
      obtain ⟨k, A3, c3, lk, hk, rfl, rfl, HLK, HRk, HGk⟩ := hrel
      clear cP fP
      have hzr := HGk.out.size
      have Wr := Lib.hid (HGk.out.blk HO1.out W1.out)
      have HBB := Lib.hid ((HB1.out.mono (show B ≤ w.heap.size by omega)).trans ((HGk.out.below (B := base) (by omega) (fun q hq => (HR.out.lt q hq).1)).mono hB))
      obtain ⟨cP, fP⟩ := blk_rules Wr.out
      by_cases hlt : k < kids.length
      · obtain ⟨ad, y, x0, x1, x2, x3, x4, x5, x6, x7, x8, rfl, hbl, hv, hm, hd, z0, z1, z2, z3, z4, z5, z6, z7, z8⟩ := row9_at (HK.out.upto HBB.out (Nat.le_refl _)) rfl hlt
        have j0 : (0 : Int) ≤ (k : Int) := by omega
        have j1 : (k : Int) < (kids.length : Int) := by omega
        obtain ⟨g0, g1, g2, g3, g4, g5, G6, h6, i6, G7, h7, i7, G8, h8, i8, ec⟩ := filtDs_shape hv
        simp only [List.cons.injEq, and_true] at ec
        obtain ⟨rfl, rfl, rfl, rfl, rfl, rfl, rfl, rfl, rfl⟩ := ec
        have hby := below_box wr (.cells #[.int .i64 g0, .int .i64 g1, .string g2, .int .i64 g3, .int .i64 g4, .string g5, .slice G6 h6 i6, .slice G7 h7 i7, .slice G8 h8 i8] 36)
        have HV := Lib.hid (hv.below (hby.mono (show B ≤ wr.heap.size by omega)))
        have HRy := Lib.hid (HRk.out.grew hby)
        have HBY := Lib.hid hby
        have hro := keys_room (lk := lk) hd.out (by rw [← HL2.out]; exact HLK.out) HC.out
        clear hv hby
        go_wp2_with fail
        refine (IH.out y hm [_, _, _, _, _, _, _, _, _] _ B base A3 c3 lk hB (Nat.le_trans (show base ≤ wr.heap.size by omega) HBY.out.size) HV.out HRy.out hro).mono ?_
        rintro e w4 ⟨A4, c4, l4, rfl, hl4, hr4, hg4⟩
        have HL4 := Lib.hid (keys_next hd.out HLK.out hl4.out)
        have HG4 := Lib.hid (HGk.out.trans ((Grew.of_below HBY.out _).trans hg4.out))
        clear hl4 hg4 z0 z1 z2 z3 z4 z5 z6 z7 z8 cP fP
        go_wp2
        go_roundw
        case rel => exact ⟨k + 1, _, _, l4, by omega, rfl, by go_num, HL4, hr4, HG4⟩
        case measure => simp [intOf]; omega
      · obtain rfl : k = kids.length := by omega
        go_wp2
        go_ret
        exact ⟨_, _, lk, rfl, (by rw [HLK.out, HL2.out, List.take_length]; simp [fks] : lk = l ++ fks _), HRk.out, (Grew.of_below HB1.out _).trans HGk.out⟩
theorem iKeys_calls : ∀ x, KeysC 32 x := Filt.ind fun kind n s v kids ih => iKeys_of _ fun _ _ _ _ _ e => by
  injection e with e1 e2 e3 e4 e5
  subst e5
  exact ih
end Go.Proofs.YtppfgepoegicgaaDoor
