import Derived.Test.YtppfgepoegicgaaOkSum
import Derived.Deep.DrawnRows
namespace Go.Proofs.Ytppfgepoegicgaa
open Go Go.RowKit

theorem nodup_take_succ {ns : List ByteArray} {s : ByteArray} {k : Nat} (h : ns[k]? = some s) : (ns.take (k + 1)).Nodup ↔ (ns.take k).Nodup ∧ s ∉ ns.take k := by
  rw [List.take_add_one, h]
  simp only [Option.toList_some, List.nodup_append, List.mem_singleton]
  constructor
  · rintro ⟨h1, _, h3⟩
    exact ⟨h1, fun hm => h3 s hm s rfl rfl⟩
  · rintro ⟨h1, h2⟩
    refine ⟨h1, by simp, fun a ha b hb e => ?_⟩
    subst hb
    subst e
    exact h2 ha
theorem nodup_at {ns : List ByteArray} {s : ByteArray} {k : Nat} (hn : ns.Nodup) (h : ns[k]? = some s) : s ∉ ns.take k :=
  ((nodup_take_succ h).1 (hn.sublist (List.take_sublist _ _))).2

def KOk (y : Kept) : Prop := NameOk y.name ∧ ValOk y.v
def AskerOk (a : Asker) : Prop := NameOk a.name ∧ (0 ≤ a.most ∧ a.most ≤ 150) ∧ (0 ≤ a.fuel ∧ a.fuel ≤ 5000) ∧ a.trees.length ≤ 4 ∧ (∀ y ∈ a.trees, KOk y) ∧ (a.trees.map (·.name)).Nodup ∧ (keptsCnt a.trees : Int) ≤ a.most

set_option maxRecDepth 100000 in
set_option maxHeartbeats 8000000 in
theorem sAsker_calls (x : Asker) (us : List Value) (w : World) (B : Nat) (hB : B ≤ w.heap.size) (h : RDv w B (askerDs x) us) (hC : ∀ y ∈ x.trees, valCnt y.v ≤ 1099511627776) :
    Calls Try.prog 40 #[.agg us.toArray] w (PBool (AskerOk x) w) := by
  obtain ⟨A, c, rfl, hs, hl⟩ := askerDs_open h
  have HX := Lib.hid h
  have HL := Lib.hid hl
  have hn2 := hl.len
  have HC := Lib.hid hC
  have hbx := fun o => below_box w o
  clear h hl hC
  by_cases tn : NameOk x.name
  case neg =>
    have HN := Lib.hid (show ¬ AskerOk x from fun h => tn h.1)
    go_enter Try.func40, Try.ntmps40
    go_wp2_with fail
    refine ((sName_calls _ _ hs).mono fun e w' h => h.false_ tn).mono ?_
    rintro e w1 ⟨rfl, rfl⟩
    go_wp2
    go_ret
    exact PBool.no HN.out (hbx _)
  by_cases m0 : x.most < 0
  case pos =>
    have HN := Lib.hid (show ¬ AskerOk x from fun h => absurd h.2.1.1 (by omega))
    go_enter Try.func40, Try.ntmps40
    go_wp2_with fail
    refine ((sName_calls _ _ hs).mono fun e w' h => h.true_ tn).mono ?_
    rintro e w1 ⟨rfl, rfl⟩
    go_wp2
    go_ret
    exact PBool.no HN.out (hbx _)
  by_cases m1 : 150 < x.most
  case pos =>
    have HN := Lib.hid (show ¬ AskerOk x from fun h => absurd h.2.1.2 (by omega))
    go_enter Try.func40, Try.ntmps40
    go_wp2_with fail
    refine ((sName_calls _ _ hs).mono fun e w' h => h.true_ tn).mono ?_
    rintro e w1 ⟨rfl, rfl⟩
    go_wp2
    go_ret
    exact PBool.no HN.out (hbx _)
  by_cases f0 : x.fuel < 0
  case pos =>
    have HN := Lib.hid (show ¬ AskerOk x from fun h => absurd h.2.2.1.1 (by omega))
    go_enter Try.func40, Try.ntmps40
    go_wp2_with fail
    refine ((sName_calls _ _ hs).mono fun e w' h => h.true_ tn).mono ?_
    rintro e w1 ⟨rfl, rfl⟩
    go_wp2
    go_ret
    exact PBool.no HN.out (hbx _)
  by_cases f1 : 5000 < x.fuel
  case pos =>
    have HN := Lib.hid (show ¬ AskerOk x from fun h => absurd h.2.2.1.2 (by omega))
    go_enter Try.func40, Try.ntmps40
    go_wp2_with fail
    refine ((sName_calls _ _ hs).mono fun e w' h => h.true_ tn).mono ?_
    rintro e w1 ⟨rfl, rfl⟩
    go_wp2
    go_ret
    exact PBool.no HN.out (hbx _)
  by_cases n1 : 4 < x.trees.length
  case pos =>
    have HN := Lib.hid (show ¬ AskerOk x from fun h => absurd h.2.2.2.1 (by omega))
    go_enter Try.func40, Try.ntmps40
    go_wp2_with fail
    refine ((sName_calls _ _ hs).mono fun e w' h => h.true_ tn).mono ?_
    rintro e w1 ⟨rfl, rfl⟩
    go_wp2
    go_ret
    exact PBool.no HN.out (hbx _)
  have HA := Lib.hid (show (∀ y ∈ x.trees, KOk y) → (x.trees.map (·.name)).Nodup → (AskerOk x ↔ (keptsCnt x.trees : Int) ≤ x.most) from fun h1 h2 =>
    ⟨fun h => h.2.2.2.2.2.2, fun h => ⟨tn, ⟨by omega, by omega⟩, ⟨by omega, by omega⟩, by omega, h1, h2, h⟩⟩)
  go_enter Try.func40, Try.ntmps40
  go_wp2_with fail
  refine ((sName_calls _ _ hs).mono fun e w' h => h.true_ tn).mono ?_
  rintro e w1 ⟨rfl, rfl⟩
  go_wp2
  clear tn m0 m1 f0 f1 hbx
  go_loopw [3] (fun i w' => ∃ (k : Nat), k ≤ x.trees.length ∧ i = .int .i64 k ∧ Hid (∀ y ∈ x.trees.take k, KOk y) ∧ Hid (((x.trees.map (·.name)).take k).Nodup) ∧ Below (w.heap.size + 1) (w.alloc (.cells #[.string x.name, .int .i64 x.most, .int .i64 x.fuel, .slice A x.trees.length c] 61)) w') (fun i _ => x.trees.length - (intOf i).toNat)
  case atStart => exact ⟨0, by omega, rfl, (by simp : ∀ y ∈ x.trees.take 0, KOk y), (by simp : ((x.trees.map (·.name)).take 0).Nodup), Below.refl _ _⟩
  case round =>
    obtain ⟨k, hk, rfl, HK, HD, hb0⟩ := hrel
    obtain ⟨hb, hz, bP⟩ := boxes1 (P := [_, _, _, _]) hb0
    obtain ⟨cP, fP⟩ := blk_rules bP
    by_cases hlt : k < x.trees.length
    · obtain ⟨ad, v, x0, x1, x2, x3, x4, x5, rfl, hbl, hv, hm, hd1, y0, y1, y2, y3, y4, y5⟩ := row6_at (HL.out.upto (hb.mono hB) (Nat.le_refl _)) rfl hlt
      have HM := Lib.hid (names_at (f := fun x : Kept => x.name) hd1.out)
      obtain ⟨a0, b0, b1, b2, A3, n3, q3, A4, n4, q4, es⟩ := keptDs_shape hv
      simp only [List.cons.injEq, and_true] at es
      obtain ⟨rfl, rfl, rfl, rfl, rfl, rfl⟩ := es
      have HV := Lib.hid (keptDs_tail hv)
      obtain ⟨rfl, hvs⟩ := kept_name hv
      have hC1 := HC.out v hm
      have hBr : B ≤ wr.heap.size := by omega
      have j0 : (0 : Int) ≤ (k : Int) := by omega
      have j1 : (k : Int) < (x.trees.length : Int) := by omega
      clear bP hv
      by_cases kn : NameOk v.name
      case neg =>
        have HN := Lib.hid (show ¬ AskerOk x from fun h => kn (h.2.2.2.2.1 v hm).1)
        go_wp2_with fail
        refine ((sName_calls _ _ hvs).mono fun e w' h => h.false_ kn).mono ?_
        rintro e w1 ⟨rfl, rfl⟩
        go_wp2
        go_ret
        exact PBool.no HN.out hb
      go_wp2_with fail
      refine ((sName_calls _ _ hvs).mono fun e w' h => h.true_ kn).mono ?_
      rintro e w1 ⟨rfl, rfl⟩
      go_wp2_with fail
      refine (sValOk_calls v.v [_, _, _, _, _] _ B hBr HV.out hC1).mono ?_
      rintro e w2 ⟨r, rfl, hr, hb1⟩
      have HR := Lib.hid hr
      have hb2 := hb0.trans (hb1.mono hz)
      have KN := Lib.hid kn
      clear hr hb1 cP fP kn y0 y1 y2 y3 y4 y5 hC1
      cases r with
      | false =>
        have HN := Lib.hid (show ¬ AskerOk x from fun h => absurd (HR.out.2 (h.2.2.2.2.1 v hm).2) (by simp))
        have hb3 := (boxes1 (P := [_, _, _, _]) hb2).1
        go_wp2
        go_ret
        exact PBool.no HN.out hb3
      | true =>
        have HK3 := Lib.hid ((take_all_succ hd1.out).2 ⟨HK.out, ⟨KN.out, HR.out.1 rfl⟩⟩)
        go_wp2
        go_loopw [4] (fun i w' => ∃ (j : Nat), j ≤ k ∧ i = .int .i64 j ∧ Hid (v.name ∉ (x.trees.map (·.name)).take j) ∧ Below (w.heap.size + 1) (w.alloc (.cells #[.string x.name, .int .i64 x.most, .int .i64 x.fuel, .slice (some ad) x.trees.length c] 61)) w') (fun i _ => k - (intOf i).toNat)
        case atStart => exact ⟨0, by omega, rfl, (by simp : v.name ∉ (x.trees.map (·.name)).take 0), hb2⟩
        case round =>
          clear hb2 hb hz hb0
          obtain ⟨j, hj, rfl, HJ, hb2⟩ := hrel
          obtain ⟨hb, hz, bP⟩ := boxes1 (P := [_, _, _, _]) hb2
          obtain ⟨cP, fP⟩ := blk_rules bP
          have i0 : (0 : Int) ≤ (j : Int) := by omega
          by_cases hlt2 : j < k
          · obtain ⟨ad', v', x0', x1', x2', x3', x4', x5', ea, hbl', hv', hm', hd1', y0', y1', y2', y3', y4', y5'⟩ := row6_at (HL.out.upto (hb.mono hB) (Nat.le_refl _)) rfl (show j < x.trees.length by omega)
            injection ea with ea
            subst ea
            obtain ⟨ad', v2, z0', z1', z2', z3', z4', z5', ea, hbl2, hv2, hm2, hd2, z0, z1, z2, z3, z4, z5⟩ := row6_at (HL.out.upto (hb.mono hB) (Nat.le_refl _)) rfl hlt
            injection ea with ea
            subst ea
            obtain rfl : v = v2 := by
              have h1 := hd1.out
              rw [hd2.out] at h1
              injection h1 with h1
              exact h1.symm
            obtain ⟨a0, b0, b1, b2, A3, n3, q3, A4, n4, q4, es⟩ := keptDs_shape hv'
            simp only [List.cons.injEq, and_true] at es
            obtain ⟨rfl, rfl, rfl, rfl, rfl, rfl⟩ := es
            obtain ⟨rfl, hvs'⟩ := kept_name hv'
            obtain ⟨a0, b0, b1, b2, A3, n3, q3, A4, n4, q4, es⟩ := keptDs_shape hv2
            simp only [List.cons.injEq, and_true] at es
            obtain ⟨rfl, rfl, rfl, rfl, rfl, rfl⟩ := es
            obtain ⟨rfl, hvs2⟩ := kept_name hv2
            have HM' := Lib.hid (names_at (f := fun x : Kept => x.name) hd1'.out)
            have i1 : (j : Int) < (x.trees.length : Int) := by omega
            have hltI : (j : Int) < (k : Int) := by omega
            clear hv' hv2 hd1' hd2 y1' y2' y3' y4' y5' z1 z2 z3 z4 z5 bP
            by_cases t : v'.name = v.name
            · have HN := Lib.hid (show ¬ AskerOk x from fun h => nodup_at h.2.2.2.2.2.1 HM.out (by rw [← t]; exact mem_of_take HM'.out hlt2))
              rw [t] at y0'
              clear HM'
              go_wp2
              go_quiet (fail)
              go_wp2
              go_ret
              exact PBool.no HN.out (below_drewN hb _)
            · have d6 := str_ne t
              have HJ3 := Lib.hid (First.step HM'.out t HJ.out)
              clear HM' HJ
              go_wp2
              go_quiet (fail)
              go_wp2
              go_roundw
              case rel => exact ⟨j + 1, by omega, by go_num, HJ3, below_drewN hb2 _⟩
              case measure => simp [intOf]; omega
          · have hjk : ¬ (j : Int) < (k : Int) := by omega
            have HD3 := Lib.hid ((nodup_take_succ HM.out).2 ⟨HD.out, by have := HJ.out; rwa [show j = k by omega] at this⟩)
            clear HJ
            go_wp2
            go_roundw
            case rel => exact ⟨k + 1, by omega, by go_num, HK3, HD3, hb2⟩
            case measure => simp [intOf]; omega
    · have HK3 := Lib.hid (show ∀ y ∈ x.trees, KOk y by have := HK.out; rwa [show k = x.trees.length by omega, List.take_length] at this)
      have HD3 := Lib.hid (show (x.trees.map (·.name)).Nodup by have := HD.out; rwa [show k = (x.trees.map (·.name)).length by simp; omega, List.take_length] at this)
      have HA2 := Lib.hid (HA.out HK3.out HD3.out)
      have hsum : keptsCnt x.trees ≤ 1099511627776 := by
        have := keptsCnt_le x.trees fun y hy => (HK3.out y hy).2
        omega
      have OKV := Lib.hid (show ∀ y ∈ x.trees, ValOk y.v from fun y hy => (HK3.out y hy).2)
      clear HK HD HA
      obtain ⟨m, em⟩ : ∃ m, m = keptsCnt x.trees := ⟨_, rfl⟩
      have EM := Lib.hid em
      rw [← em] at HA2
      clear em
      have K2 := Lib.hid (show Has [(w.heap.size, [.string x.name, .int .i64 x.most, .int .i64 x.fuel, .slice A x.trees.length c])] wr.drew from
        Has.cons (Nat.lt_of_lt_of_le (by omega) (Nat.le_refl wr.heap.size)) (fun i u hu => (cP i).trans hu) (Has.nil _))
      have D2 := Lib.hid (show Below wr.heap.size wr wr.drew from (Below.refl _ _).drew)
      have HX2 := Lib.hid (HX.out.below ((hb.trans (D2.out.mono (by omega))).mono hB))
      have hBw : B ≤ wr.drew.heap.size := Nat.le_trans (Nat.le_trans hB hb.size) (Nat.le_refl _)
      by_cases tm : (m : Int) ≤ x.most
      all_goals
        go_wp2_with fail
        have k0 := K2.out.head 0 rfl
        have k1 := K2.out.head 1 rfl
        have k2 := K2.out.head 2 rfl
        have k3 := K2.out.head 3 rfl
        clear cP fP
        go_region_held3 (fun w' => w'.cell? ⟨w.heap.size, 0, none⟩ = some (.string x.name) ∧ w'.cell? ⟨w.heap.size, 1, none⟩ = some (.int .i64 x.most) ∧ w'.cell? ⟨w.heap.size, 2, none⟩ = some (.int .i64 x.fuel) ∧ w'.cell? ⟨w.heap.size, 3, none⟩ = some (.slice A x.trees.length c))
          (first | go_keep | exact ⟨K3.out.head 0 rfl, K3.out.head 1 rfl, K3.out.head 2 rfl, K3.out.head 3 rfl⟩)
          (first
            | (go_at_call 48; ((with_reducible refine (sSum_calls x [.string x.name, .int .i64 x.most, .int .i64 x.fuel, .slice A x.trees.length c] wr.drew B hBw HX2.out OKV.out hsum).mono ?_); rintro e w3 ⟨rfl, hb3⟩; rw [← EM.out]; have K3 := Lib.hid (K2.out.below hb3))))
        go_wp2
        go_ret
        exact ⟨_, rfl, by rw [HA2.out]; simp [tm], hb.trans ((D2.out.trans (hb3.mono D2.out.size)).mono (by omega))⟩
end Go.Proofs.Ytppfgepoegicgaa
