import Derived.Test.YtppfgepoegicgaaOkName
import Derived.Test.YtppfgepoegicgaaOkMany2
namespace Go.Proofs.Ytppfgepoegicgaa
open Go Go.RowKit

def keptsCnt : List Kept → Nat
  | [] => 0
  | x :: r => valCnt x.v + keptsCnt r
def PInt (n : Nat) (w : World) (e : Ending) (w' : World) : Prop := e = .returned (.int .i64 n) ∧ Below w.heap.size w w'
theorem keptsCnt_le : ∀ (ts : List Kept), (∀ y ∈ ts, ValOk y.v) → keptsCnt ts ≤ 60 * ts.length
  | [], _ => by simp [keptsCnt]
  | x :: r, h => by
    have h1 := (h x (List.mem_cons_self)).2
    have h2 := keptsCnt_le r fun y hy => h y (List.mem_cons_of_mem _ hy)
    simp only [keptsCnt, List.length_cons]
    omega
theorem keptDs_tail {w : World} {B : Nat} {x : Kept} {a : Value} {us : List Value} (h : RDv w B (keptDs x) (a :: us)) : RDv w B (valDs x.v) us := by
  obtain ⟨us', e, _, h2⟩ := keptDs_open h
  injection e with _ e
  rw [e]; exact h2
theorem kept_name {w : World} {B : Nat} {x : Kept} {s : ByteArray} {us : List Value} (h : RDv w B (keptDs x) (.string s :: us)) : s = x.name ∧ x.name.size ≤ 9223372036854775807 := by
  obtain ⟨us', e, h1, h2⟩ := keptDs_open h
  injection e with e _
  injection e with e
  exact ⟨e, h1⟩

set_option maxRecDepth 100000 in
set_option maxHeartbeats 4000000 in
theorem iUsed_calls (x : Asker) (us : List Value) (w : World) (B : Nat) (hB : B ≤ w.heap.size) (h : RDv w B (askerDs x) us) (hC : keptsCnt x.trees ≤ 1099511627776) :
    Calls Try.prog 46 #[.agg us.toArray] w (PInt (keptsCnt x.trees) w) := by
  obtain ⟨A, c, rfl, hs, hl⟩ := askerDs_open h
  have HL := Lib.hid hl
  have hn2 := hl.len
  have HC := Lib.hid hC
  clear h hl hC
  go_enter Try.func46, Try.ntmps46
  go_wp2
  go_loopw [3, 9] (fun m i w' => ∃ (k j : Nat), k ≤ x.trees.length ∧ i = .int .i64 k ∧ m = .int .i64 j ∧ j ≤ 1099511627776 ∧ Hid (j + keptsCnt (x.trees.drop k) = keptsCnt x.trees) ∧ Below (w.heap.size + 1) (w.alloc (.cells #[.string x.name, .int .i64 x.most, .int .i64 x.fuel, .slice A x.trees.length c] 61)) w') (fun _ i _ => x.trees.length - (intOf i).toNat)
  case atStart => exact ⟨0, 0, by omega, rfl, rfl, by omega, (by simp : 0 + keptsCnt (x.trees.drop 0) = keptsCnt x.trees), Below.refl _ _⟩
  case round =>
    obtain ⟨k, j, hk, rfl, rfl, hj, HI, hb0⟩ := hrel
    obtain ⟨hb, hz, bP⟩ := boxes1 (P := [_, _, _, _]) hb0
    by_cases hlt : k < x.trees.length
    · obtain ⟨ad, v, x0, x1, x2, x3, x4, x5, rfl, hbl, hv, hm, hd1, y0, y1, y2, y3, y4, y5⟩ := row6_at (HL.out.upto (hb.mono hB) (Nat.le_refl _)) rfl hlt
      have hj2 : j + valCnt v.v ≤ 1099511627776 := by
        have h1 := HI.out
        rw [hd1.out] at h1
        simp only [keptsCnt] at h1
        have := HC.out
        omega
      have HI2 := Lib.hid (show j + valCnt v.v + keptsCnt (x.trees.drop (k + 1)) = keptsCnt x.trees by
        have h1 := HI.out
        rw [hd1.out] at h1
        simp only [keptsCnt] at h1
        omega)
      obtain ⟨a0, b0, b1, b2, A3, n3, q3, A4, n4, q4, es⟩ := keptDs_shape hv
      simp only [List.cons.injEq, and_true] at es
      obtain ⟨rfl, rfl, rfl, rfl, rfl, rfl⟩ := es
      have HV := Lib.hid (keptDs_tail hv)
      have hBr : B ≤ wr.heap.size := by omega
      have hW := fun o1 => below_box wr o1
      clear bP hv
      go_wp2_with fail
      refine (iMany_calls v.v [_, _, _, _, _] _ B (Nat.le_trans hBr (hW _).size) (HV.out.below ((hW _).mono hBr)) (by omega)).mono ?_
      rintro e w1 ⟨rfl, hb1⟩
      have hb2 := hb0.trans (((hW _).trans (hb1.mono (hW _).size)).mono hz)
      clear hW
      obtain ⟨m, em⟩ : ∃ m, m = valCnt v.v := ⟨_, rfl⟩
      rw [← em] at hj2 HI2
      rw [← em]
      have EM := Lib.hid em
      clear em
      go_wp2
      go_roundw
      case rel => exact ⟨k + 1, j + m, by omega, by go_num, by go_num, by omega, HI2, hb2⟩
      case measure => simp [intOf]; omega
    · have HE := Lib.hid (show j = keptsCnt x.trees by
        have h1 := HI.out
        rw [show k = x.trees.length by omega, List.drop_length] at h1
        simpa only [keptsCnt, Nat.add_zero] using h1)
      go_wp2
      go_ret
      exact ⟨by rw [← HE.out]; rfl, hb⟩

set_option maxRecDepth 100000 in
set_option maxHeartbeats 4000000 in
theorem sSum_calls (x : Asker) (us : List Value) (w : World) (B : Nat) (hB : B ≤ w.heap.size) (h : RDv w B (askerDs x) us) (hok : ∀ y ∈ x.trees, ValOk y.v) (hC : keptsCnt x.trees ≤ 1099511627776) :
    Calls Try.prog 48 #[.agg us.toArray] w (PInt (keptsCnt x.trees) w) := by
  obtain ⟨A, c, rfl, hs, hl⟩ := askerDs_open h
  have HL := Lib.hid hl
  have hn2 := hl.len
  have HC := Lib.hid hC
  have HO := Lib.hid hok
  clear h hl hC hok
  go_enter Try.func48, Try.ntmps48
  go_wp2
  go_loopw [3, 4] (fun m i w' => ∃ (k j : Nat), k ≤ x.trees.length ∧ i = .int .i64 k ∧ m = .int .i64 j ∧ j ≤ 1099511627776 ∧ Hid (j + keptsCnt (x.trees.drop k) = keptsCnt x.trees) ∧ Below (w.heap.size + 1) (w.alloc (.cells #[.string x.name, .int .i64 x.most, .int .i64 x.fuel, .slice A x.trees.length c] 61)) w') (fun _ i _ => x.trees.length - (intOf i).toNat)
  case atStart => exact ⟨0, 0, by omega, rfl, rfl, by omega, (by simp : 0 + keptsCnt (x.trees.drop 0) = keptsCnt x.trees), Below.refl _ _⟩
  case round =>
    obtain ⟨k, j, hk, rfl, rfl, hj, HI, hb0⟩ := hrel
    obtain ⟨hb, hz, bP⟩ := boxes1 (P := [_, _, _, _]) hb0
    obtain ⟨cP, fP⟩ := blk_rules bP
    by_cases hlt : k < x.trees.length
    · obtain ⟨ad, v, x0, x1, x2, x3, x4, x5, rfl, hbl, hv, hm, hd1, y0, y1, y2, y3, y4, y5⟩ := row6_at (HL.out.upto (hb.mono hB) (Nat.le_refl _)) rfl hlt
      have hj2 : j + valCnt v.v ≤ 1099511627776 := by
        have h1 := HI.out
        rw [hd1.out] at h1
        simp only [keptsCnt] at h1
        have := HC.out
        omega
      have HI2 := Lib.hid (show j + valCnt v.v + keptsCnt (x.trees.drop (k + 1)) = keptsCnt x.trees by
        have h1 := HI.out
        rw [hd1.out] at h1
        simp only [keptsCnt] at h1
        omega)
      obtain ⟨a0, b0, b1, b2, A3, n3, q3, A4, n4, q4, es⟩ := keptDs_shape hv
      simp only [List.cons.injEq, and_true] at es
      obtain ⟨rfl, rfl, rfl, rfl, rfl, rfl⟩ := es
      have HV := Lib.hid (keptDs_tail hv)
      have hBr : B ≤ wr.heap.size := by omega
      have j0 : (0 : Int) ≤ (k : Int) := by omega
      have j1 : (k : Int) < (x.trees.length : Int) := by omega
      have hok1 := HO.out v hm
      clear bP hv
      go_wp2_with fail
      refine (sValMany_ok v.v [_, _, _, _, _] _ B hBr HV.out hok1).mono ?_
      rintro e w1 ⟨rfl, hb1⟩
      have hb2 := hb0.trans (hb1.mono hz)
      obtain ⟨m, em⟩ : ∃ m, m = valCnt v.v := ⟨_, rfl⟩
      rw [← em] at hj2 HI2
      rw [← em]
      have EM := Lib.hid em
      clear em hok1 cP fP
      go_wp2
      go_roundw
      case rel => exact ⟨k + 1, j + m, by omega, by go_num, by go_num, by omega, HI2, hb2⟩
      case measure => simp [intOf]; omega
    · have HE := Lib.hid (show j = keptsCnt x.trees by
        have h1 := HI.out
        rw [show k = x.trees.length by omega, List.drop_length] at h1
        simpa only [keptsCnt, Nat.add_zero] using h1)
      go_wp2
      go_ret
      exact ⟨by rw [← HE.out]; rfl, hb⟩
end Go.Proofs.Ytppfgepoegicgaa
