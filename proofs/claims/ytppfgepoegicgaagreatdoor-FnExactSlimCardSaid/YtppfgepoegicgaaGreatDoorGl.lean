/- How two trees stand: plain facts for the walks. -/
import Derived.Test.YtppfgepoegicgaaGreatDoorGi
import Derived.Test.YtppfgepoegicgaaGreatDoorGaa
namespace Go.Proofs.YtppfgepoegicgaaGreatDoor
open Go Go.RowKit

theorem cmpS_self (a : ByteArray) : cmpS a a = 0 := by unfold cmpS; rw [bl_irrefl]; simp
theorem cmpS_lt {a b : ByteArray} (h : Op.bytesLess a.toList b.toList = true) : cmpS a b = -1 := by unfold cmpS; rw [if_pos h]
theorem cmpS_gt {a b : ByteArray} (h : Op.bytesLess b.toList a.toList = true) : cmpS a b = 1 := by unfold cmpS; rw [if_neg (by rw [bl_asymm h]; simp), if_pos h]
theorem cmpS_zero {a b : ByteArray} : cmpS a b = 0 ↔ a = b := by
  constructor
  · intro h
    unfold cmpS at h
    split at h
    · omega
    · split at h
      · omega
      · next h1 h2 =>
        rcases bl_tri a.toList b.toList with h3 | h3 | h3
        · exact absurd h3 h1
        · exact str_inj h3
        · exact absurd h3 h2
  · rintro rfl
    exact cmpS_self a
theorem cmpI_self (a : Int) : cmpI a a = 0 := by unfold cmpI; simp
theorem cmpI_lt {a b : Int} (h : a < b) : cmpI a b = -1 := by unfold cmpI; rw [if_pos h]
theorem cmpI_gt {a b : Int} (h : b < a) : cmpI a b = 1 := by unfold cmpI; rw [if_neg (by omega), if_pos h]
theorem cmpI_range (a b : Int) : -1 ≤ cmpI a b ∧ cmpI a b ≤ 1 := by unfold cmpI; split <;> (try split) <;> omega
theorem cmpS_range (a b : ByteArray) : -1 ≤ cmpS a b ∧ cmpS a b ≤ 1 := by unfold cmpS; split <;> (try split) <;> omega
theorem orI_zero (b : Int) : orI 0 b = b := rfl
theorem orI_ne {a : Int} (h : a ≠ 0) (b : Int) : orI a b = a := by unfold orI; rw [if_neg h]
theorem orI_range {a b : Int} (ha : -1 ≤ a ∧ a ≤ 1) (hb : -1 ≤ b ∧ b ≤ 1) : -1 ≤ orI a b ∧ orI a b ≤ 1 := by unfold orI; split <;> assumption
theorem ordS_range : ∀ a b : List ByteArray, -1 ≤ ordS a b ∧ ordS a b ≤ 1
  | [], [] => by simp [ordS]
  | [], _ :: _ => by simp [ordS]
  | _ :: _, [] => by simp [ordS]
  | a :: x, b :: y => by
    rw [ordS]
    exact orI_range (cmpS_range a b) (ordS_range x y)
mutual
theorem ordV_range : ∀ a b : Val, -1 ≤ ordV a b ∧ ordV a b ≤ 1
  | .mk k1 n1 s1 ks1 l1, .mk k2 n2 s2 ks2 l2 => by
    rw [ordV]
    exact orI_range (cmpI_range _ _) (orI_range (cmpI_range _ _) (orI_range (cmpS_range _ _) (orI_range (ordS_range _ _) (ordVs_range l1 l2))))
theorem ordVs_range : ∀ a b : List Val, -1 ≤ ordVs a b ∧ ordVs a b ≤ 1
  | [], [] => by simp [ordVs]
  | [], _ :: _ => by simp [ordVs]
  | _ :: _, [] => by simp [ordVs]
  | a :: x, b :: y => by
    rw [ordVs]
    exact orI_range (ordV_range a b) (ordVs_range x y)
end
/-- Rows that are alike up to a place: what stands from there on decides. -/
theorem ordS_drop : ∀ (a b : List ByteArray) (k : Nat), a.take k = b.take k → k ≤ a.length → k ≤ b.length → ordS a b = ordS (a.drop k) (b.drop k)
  | a, b, 0, _, _, _ => by simp
  | [], _, k + 1, _, h, _ => by simp at h
  | _ :: _, [], k + 1, _, _, h => by simp at h
  | x :: a, y :: b, k + 1, h, h1, h2 => by
    simp only [List.take_succ_cons, List.cons.injEq] at h
    obtain ⟨rfl, h⟩ := h
    rw [ordS, cmpS_self, orI_zero, ordS_drop a b k h (by simpa using h1) (by simpa using h2)]
    rfl
/-- No difference so far. -/
def OrdTo (a b : List Val) (k : Nat) : Prop := ordVs a b = ordVs (a.drop k) (b.drop k)
theorem OrdTo.zero (a b : List Val) : OrdTo a b 0 := rfl
theorem OrdTo.step {a b : List Val} {k : Nat} {x y : Val} (h : OrdTo a b k) (ha : a.drop k = x :: a.drop (k + 1)) (hb : b.drop k = y :: b.drop (k + 1)) : ordVs a b = orI (ordV x y) (ordVs (a.drop (k + 1)) (b.drop (k + 1))) := by
  unfold OrdTo at h
  rw [h, ha, hb, ordVs]
theorem OrdTo.next {a b : List Val} {k : Nat} {x y : Val} (h : OrdTo a b k) (ha : a.drop k = x :: a.drop (k + 1)) (hb : b.drop k = y :: b.drop (k + 1)) (h0 : ordV x y = 0) : OrdTo a b (k + 1) := by
  have := h.step ha hb
  rw [h0, orI_zero] at this
  exact this
theorem OrdTo.hit {a b : List Val} {k : Nat} {x y : Val} (h : OrdTo a b k) (ha : a.drop k = x :: a.drop (k + 1)) (hb : b.drop k = y :: b.drop (k + 1)) (h0 : ordV x y ≠ 0) : ordVs a b = ordV x y := by
  rw [h.step ha hb, orI_ne h0]
/-- One of the rows is at its end. -/
theorem OrdTo.done {a b : List Val} {k : Nat} (h : OrdTo a b k) (hk : k = a.length ∨ k = b.length) (ha : k ≤ a.length) (hb : k ≤ b.length) : ordVs a b = cmpI a.length b.length := by
  unfold OrdTo at h
  rw [h]
  rcases hx : a.drop k with _ | ⟨x, r⟩
  · have h1 : a.length ≤ k := List.drop_eq_nil_iff.1 hx
    rcases hy : b.drop k with _ | ⟨y, r'⟩
    · have h2 : b.length ≤ k := List.drop_eq_nil_iff.1 hy
      rw [show a.length = b.length by omega, cmpI_self, ordVs]
    · have h2 : k < b.length := by
        rcases Nat.lt_or_ge k b.length with h3 | h3
        · exact h3
        · rw [List.drop_of_length_le h3] at hy; cases hy
      rw [cmpI_lt (by omega), ordVs]
  · have h1 : k < a.length := by
      rcases Nat.lt_or_ge k a.length with h3 | h3
      · exact h3
      · rw [List.drop_of_length_le h3] at hx; cases hx
    have h2 : b.drop k = [] := List.drop_of_length_le (by omega)
    rw [h2, cmpI_gt (by omega), ordVs]
/-- The same for rows of texts. -/
def OrdSTo (a b : List ByteArray) (k : Nat) : Prop := ordS a b = ordS (a.drop k) (b.drop k)
theorem OrdSTo.zero (a b : List ByteArray) : OrdSTo a b 0 := rfl
theorem OrdSTo.step {a b : List ByteArray} {k : Nat} {x y : ByteArray} (h : OrdSTo a b k) (ha : a.drop k = x :: a.drop (k + 1)) (hb : b.drop k = y :: b.drop (k + 1)) : ordS a b = orI (cmpS x y) (ordS (a.drop (k + 1)) (b.drop (k + 1))) := by
  unfold OrdSTo at h
  rw [h, ha, hb, ordS]
theorem OrdSTo.next {a b : List ByteArray} {k : Nat} {x y : ByteArray} (h : OrdSTo a b k) (ha : a.drop k = x :: a.drop (k + 1)) (hb : b.drop k = y :: b.drop (k + 1)) (h0 : cmpS x y = 0) : OrdSTo a b (k + 1) := by
  have := h.step ha hb
  rw [h0, orI_zero] at this
  exact this
theorem OrdSTo.hit {a b : List ByteArray} {k : Nat} {x y : ByteArray} (h : OrdSTo a b k) (ha : a.drop k = x :: a.drop (k + 1)) (hb : b.drop k = y :: b.drop (k + 1)) (h0 : cmpS x y ≠ 0) : ordS a b = cmpS x y := by
  rw [h.step ha hb, orI_ne h0]
theorem OrdSTo.done {a b : List ByteArray} {k : Nat} (h : OrdSTo a b k) (hk : k = a.length ∨ k = b.length) (ha : k ≤ a.length) (hb : k ≤ b.length) : ordS a b = cmpI a.length b.length := by
  unfold OrdSTo at h
  rw [h]
  rcases hx : a.drop k with _ | ⟨x, r⟩
  · have h1 : a.length ≤ k := List.drop_eq_nil_iff.1 hx
    rcases hy : b.drop k with _ | ⟨y, r'⟩
    · have h2 : b.length ≤ k := List.drop_eq_nil_iff.1 hy
      rw [show a.length = b.length by omega, cmpI_self, ordS]
    · have h2 : k < b.length := by
        rcases Nat.lt_or_ge k b.length with h3 | h3
        · exact h3
        · rw [List.drop_of_length_le h3] at hy; cases hy
      rw [cmpI_lt (by omega), ordS]
  · have h1 : k < a.length := by
      rcases Nat.lt_or_ge k a.length with h3 | h3
      · exact h3
      · rw [List.drop_of_length_le h3] at hx; cases hx
    have h2 : b.drop k = [] := List.drop_of_length_le (by omega)
    rw [h2, cmpI_gt (by omega), ordS]
/-- The contract of a walk that tells how two trees stand. -/
def OrdC (f : Nat) (a b : Val) : Prop := ∀ (ua ub : List Value) (w : World) (B : Nat), B ≤ w.heap.size → RDv w B (valDs a) ua → RDv w B (valDs b) ub →
  Calls Tryz.prog f #[.agg ua.toArray, .agg ub.toArray] w fun e w' => e = .returned (.int .i64 (ordV a b)) ∧ Below w.heap.size w w'
end Go.Proofs.YtppfgepoegicgaaGreatDoor
namespace Go.Proofs.YtppfgepoegicgaaGreatDoor
open Go Go.RowKit

theorem texts_calls (a b : ByteArray) (w : World) : Calls Tryz.prog 91 #[.string a, .string b] w fun e w' => e = .returned (.int .i64 (cmpS a b)) ∧ w' = w := by
  by_cases h1 : Op.bytesLess a.toList b.toList = true
  · go_enter Tryz.func91, Tryz.ntmps91
    go_wp2
    go_ret
    exact ⟨by rw [cmpS_lt h1]; rfl, rfl⟩
  · have h1' : Op.bytesLess a.toList b.toList = false := by simpa using h1
    rcases bl_tri a.toList b.toList with h | h | h
    · exact absurd h h1
    · obtain rfl := str_inj h
      have d : (Op.bytesLess a.toList a.toList || a.toList == a.toList) = true := by simp
      go_enter Tryz.func91, Tryz.ntmps91
      go_wp2
      go_ret
      exact ⟨by rw [cmpS_self]; rfl, rfl⟩
    · have d : (a.toList == b.toList) = false := by
        rw [beq_eq_false_iff_ne]
        intro e
        rw [e, bl_irrefl] at h
        cases h
      have HC := Lib.hid (cmpS_gt h)
      clear h
      go_enter Tryz.func91, Tryz.ntmps91
      go_wp2
      go_ret
      exact ⟨by rw [HC.out]; rfl, rfl⟩
def minI (a b : Int) : Int := if a < b then a else b
def maxI (a b : Int) : Int := if b < a then a else b
theorem min_calls (a b : Int) (w : World) : Calls Tryz.prog 105 #[.int .i64 a, .int .i64 b] w fun e w' => e = .returned (.int .i64 (minI a b)) ∧ w' = w := by
  by_cases h : a < b
  · have HC := Lib.hid (show minI a b = a by unfold minI; rw [if_pos h])
    go_enter Tryz.func105, Tryz.ntmps105
    go_wp2
    go_ret
    exact ⟨by rw [HC.out]; rfl, rfl⟩
  · have HC := Lib.hid (show minI a b = b by unfold minI; rw [if_neg h])
    go_enter Tryz.func105, Tryz.ntmps105
    go_wp2
    go_ret
    exact ⟨by rw [HC.out]; rfl, rfl⟩
theorem max_calls (a b : Int) (w : World) : Calls Tryz.prog 104 #[.int .i64 a, .int .i64 b] w fun e w' => e = .returned (.int .i64 (maxI a b)) ∧ w' = w := by
  by_cases h : b < a
  · have HC := Lib.hid (show maxI a b = a by unfold maxI; rw [if_pos h])
    go_enter Tryz.func104, Tryz.ntmps104
    go_wp2
    go_ret
    exact ⟨by rw [HC.out]; rfl, rfl⟩
  · have HC := Lib.hid (show maxI a b = b by unfold maxI; rw [if_neg h])
    go_enter Tryz.func104, Tryz.ntmps104
    go_wp2
    go_ret
    exact ⟨by rw [HC.out]; rfl, rfl⟩
theorem sgn_len (n m : Nat) : maxI (-1) (minI 1 ((n : Int) - m)) = cmpI n m := by
  unfold maxI minI cmpI
  split <;> split <;> (try split) <;> omega

set_option maxRecDepth 100000 in
set_option maxHeartbeats 2000000 in
theorem lists_calls (ks ks' : List ByteArray) (A A' : Option Addr) (c c' : Nat) (w : World) (B : Nat) (hB : B ≤ w.heap.size) (h : RD w B (.row 1 ks.length (strDs ks)) (.slice A ks.length c)) (h' : RD w B (.row 1 ks'.length (strDs ks')) (.slice A' ks'.length c')) :
    Calls Tryz.prog 92 #[.slice A ks.length c, .slice A' ks'.length c'] w fun e w' => e = .returned (.int .i64 (ordS ks ks')) ∧ Below w.heap.size w w' := by
  have hn1 := h.len
  have hn2 := h'.len
  have HK := Lib.hid h
  have HK' := Lib.hid h'
  clear h h'
  go_enter Tryz.func92, Tryz.ntmps92
  go_wp2
  go_loopw [5] (fun i w' => ∃ (k : Nat), k ≤ ks.length ∧ k ≤ ks'.length ∧ i = .int .i64 k ∧ Hid (OrdSTo ks ks' k) ∧ Below w.heap.size w w') (fun i _ => ks.length - (intOf i).toNat)
  case atStart => exact ⟨0, by omega, by omega, rfl, OrdSTo.zero ks ks', Below.refl _ _⟩
  case round =>
    obtain ⟨k, hk, hk', rfl, HT, hb⟩ := hrel
    have hz := hb.size
    by_cases hlt : k < ks.length ∧ k < ks'.length
    · obtain ⟨hlt, hlt'⟩ := hlt
      obtain ⟨ad, s0, rfl, hbl, hc, hs0, hd⟩ := row1_at (HK.out.upto (hb.mono hB) (Nat.le_refl _)) rfl hlt
      obtain ⟨ad', s1, rfl, hbl', hc', hs1, hd'⟩ := row1_at (HK'.out.upto (hb.mono hB) (Nat.le_refl _)) rfl hlt'
      have j0 : (0 : Int) ≤ (k : Int) := by omega
      have j1 : (k : Int) < (ks.length : Int) := by omega
      have j2 : (k : Int) < (ks'.length : Int) := by omega
      obtain ⟨q, eq⟩ : ∃ q, q = cmpS s0 s1 := ⟨_, rfl⟩
      have EQ := Lib.hid eq
      go_wp2_with fail
      go_still_tail 8, (by kernel_rfl)
      change wpList _ _ _ _ _ wr.drew
      go_wp2_with fail
      refine (texts_calls s0 s1 wr.drew).mono ?_
      rintro e w1 ⟨rfl, rfl⟩
      rw [← EQ.out]
      by_cases q0 : q = 0
      · have HT2 := Lib.hid (HT.out.next hd.out hd'.out (by rw [← eq]; exact q0))
        subst q0
        clear eq
        go_wp2
        go_roundw
        case rel => exact ⟨k + 1, by omega, by omega, by go_num, HT2, below_drewN hb _⟩
        case measure => simp [intOf]; omega
      · have HT2 := Lib.hid (HT.out.hit hd.out hd'.out (by rw [← eq]; exact q0))
        have q1 : (q != 0) = true := by simpa using q0
        clear eq
        go_wp2
        go_ret
        exact ⟨by rw [HT2.out, ← EQ.out]; rfl, below_drewN hb _⟩
    · by_cases hlt2 : k < ks.length
      · have HD := Lib.hid (HT.out.done (k := k) (by omega) hk hk')
        have HS := Lib.hid (sgn_len ks.length ks'.length)
        go_wp2_with fail
        refine (min_calls 1 ((ks.length : Int) - ks'.length) _).mono ?_
        rintro e w1 ⟨rfl, rfl⟩
        go_wp2_with fail
        refine (max_calls (-1) (minI 1 ((ks.length : Int) - ks'.length)) _).mono ?_
        rintro e w1 ⟨rfl, rfl⟩
        go_wp2
        go_ret
        exact ⟨by rw [HD.out, ← HS.out]; rfl, hb⟩
      · have HD := Lib.hid (HT.out.done (k := k) (by omega) hk hk')
        have HS := Lib.hid (sgn_len ks.length ks'.length)
        go_wp2_with fail
        refine (min_calls 1 ((ks.length : Int) - ks'.length) _).mono ?_
        rintro e w1 ⟨rfl, rfl⟩
        go_wp2_with fail
        refine (max_calls (-1) (minI 1 ((ks.length : Int) - ks'.length)) _).mono ?_
        rintro e w1 ⟨rfl, rfl⟩
        go_wp2
        go_ret
        exact ⟨by rw [HD.out, ← HS.out]; rfl, hb⟩

set_option maxRecDepth 100000 in
set_option maxHeartbeats 2000000 in
theorem rows_of (l l' : List Val) (ih : ∀ x ∈ l, ∀ y, OrdC 73 x y) (A A' : Option Addr) (c c' : Nat) (w : World) (B : Nat) (hB : B ≤ w.heap.size) (h : RD w B (.row 5 l.length (valsDs l)) (.slice A l.length c)) (h' : RD w B (.row 5 l'.length (valsDs l')) (.slice A' l'.length c')) :
    Calls Tryz.prog 93 #[.slice A l.length c, .slice A' l'.length c'] w fun e w' => e = .returned (.int .i64 (ordVs l l')) ∧ Below w.heap.size w w' := by
  have hn1 := h.len
  have hn2 := h'.len
  have HK := Lib.hid h
  have HK' := Lib.hid h'
  have IH := Lib.hid ih
  clear h h' ih
  go_enter Tryz.func93, Tryz.ntmps93
  go_wp2
  go_loopw [5] (fun i w' => ∃ (k : Nat), k ≤ l.length ∧ k ≤ l'.length ∧ i = .int .i64 k ∧ Hid (OrdTo l l' k) ∧ Below w.heap.size w w') (fun i _ => l.length - (intOf i).toNat)
  case atStart => exact ⟨0, by omega, by omega, rfl, OrdTo.zero l l', Below.refl _ _⟩
  case round =>
    obtain ⟨k, hk, hk', rfl, HT, hb⟩ := hrel
    have hz := hb.size
    by_cases hlt : k < l.length ∧ k < l'.length
    · obtain ⟨hlt, hlt'⟩ := hlt
      obtain ⟨ad, v, x0, x1, x2, x3, x4, rfl, hbl, hv, hm, hd, y0, y1, y2, y3, y4⟩ := row5_at (HK.out.upto (hb.mono hB) (Nat.le_refl _)) rfl hlt
      obtain ⟨ad', v', x0', x1', x2', x3', x4', rfl, hbl', hv', hm', hd', y0', y1', y2', y3', y4'⟩ := row5_at (HK'.out.upto (hb.mono hB) (Nat.le_refl _)) rfl hlt'
      have j0 : (0 : Int) ≤ (k : Int) := by omega
      have j1 : (k : Int) < (l.length : Int) := by omega
      have j2 : (k : Int) < (l'.length : Int) := by omega
      obtain ⟨q, eq⟩ : ∃ q, q = ordV v v' := ⟨_, rfl⟩
      have EQ := Lib.hid eq
      have hD : Below wr.heap.size wr wr.drew := (Below.refl _ _).drew
      have hBr : B ≤ wr.heap.size := by omega
      go_wp2_with fail
      go_still_tail 8, (by kernel_rfl)
      change wpList _ _ _ _ _ wr.drew
      go_wp2_with fail
      refine (IH.out v hm v' _ _ wr.drew B hBr (hv.below (hD.mono hBr)) (hv'.below (hD.mono hBr))).mono ?_
      rintro e w1 ⟨rfl, hb1⟩
      rw [← EQ.out]
      have hb2 := hb.trans ((hD.trans hb1).mono hz)
      clear hD
      by_cases q0 : q = 0
      · have HT2 := Lib.hid (HT.out.next hd.out hd'.out (by rw [← eq]; exact q0))
        subst q0
        clear eq
        go_wp2
        go_roundw
        case rel => exact ⟨k + 1, by omega, by omega, by go_num, HT2, hb2⟩
        case measure => simp [intOf]; omega
      · have HT2 := Lib.hid (HT.out.hit hd.out hd'.out (by rw [← eq]; exact q0))
        have q1 : (q != 0) = true := by simpa using q0
        clear eq
        go_wp2
        go_ret
        exact ⟨by rw [HT2.out, ← EQ.out]; rfl, hb2⟩
    · by_cases hlt2 : k < l.length
      all_goals
        have HD := Lib.hid (HT.out.done (k := k) (by omega) hk hk')
        have HS := Lib.hid (sgn_len l.length l'.length)
        go_wp2_with fail
        refine (min_calls 1 ((l.length : Int) - l'.length) _).mono ?_
        rintro e w1 ⟨rfl, rfl⟩
        go_wp2_with fail
        refine (max_calls (-1) (minI 1 ((l.length : Int) - l'.length)) _).mono ?_
        rintro e w1 ⟨rfl, rfl⟩
        go_wp2
        go_ret
        exact ⟨by rw [HD.out, ← HS.out]; rfl, hb⟩

set_option maxRecDepth 100000 in
set_option maxHeartbeats 2000000 in
theorem sOrd_of (a b : Val) (ih : ∀ kind n s keys list, a = .mk kind n s keys list → ∀ x ∈ list, ∀ y, OrdC 73 x y) : OrdC 73 a b := by
  intro us us' w B hB h h'
  obtain ⟨kind, n, s, keys, list, A1, c1, A2, c2, rfl, rfl, hs, hk, hl⟩ := valDs_open h
  obtain ⟨kind', n', s', keys', list', A1', c1', A2', c2', rfl, rfl, hs', hk', hl'⟩ := valDs_open h'
  have IH := Lib.hid (ih _ _ _ _ _ rfl)
  have HK := Lib.hid hk
  have HK' := Lib.hid hk'
  have HL := Lib.hid hl
  have HL' := Lib.hid hl'
  clear ih h h' hk hk' hl hl'
  have hbx := fun o1 o2 => below_box2 w o1 o2
  by_cases t1 : kind < kind'
  · have HO := Lib.hid (show ordV (.mk kind n s keys list) (.mk kind' n' s' keys' list') = -1 by rw [ordV, cmpI_lt t1]; rfl)
    go_enter Tryz.func73, Tryz.ntmps73
    go_wp2
    go_ret
    exact ⟨by rw [HO.out]; rfl, hbx _ _⟩
  by_cases t2 : kind' < kind
  · have HO := Lib.hid (show ordV (.mk kind n s keys list) (.mk kind' n' s' keys' list') = 1 by rw [ordV, cmpI_gt t2]; rfl)
    go_enter Tryz.func73, Tryz.ntmps73
    go_wp2
    go_ret
    exact ⟨by rw [HO.out]; rfl, hbx _ _⟩
  obtain rfl : kind = kind' := by omega
  clear t1 t2
  by_cases t1 : n < n'
  · have HO := Lib.hid (show ordV (.mk kind n s keys list) (.mk kind n' s' keys' list') = -1 by rw [ordV, cmpI_self, orI_zero, cmpI_lt t1]; rfl)
    go_enter Tryz.func73, Tryz.ntmps73
    go_wp2
    go_ret
    exact ⟨by rw [HO.out]; rfl, hbx _ _⟩
  by_cases t2 : n' < n
  · have HO := Lib.hid (show ordV (.mk kind n s keys list) (.mk kind n' s' keys' list') = 1 by rw [ordV, cmpI_self, orI_zero, cmpI_gt t2]; rfl)
    go_enter Tryz.func73, Tryz.ntmps73
    go_wp2
    go_ret
    exact ⟨by rw [HO.out]; rfl, hbx _ _⟩
  obtain rfl : n = n' := by omega
  clear t1 t2
  by_cases t3 : s = s'
  case neg =>
    have d3 := str_ne t3
    have HO := Lib.hid (show ordV (.mk kind n s keys list) (.mk kind n s' keys' list') = cmpS s s' by rw [ordV, cmpI_self, orI_zero, cmpI_self, orI_zero, orI_ne (fun e => t3 (cmpS_zero.1 e))])
    go_enter Tryz.func73, Tryz.ntmps73
    go_wp2_with fail
    refine (texts_calls s s' _).mono ?_
    rintro e w1 ⟨rfl, rfl⟩
    go_wp2
    go_ret
    exact ⟨by rw [HO.out]; rfl, hbx _ _⟩
  subst t3
  have HO := Lib.hid (show ordV (.mk kind n s keys list) (.mk kind n s keys' list') = orI (ordS keys keys') (ordVs list list') by rw [ordV, cmpI_self, orI_zero, cmpI_self, orI_zero, cmpS_self, orI_zero])
  obtain ⟨q, eq⟩ : ∃ q, q = ordS keys keys' := ⟨_, rfl⟩
  have EQ := Lib.hid eq
  go_enter Tryz.func73, Tryz.ntmps73
  go_wp2_with fail
  refine (lists_calls keys keys' A1 A1' c1 c1' _ B (Nat.le_trans hB (hbx _ _).size) (HK.out.below ((hbx _ _).mono hB)) (HK'.out.below ((hbx _ _).mono hB))).mono ?_
  rintro e w1 ⟨rfl, hb1⟩
  rw [← EQ.out]
  obtain ⟨hb, hz, bP, bR⟩ := boxes2 (P := [_, _, _, _, _]) (R := [_, _, _, _, _]) (boxes2_of hb1)
  obtain ⟨cP, fP⟩ := blk_rules bP
  obtain ⟨cR, fR⟩ := blk_rules bR
  clear hb1
  by_cases q0 : q = 0
  · have HO2 := Lib.hid (show orI (ordS keys keys') (ordVs list list') = ordVs list list' by rw [← eq, q0, orI_zero])
    subst q0
    clear eq
    go_wp2_with fail
    refine (rows_of list list' IH.out A2 A2' c2 c2' _ B (by omega) (HL.out.below (hb.mono hB)) (HL'.out.below (hb.mono hB))).mono ?_
    rintro e w2 ⟨rfl, hb2⟩
    go_wp2
    go_ret
    exact ⟨by rw [HO.out, HO2.out]; rfl, hb.trans (hb2.mono (by omega))⟩
  · have q1 : (q != 0) = true := by simpa using q0
    have HO2 := Lib.hid (show orI (ordS keys keys') (ordVs list list') = q by rw [← eq, orI_ne q0])
    clear eq
    go_wp2
    go_ret
    exact ⟨by rw [HO.out, HO2.out]; rfl, hb⟩
theorem sOrd_calls : ∀ a b, OrdC 73 a b := fun v => Val.ind (P := fun v => ∀ v', OrdC 73 v v') (fun kind n s keys list ih v' => sOrd_of _ _ fun _ _ _ _ _ e => by
  injection e with e1 e2 e3 e4 e5
  subst e5
  exact ih) v
end Go.Proofs.YtppfgepoegicgaaGreatDoor
