/- How two trees stand: the program's ValOrder. -/
import Derived.Test.YtppfgepoegicgaaGreatDoorGl
import Derived.Test.YtppfgepoegicgaaGreatDoorGaa
import Derived.Deep.DeepCutAuto
import Derived.Deep.RegionHeld3
namespace Go.Proofs.YtppfgepoegicgaaGreatDoor
open Go Go.RowKit

theorem cmpInt_calls (a b : Int) (w : World) : Calls Tryz.prog 84 #[.int .i64 a, .int .i64 b] w fun e w' => e = .returned (.int .i64 (cmpI a b)) ∧ w' = w := by
  by_cases h1 : a < b
  · have HC := Lib.hid (cmpI_lt h1)
    go_enter Tryz.func84, Tryz.ntmps84
    go_wp2
    go_ret
    exact ⟨by rw [HC.out]; rfl, rfl⟩
  by_cases h2 : b < a
  · have HC := Lib.hid (cmpI_gt h2)
    go_enter Tryz.func84, Tryz.ntmps84
    go_wp2
    go_ret
    exact ⟨by rw [HC.out]; rfl, rfl⟩
  obtain rfl : a = b := by omega
  have HC := Lib.hid (cmpI_self a)
  go_enter Tryz.func84, Tryz.ntmps84
  go_wp2
  go_ret
  exact ⟨by rw [HC.out]; rfl, rfl⟩
theorem cmpStr_calls (a b : ByteArray) (w : World) : Calls Tryz.prog 85 #[.string a, .string b] w fun e w' => e = .returned (.int .i64 (cmpS a b)) ∧ w' = w := by
  by_cases h1 : Op.bytesLess a.toList b.toList = true
  · have HC := Lib.hid (cmpS_lt h1)
    go_enter Tryz.func85, Tryz.ntmps85
    go_wp2
    go_ret
    exact ⟨by rw [HC.out]; rfl, rfl⟩
  have h1' : Op.bytesLess a.toList b.toList = false := by simpa using h1
  rcases bl_tri a.toList b.toList with h | h | h
  · exact absurd h h1
  · obtain rfl := str_inj h
    have HC := Lib.hid (cmpS_self a)
    clear h h1
    go_enter Tryz.func85, Tryz.ntmps85
    go_wp2
    go_ret
    exact ⟨by rw [HC.out]; rfl, rfl⟩
  · have HC := Lib.hid (cmpS_gt h)
    have d : (a.toList == b.toList) = false := by
      rw [beq_eq_false_iff_ne]
      intro e
      rw [e, bl_irrefl] at h
      cases h
    clear h h1
    go_enter Tryz.func85, Tryz.ntmps85
    go_wp2
    go_ret
    exact ⟨by rw [HC.out]; rfl, rfl⟩
theorem cmpI_nat (n m : Nat) : (n < m → cmpI n m = -1) ∧ (m < n → cmpI n m = 1) ∧ (n = m → cmpI n m = 0) := ⟨fun h => cmpI_lt (by omega), fun h => cmpI_gt (by omega), fun h => by rw [h, cmpI_self]⟩

set_option maxRecDepth 100000 in
set_option maxHeartbeats 2000000 in
theorem compare_calls (ks ks' : List ByteArray) (A A' : Option Addr) (c c' : Nat) (w : World) (B : Nat) (hB : B ≤ w.heap.size) (h : RD w B (.row 1 ks.length (strDs ks)) (.slice A ks.length c)) (h' : RD w B (.row 1 ks'.length (strDs ks')) (.slice A' ks'.length c')) :
    Calls Tryz.prog 86 #[.slice A ks.length c, .slice A' ks'.length c'] w fun e w' => e = .returned (.int .i64 (ordS ks ks')) ∧ Below w.heap.size w w' := by
  have hn1 := h.len
  have hn2 := h'.len
  have HK := Lib.hid h
  have HK' := Lib.hid h'
  clear h h'
  go_enter Tryz.func86, Tryz.ntmps86
  go_wp2
  go_loopw [11] (fun i w' => ∃ (k : Nat), k ≤ ks.length ∧ k ≤ ks'.length ∧ i = .int .i64 k ∧ Hid (OrdSTo ks ks' k) ∧ Below w.heap.size w w') (fun i _ => ks.length - (intOf i).toNat)
  case atStart => exact ⟨0, by omega, by omega, rfl, OrdSTo.zero ks ks', Below.refl _ _⟩
  case round =>
    obtain ⟨k, hk, hk', rfl, HT, hb⟩ := hrel
    have hz := hb.size
    by_cases hlt : k < ks.length
    · have j0 : (0 : Int) ≤ (k : Int) := by omega
      have j1 : (k : Int) < (ks.length : Int) := by omega
      obtain ⟨ad, s0, rfl, hbl, hc, hs0, hd⟩ := row1_at (HK.out.upto (hb.mono hB) (Nat.le_refl _)) rfl hlt
      by_cases hlt' : k < ks'.length
      · obtain ⟨ad', s1, rfl, hbl', hc', hs1, hd'⟩ := row1_at (HK'.out.upto (hb.mono hB) (Nat.le_refl _)) rfl hlt'
        have j2 : (k : Int) < (ks'.length : Int) := by omega
        obtain ⟨q, eq⟩ : ∃ q, q = cmpS s0 s1 := ⟨_, rfl⟩
        have EQ := Lib.hid eq
        go_wp2_with fail
        refine (cmpStr_calls s0 s1 _).mono ?_
        rintro e w1 ⟨rfl, rfl⟩
        rw [← EQ.out]
        by_cases q0 : q = 0
        · have HT2 := Lib.hid (HT.out.next hd.out hd'.out (by rw [← eq]; exact q0))
          subst q0
          clear eq
          go_wp2
          go_roundw
          case rel => exact ⟨k + 1, by omega, by omega, by go_num, HT2, hb⟩
          case measure => simp [intOf]; omega
        · have HT2 := Lib.hid (HT.out.hit hd.out hd'.out (by rw [← eq]; exact q0))
          have q1 : (q != 0) = true := by simpa using q0
          clear eq
          go_wp2
          go_ret
          exact ⟨by rw [HT2.out, ← EQ.out]; rfl, hb⟩
      · have HD := Lib.hid ((HT.out.done (k := k) (by omega) hk hk').trans ((cmpI_nat _ _).2.1 (by omega)))
        go_wp2
        go_ret
        exact ⟨by rw [HD.out]; rfl, hb⟩
    · by_cases hlt' : ks.length < ks'.length
      · have HD := Lib.hid ((HT.out.done (k := k) (by omega) hk hk').trans ((cmpI_nat _ _).1 hlt'))
        go_wp2
        go_ret
        exact ⟨by rw [HD.out]; rfl, hb⟩
      · have HD := Lib.hid ((HT.out.done (k := k) (by omega) hk hk').trans ((cmpI_nat _ _).2.2 (by omega)))
        go_wp2
        go_ret
        exact ⟨by rw [HD.out]; rfl, hb⟩

set_option maxRecDepth 100000 in
set_option maxHeartbeats 2000000 in
theorem compareFunc_of (vs vs' : List Val) (ih : ∀ x ∈ vs, ∀ y, OrdC 67 x y) (A A' : Option Addr) (c c' : Nat) (w : World) (B : Nat) (hB : B ≤ w.heap.size) (h : RD w B (.row 5 vs.length (valsDs vs)) (.slice A vs.length c)) (h' : RD w B (.row 5 vs'.length (valsDs vs')) (.slice A' vs'.length c')) :
    Calls Tryz.prog 87 #[.slice A vs.length c, .slice A' vs'.length c', .func (.func 67) #[] #[]] w fun e w' => e = .returned (.int .i64 (ordVs vs vs')) ∧ Below w.heap.size w w' := by
  have hn1 := h.len
  have hn2 := h'.len
  have HL := Lib.hid h
  have HL' := Lib.hid h'
  have IH := Lib.hid ih
  clear h h' ih
  go_enter Tryz.func87, Tryz.ntmps87
  go_wp2
  go_loopw [13] (fun i w' => ∃ (k : Nat), k ≤ vs.length ∧ k ≤ vs'.length ∧ i = .int .i64 k ∧ Hid (OrdTo vs vs' k) ∧ Below w.heap.size w w') (fun i _ => vs.length - (intOf i).toNat)
  case atStart => exact ⟨0, by omega, by omega, rfl, OrdTo.zero vs vs', Below.refl _ _⟩
  case round =>
    obtain ⟨k, hk, hk', rfl, HT, hb⟩ := hrel
    have hz := hb.size
    by_cases hlt : k < vs.length
    · have j0 : (0 : Int) ≤ (k : Int) := by omega
      have j1 : (k : Int) < (vs.length : Int) := by omega
      obtain ⟨ad, v, c0, c1, c2, c3, c4, rfl, hbl, hv, hm, hd, x0, x1, x2, x3, x4⟩ := row5_at (HL.out.upto (hb.mono hB) (Nat.le_refl _)) rfl hlt
      have HV := Lib.hid hv
      obtain ⟨a0, a1, a2, A3, n3, q3, A4, n4, q4, es⟩ := valDs_shape hv
      simp only [List.cons.injEq, and_true] at es
      obtain ⟨rfl, rfl, rfl, rfl, rfl⟩ := es
      clear hv
      by_cases hlt' : k < vs'.length
      · obtain ⟨ad', v', c0', c1', c2', c3', c4', rfl, hbl', hv', hm', hd', x0', x1', x2', x3', x4'⟩ := row5_at (HL'.out.upto (hb.mono hB) (Nat.le_refl _)) rfl hlt'
        have HV' := Lib.hid hv'
        have j2 : (k : Int) < (vs'.length : Int) := by omega
        have hBr : B ≤ wr.heap.size := by omega
        obtain ⟨a0', a1', a2', A3', n3', q3', A4', n4', q4', es'⟩ := valDs_shape hv'
        simp only [List.cons.injEq, and_true] at es'
        obtain ⟨rfl, rfl, rfl, rfl, rfl⟩ := es'
        have hbl2 : (ad'.add (k * 5)).block < wr.heap.size := by rw [block_of_add]; omega
        have z0 := fun o => (World.cell?_alloc_lt wr o (ad'.add (k * 5)) hbl2).trans x0'
        have z1 := fun o => (World.cell?_alloc_lt wr o ⟨(ad'.add (k * 5)).block, (ad'.add (k * 5)).off + 1, none⟩ hbl2).trans x1'
        have z2 := fun o => (World.cell?_alloc_lt wr o ⟨(ad'.add (k * 5)).block, (ad'.add (k * 5)).off + 2, none⟩ hbl2).trans x2'
        have z3 := fun o => (World.cell?_alloc_lt wr o ⟨(ad'.add (k * 5)).block, (ad'.add (k * 5)).off + 3, none⟩ hbl2).trans x3'
        have z4 := fun o => (World.cell?_alloc_lt wr o ⟨(ad'.add (k * 5)).block, (ad'.add (k * 5)).off + 4, none⟩ hbl2).trans x4'
        clear hv'
        obtain ⟨q, eq⟩ : ∃ q, q = ordV v v' := ⟨_, rfl⟩
        have EQ := Lib.hid eq
        go_wp2_with fail
        have hW := fun o1 o2 => below_box2 wr o1 o2
        refine (IH.out v hm v' [_, _, _, _, _] [_, _, _, _, _] _ B (Nat.le_trans hBr (hW _ _).size) (HV.out.below ((hW _ _).mono hBr)) (HV'.out.below ((hW _ _).mono hBr))).mono ?_
        rintro e w1 ⟨rfl, hb1⟩
        rw [← EQ.out]
        have hb2 := hb.trans (((hW _ _).trans (hb1.mono (hW _ _).size)).mono hz)
        clear hW hb1
        by_cases q0 : q = 0
        · have HT2 := Lib.hid (HT.out.next hd.out hd'.out (by rw [← eq]; exact q0))
          subst q0
          clear eq
          go_wp2
          go_roundw
          case rel => exact ⟨k + 1, by omega, by omega, by go_num, HT2, hb2⟩
          case measure => simp [intOf]; omega
        · have HT2 := Lib.hid (HT.out.hit hd.out hd'.out (by rw [← eq]; exact q0))
          have q1 : (q != 0) = true := by simpa using q0
          clear eq
          go_wp2
          go_ret
          exact ⟨by rw [HT2.out, ← EQ.out]; rfl, hb2⟩
      · have HD := Lib.hid ((HT.out.done (k := k) (by omega) hk hk').trans ((cmpI_nat _ _).2.1 (by omega)))
        have hX := fun o1 => below_box wr o1
        go_wp2
        go_ret
        exact ⟨by rw [HD.out]; rfl, hb.trans ((hX _).mono hz)⟩
    · by_cases hlt' : vs.length < vs'.length
      · have HD := Lib.hid ((HT.out.done (k := k) (by omega) hk hk').trans ((cmpI_nat _ _).1 hlt'))
        go_wp2
        go_ret
        exact ⟨by rw [HD.out]; rfl, hb⟩
      · have HD := Lib.hid ((HT.out.done (k := k) (by omega) hk hk').trans ((cmpI_nat _ _).2.2 (by omega)))
        go_wp2
        go_ret
        exact ⟨by rw [HD.out]; rfl, hb⟩

/-- A row of numbers that is read. -/
def IntsAt (w : World) (A : Option Addr) (l : List Int) : Prop := 0 < l.length → ∃ g, A = some ⟨g, 0, none⟩ ∧ ∀ i t, l[i]? = some t → w.cell? ⟨g, i, none⟩ = some (.int .i64 t)
def orL : List Int → Int
  | [] => 0
  | a :: r => orI a (orL r)
set_option maxRecDepth 100000 in
set_option maxHeartbeats 2000000 in
theorem or_calls (l : List Int) (A : Option Addr) (c : Nat) (w : World) (hl : l.length ≤ 1000) (h : IntsAt w A l) :
    Calls Tryz.prog 83 #[.slice A l.length c] w fun e w' => e = .returned (.int .i64 (orL l)) ∧ w' = w := by
  have H := Lib.hid h
  clear h
  go_enter Tryz.func83, Tryz.ntmps83
  go_wp2
  go_loopw [8] (fun i w' => ∃ (k : Nat), k ≤ l.length ∧ i = .int .i64 k ∧ Hid (orL l = orL (l.drop k)) ∧ w' = w) (fun i _ => l.length - (intOf i).toNat)
  case atStart => exact ⟨0, by omega, rfl, (rfl : orL l = orL (l.drop 0)), rfl⟩
  case round =>
    obtain ⟨k, hk, rfl, HT, rfl⟩ := hrel
    by_cases hlt : k < l.length
    · obtain ⟨g, rfl, hc⟩ := H.out (by omega)
      obtain ⟨t, et⟩ : ∃ t, t = l[k] := ⟨_, rfl⟩
      have y0 : wr.cell? ⟨g, k, none⟩ = some (.int .i64 t) := hc k t (by rw [List.getElem?_eq_getElem hlt, et])
      have HD := Lib.hid (show orL l = orI t (orL (l.drop (k + 1))) by rw [HT.out, List.drop_eq_getElem_cons hlt, ← et]; rfl)
      have j0 : (0 : Int) ≤ (k : Int) := by omega
      have j1 : (k : Int) < (l.length : Int) := by omega
      clear hc et
      by_cases t0 : t = 0
      · have HT2 := Lib.hid (show orL l = orL (l.drop (k + 1)) by rw [HD.out, t0, orI_zero])
        subst t0
        go_wp2
        go_roundw
        case rel => exact ⟨k + 1, by omega, by go_num, HT2, trivial⟩
        case measure => simp [intOf]; omega
      · have HT2 := Lib.hid (show orL l = t by rw [HD.out, orI_ne t0])
        have t1 : (t != 0) = true := by simpa using t0
        clear t0
        go_wp2
        go_ret
        exact ⟨by rw [HT2.out]; rfl, rfl⟩
    · have HT2 := Lib.hid (show orL l = 0 by rw [HT.out, List.drop_of_length_le (by omega)]; rfl)
      go_wp2
      go_ret
      exact ⟨by rw [HT2.out]; rfl, rfl⟩
end Go.Proofs.YtppfgepoegicgaaGreatDoor
namespace Go.Proofs.YtppfgepoegicgaaGreatDoor
open Go Go.RowKit

theorem or5_calls (a b c d e : Int) (w : World) : Calls Tryz.prog 83 #[.slice (some ⟨w.heap.size, 0, none⟩) 5 5] (w.alloc (.cells #[.int .i64 a, .int .i64 b, .int .i64 c, .int .i64 d, .int .i64 e] 3)) fun r w' => r = .returned (.int .i64 (orL [a, b, c, d, e])) ∧ w' = w.alloc (.cells #[.int .i64 a, .int .i64 b, .int .i64 c, .int .i64 d, .int .i64 e] 3) :=
  or_calls [a, b, c, d, e] (some ⟨w.heap.size, 0, none⟩) 5 _ (by simp) fun _ => ⟨_, rfl, fun i t ht => by
    have := (Blk.new w 3 [.int .i64 a, .int .i64 b, .int .i64 c, .int .i64 d, .int .i64 e]).cell i
    refine this.trans ?_
    match i, ht with
    | 0, ht => simpa using ht
    | 1, ht => simpa using ht
    | 2, ht => simpa using ht
    | 3, ht => simpa using ht
    | 4, ht => simpa using ht
    | i + 5, ht => simp at ht⟩
set_option maxRecDepth 100000 in
set_option maxHeartbeats 4000000 in
theorem iOrd_of (a b : Val) (ih : ∀ kind n s keys list, a = .mk kind n s keys list → ∀ x ∈ list, ∀ y, OrdC 67 x y) : OrdC 67 a b := by
  intro us us' w B hB h h'
  obtain ⟨kind, n, s, keys, list, A1, c1, A2, c2, rfl, rfl, hs, hk, hl⟩ := valDs_open h
  obtain ⟨kind', n', s', keys', list', A1', c1', A2', c2', rfl, rfl, hs', hk', hl'⟩ := valDs_open h'
  have IH := Lib.hid (ih _ _ _ _ _ rfl)
  have HK := Lib.hid hk
  have HK' := Lib.hid hk'
  have HL := Lib.hid hl
  have HL' := Lib.hid hl'
  clear ih h h' hk hk' hl hl'
  obtain ⟨W1, EW⟩ : ∃ W1 : World, W1 = (w.alloc (.cells #[.int .i64 kind, .int .i64 n, .string s, .slice A1 keys.length c1, .slice A2 list.length c2] 32)).alloc (.cells #[.int .i64 kind', .int .i64 n', .string s', .slice A1' keys'.length c1', .slice A2' list'.length c2'] 32) := ⟨_, rfl⟩
  have HBW := Lib.hid (show Below w.heap.size w W1 by rw [EW]; exact below_box2 w _ _)
  have E1 : w.heap.size + 1 + 1 ≤ W1.heap.size := by rw [EW]; simp
  have HP := Lib.hid (show Blk W1 w.heap.size 32 [.int .i64 kind, .int .i64 n, .string s, .slice A1 keys.length c1, .slice A2 list.length c2] by rw [EW]; exact (Blk.new w _ _).alloc _)
  have HR := Lib.hid (show Blk W1 (w.heap.size + 1) 32 [.int .i64 kind', .int .i64 n', .string s', .slice A1' keys'.length c1', .slice A2' list'.length c2'] by
    rw [EW]
    have := Blk.new (w.alloc (.cells #[.int .i64 kind, .int .i64 n, .string s, .slice A1 keys.length c1, .slice A2 list.length c2] 32)) 32 [.int .i64 kind', .int .i64 n', .string s', .slice A1' keys'.length c1', .slice A2' list'.length c2']
    simpa using this)
  have HE := Lib.hid EW
  have kS := Lib.hid (show ∀ w' : World, Below W1.heap.size W1 w' → (w'.cell? ⟨w.heap.size, 0, none⟩ = some (.int .i64 kind) ∧ w'.cell? ⟨w.heap.size, 1, none⟩ = some (.int .i64 n) ∧ w'.cell? ⟨w.heap.size, 2, none⟩ = some (.string s) ∧ w'.cell? ⟨w.heap.size, 3, none⟩ = some (.slice A1 keys.length c1) ∧ w'.cell? ⟨w.heap.size, 4, none⟩ = some (.slice A2 list.length c2) ∧ w'.cell? ⟨w.heap.size + 1, 0, none⟩ = some (.int .i64 kind') ∧ w'.cell? ⟨w.heap.size + 1, 1, none⟩ = some (.int .i64 n') ∧ w'.cell? ⟨w.heap.size + 1, 2, none⟩ = some (.string s') ∧ w'.cell? ⟨w.heap.size + 1, 3, none⟩ = some (.slice A1' keys'.length c1') ∧ w'.cell? ⟨w.heap.size + 1, 4, none⟩ = some (.slice A2' list'.length c2')) from fun w' hb => ⟨(HP.out.below hb).cell 0, (HP.out.below hb).cell 1, (HP.out.below hb).cell 2, (HP.out.below hb).cell 3, (HP.out.below hb).cell 4, (HR.out.below hb).cell 0, (HR.out.below hb).cell 1, (HR.out.below hb).cell 2, (HR.out.below hb).cell 3, (HR.out.below hb).cell 4⟩)
  have kA := Lib.hid (kS.out W1.drew (Below.refl _ _).drew)
  have hBW : B ≤ W1.heap.size := by omega
  obtain ⟨qa, ea⟩ : ∃ q, q = cmpI kind kind' := ⟨_, rfl⟩
  obtain ⟨qb, eb⟩ : ∃ q, q = cmpI n n' := ⟨_, rfl⟩
  obtain ⟨qc, ec⟩ : ∃ q, q = cmpS s s' := ⟨_, rfl⟩
  obtain ⟨qd, ed⟩ : ∃ q, q = ordS keys keys' := ⟨_, rfl⟩
  obtain ⟨qe, ee⟩ : ∃ q, q = ordVs list list' := ⟨_, rfl⟩
  have HO := Lib.hid (show ordV (.mk kind n s keys list) (.mk kind' n' s' keys' list') = orL [qa, qb, qc, qd, qe] by rw [ordV, ea, eb, ec, ed, ee]; simp only [orL]; congr 4; unfold orI; split <;> simp_all)
  have EA := Lib.hid ea
  have EB := Lib.hid eb
  have EC := Lib.hid ec
  have ED := Lib.hid ed
  have EE := Lib.hid ee
  clear EW ea eb ec ed ee
  go_enter Tryz.func67, Tryz.ntmps67
  go_upto_region 1 with fail
  rw [← HE.out]
  go_region_held3 (fun w' => w'.cell? ⟨w.heap.size, 0, none⟩ = some (.int .i64 kind) ∧ w'.cell? ⟨w.heap.size, 1, none⟩ = some (.int .i64 n) ∧ w'.cell? ⟨w.heap.size, 2, none⟩ = some (.string s) ∧ w'.cell? ⟨w.heap.size, 3, none⟩ = some (.slice A1 keys.length c1) ∧ w'.cell? ⟨w.heap.size, 4, none⟩ = some (.slice A2 list.length c2) ∧ w'.cell? ⟨w.heap.size + 1, 0, none⟩ = some (.int .i64 kind') ∧ w'.cell? ⟨w.heap.size + 1, 1, none⟩ = some (.int .i64 n') ∧ w'.cell? ⟨w.heap.size + 1, 2, none⟩ = some (.string s') ∧ w'.cell? ⟨w.heap.size + 1, 3, none⟩ = some (.slice A1' keys'.length c1') ∧ w'.cell? ⟨w.heap.size + 1, 4, none⟩ = some (.slice A2' list'.length c2'))
    (first | (with_reducible exact kA.out) | (with_reducible exact kB.out) | (with_reducible exact kC.out) | (with_reducible exact kD.out) | fail "keep")
    (first
      | (go_at_call 84; (with_reducible refine (cmpInt_calls kind kind' _).mono ?_); rintro e w2 ⟨rfl, rfl⟩; rw [← EA.out])
      | (go_at_call 84; (with_reducible refine (cmpInt_calls n n' _).mono ?_); rintro e w2 ⟨rfl, rfl⟩; rw [← EB.out])
      | (go_at_call 85; (refine (cmpStr_calls s s' _).mono ?_); rintro e w2 ⟨rfl, rfl⟩; rw [← EC.out])
      | (go_at_call 86; (refine (compare_calls keys keys' A1 A1' c1 c1' W1.drew B hBW (HK.out.below ((HBW.out.drew).mono hB)) (HK'.out.below ((HBW.out.drew).mono hB))).mono ?_); rintro e w3 ⟨rfl, hb3⟩; rw [← ED.out]; have HB3 := Lib.hid ((Below.refl _ _).drew.trans hb3 : Below W1.heap.size W1 w3); have kB := Lib.hid (kS.out w3 HB3.out); clear hb3)
      | (go_at_call 87; (refine (compareFunc_of list list' IH.out A2 A2' c2 c2' w3 B (Nat.le_trans hBW HB3.out.size) (HL.out.below ((HBW.out.trans (HB3.out.mono HBW.out.size)).mono hB)) (HL'.out.below ((HBW.out.trans (HB3.out.mono HBW.out.size)).mono hB))).mono ?_); rintro e w4 ⟨rfl, hb4⟩; rw [← EE.out]; have HB4 := Lib.hid (HB3.out.trans (hb4.mono HB3.out.size)); have kC := Lib.hid (kS.out w4 HB4.out); have hX := Lib.hid (below_box w4 (.cells #[.int .i64 qa, .int .i64 qb, .int .i64 qc, .int .i64 qd, .int .i64 qe] 3)); have kD := Lib.hid (kS.out (w4.alloc (.cells #[.int .i64 qa, .int .i64 qb, .int .i64 qc, .int .i64 qd, .int .i64 qe] 3)) (HB4.out.trans (hX.out.mono HB4.out.size))); clear hb4)
      | (go_at_call 83; (refine (or5_calls qa qb qc qd qe w4).mono ?_); rintro e w5 ⟨rfl, rfl⟩; rw [← HO.out])
      | fail "no arm")
  go_wp2
  go_ret
  exact ⟨rfl, (HBW.out.trans (HB4.out.mono HBW.out.size)).trans (hX.out.mono (by have := HB4.out.size; omega))⟩
theorem iOrd_calls : ∀ a b, OrdC 67 a b := fun v => Val.ind (P := fun v => ∀ v', OrdC 67 v v') (fun kind n s keys list ih v' => iOrd_of _ _ fun _ _ _ _ _ e => by
  injection e with e1 e2 e3 e4 e5
  subst e5
  exact ih) v
end Go.Proofs.YtppfgepoegicgaaGreatDoor
