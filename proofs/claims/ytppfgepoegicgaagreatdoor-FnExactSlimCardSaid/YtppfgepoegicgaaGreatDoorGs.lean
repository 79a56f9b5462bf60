/- The marks: the text of a mark; trees, marked from a number on. -/
import Derived.Test.YtppfgepoegicgaaGreatDoorGf
import Derived.Test.YtppfgepoegicgaaGreatDoorGa
import Derived.Laws.IdiomStrings
namespace Go.Proofs.YtppfgepoegicgaaGreatDoor
open Go Go.RowKit

def digs (n : Nat) : List UInt8 := if n = 0 then [] else digs (n / 10) ++ [48 + UInt8.ofNat (n % 10)]
termination_by n
decreasing_by omega
theorem digs_zero : digs 0 = [] := by rw [digs]; simp
theorem digs_pos {n : Nat} (h : 0 < n) : digs n = digs (n / 10) ++ [48 + UInt8.ofNat (n % 10)] := by rw [digs]; rw [if_neg (by omega)]
theorem digs_length : ∀ (n : Nat), (digs n).length ≤ n := fun n => by
  induction n using Nat.strongRecOn with
  | _ n ih =>
    rcases Nat.eq_zero_or_pos n with rfl | h
    · rw [digs_zero]; simp
    · rw [digs_pos h]
      have := ih (n / 10) (by omega)
      simp
      omega
/-- The text of mark k. -/
def markT (k : Int) : ByteArray := if k ≤ 0 then ⟨#[109, 48]⟩ else ⟨(109 :: digs k.toNat).toArray⟩
theorem markT_size {k : Int} (h : k ≤ 4611686018427387904) : (markT k).size ≤ 9223372036854775807 := by
  unfold markT
  split
  · show (2 : Nat) ≤ _
    omega
  · have := digs_length k.toNat
    show (109 :: digs k.toNat).toArray.size ≤ _
    simp
    omega

def mStrs : List ByteArray → Int → List ByteArray
  | [], _ => []
  | _ :: r, k => markT k :: mStrs r (k + 1)
theorem mStrs_length : ∀ (l : List ByteArray) (k : Int), (mStrs l k).length = l.length
  | [], _ => rfl
  | _ :: r, k => by simp [mStrs, mStrs_length r]
theorem mStrs_append : ∀ (a b : List ByteArray) (k : Int), mStrs (a ++ b) k = mStrs a k ++ mStrs b (k + a.length)
  | [], _, _ => by simp [mStrs]
  | _ :: a, b, k => by
    simp only [List.cons_append, mStrs, mStrs_append a b, List.length_cons]
    congr 3
    omega
mutual
/-- How many marks a tree of a row takes. -/
def vCnt : Val → Nat
  | .mk _ _ _ keys list => 3 + keys.length + vsCnt list
def vsCnt : List Val → Nat
  | [] => 0
  | v :: r => vCnt v + vsCnt r
end
mutual
def mVal : Val → Int → Val
  | .mk _ _ _ keys list, k => .mk k (k + 1) (markT (k + 1 + 1)) (mStrs keys (k + 1 + 1 + 1)) (mVals list (k + 1 + 1 + 1 + keys.length))
def mVals : List Val → Int → List Val
  | [], _ => []
  | v :: r, k => mVal v k :: mVals r (k + vCnt v)
end
theorem vsCnt_append : ∀ a b : List Val, vsCnt (a ++ b) = vsCnt a + vsCnt b
  | [], _ => by simp [vsCnt]
  | _ :: a, b => by simp [vsCnt, vsCnt_append a b, Nat.add_assoc]
theorem mVals_length : ∀ (l : List Val) (k : Int), (mVals l k).length = l.length
  | [], _ => by simp [mVals]
  | _ :: r, k => by simp [mVals, mVals_length r]
theorem mVals_append : ∀ (a b : List Val) (k : Int), mVals (a ++ b) k = mVals a k ++ mVals b (k + vsCnt a)
  | [], _, _ => by simp [mVals, vsCnt]
  | v :: a, b, k => by
    simp only [List.cons_append, mVals, mVals_append a b, vsCnt]
    congr 3
    omega
theorem vsCnt_mem : ∀ {l : List Val} {v : Val}, v ∈ l → vCnt v ≤ vsCnt l
  | [], _, h => by cases h
  | x :: r, v, h => by
    rcases List.mem_cons.1 h with rfl | h
    · simp [vsCnt]
    · have := vsCnt_mem h
      simp only [vsCnt]
      omega
end Go.Proofs.YtppfgepoegicgaaGreatDoor
namespace Go.Proofs.YtppfgepoegicgaaGreatDoor
open Go Go.RowKit

/-- string([]byte(b)), the one byte lying in a block that was just made. -/
theorem Tryz.byte_text (w : World) (n : Nat) (h : n < 256) : (convert 77 9 (.slice (some ⟨w.heap.size, 0, none⟩) 1 1)).run Tryz.prog (w.alloc (.cells #[.int .u8 (n : Int)] 5)) = .ok (.string ⟨#[UInt8.ofNat n]⟩) (w.alloc (.cells #[.int .u8 (n : Int)] 5)) := by
  have hc := run_convert_bytes_back (P := Tryz.prog) (w.alloc (.cells #[.int .u8 (n : Int)] 5)) 77 9 5 ⟨w.heap.size, 0, none⟩ 1 [UInt8.ofNat n] Tryz.underlying77 Tryz.underlying5 Tryz.underlying9 (fun j hj => by
    have : j = 0 := by simpa using hj
    subst this
    have := cell_one_new w (.int .u8 (n : Int)) 5 0 _ rfl
    simpa [Nat.mod_eq_of_lt h] using this)
  exact hc

set_option maxRecDepth 100000 in
set_option maxHeartbeats 2000000 in
theorem markText_calls (k : Int) (w : World) (hk : k ≤ 4611686018427387904) :
    Calls Tryz.prog 51 #[.int .i64 k] w fun e w' => e = .returned (.string (markT k)) ∧ Below w.heap.size w w' := by
  by_cases h0 : k ≤ 0
  · have HM := Lib.hid (show markT k = ⟨#[109, 48]⟩ by unfold markT; rw [if_pos h0])
    go_enter Tryz.func51, Tryz.ntmps51
    go_wp2
    go_ret
    exact ⟨by rw [HM.out]; rfl, Below.refl _ _⟩
  have h1 : 0 < k := by omega
  have H0 : decide (k ≤ 0) = false := by simpa using h0
  go_enter Tryz.func51, Tryz.ntmps51
  go_wp2
  go_loopw [0, 3] (fun i o w' => ∃ (n : Nat) (acc : ByteArray), i = .int .i64 n ∧ o = .string acc ∧ Hid (digs n ++ acc.data.toList = digs k.toNat) ∧ (n : Int) + acc.size ≤ k ∧ Below w.heap.size w w') (fun i _ _ => (intOf i).toNat)
  case atStart => exact ⟨k.toNat, ⟨#[]⟩, by go_num, rfl, (by simp : digs k.toNat ++ ([] : List UInt8) = digs k.toNat), (by show ((k.toNat : Nat) : Int) + ((0 : Nat) : Int) ≤ k; omega), Below.refl _ _⟩
  case round =>
    obtain ⟨n, acc, rfl, rfl, HD, hle, hb⟩ := hrel
    by_cases hlt : 0 < n
    · have hcv := Tryz.byte_text wr (48 + n % 10) (by omega)
      have e48 : (((48 + n % 10 : Nat)) : Int) = 48 + (n : Int) % 10 := by omega
      rw [e48, show UInt8.ofNat (48 + n % 10) = 48 + UInt8.ofNat (n % 10) by simp] at hcv
      have hdig := digs_pos hlt
      have HS := Lib.hid (show digs (n / 10) ++ ((⟨#[48 + UInt8.ofNat (n % 10)]⟩ : ByteArray) ++ acc).data.toList = digs k.toNat by
        rw [← HD.out, hdig]
        simp)
      have HL := Lib.hid (show (((⟨#[48 + UInt8.ofNat (n % 10)]⟩ : ByteArray) ++ acc).size : Int) = acc.size + 1 by
        simp [ByteArray.size_append]
        show (((1 : Nat)) : Int) + _ = _
        omega)
      clear e48 hdig
      go_wp2
      go_roundw
      case rel => exact ⟨n / 10, _, by go_num, rfl, HS, by rw [HL.out]; omega, hb.alloc hb.size _⟩
      case measure => simp [intOf]; omega
    · obtain rfl : n = 0 := by omega
      have HM := Lib.hid (show (⟨#[109]⟩ : ByteArray) ++ acc = markT k by
        have h := HD.out
        rw [digs_zero, List.nil_append] at h
        unfold markT
        rw [if_neg (by omega), ← h]
        apply str_inj
        simp [ByteArray.toList_eq])
      clear HD
      go_wp2
      go_ret
      exact ⟨by rw [← HM.out]; rfl, hb⟩
end Go.Proofs.YtppfgepoegicgaaGreatDoor
namespace Go.Proofs.YtppfgepoegicgaaGreatDoor
open Go Go.RowKit

/-- What a mark does: it returns the next number; the data that it got read as marked; no other block has turned. -/
def PMark (k' : Int) (d : Dat) (c : Value) (fp : List Nat) (w : World) (e : Ending) (w' : World) : Prop := e = .returned (.int .i64 k') ∧ OD w' d c fp ∧ Upd fp w w'

set_option maxRecDepth 100000 in
set_option maxHeartbeats 2000000 in
theorem markStringS_calls (ss : List ByteArray) (A : Option Addr) (c : Nat) (k : Int) (fp : List Nat) (w : World) (hk0 : 0 ≤ k) (hk : k + ss.length ≤ 4611686018427387904) (h : OD w (.row 1 ss.length (strDs ss)) (.slice A ss.length c) fp) (hnd : fp.Nodup) :
    Calls Tryz.prog 49 #[.slice A ss.length c, .int .i64 k] w (PMark (k + ss.length) (.row 1 ss.length (strDs (mStrs ss k))) (.slice A ss.length c) fp w) := by
  have hn := h.rd'.len
  have H := Lib.hid h
  have HN := Lib.hid hnd
  clear h hnd
  go_enter Tryz.func49, Tryz.ntmps49
  go_wp2
  go_loopw [1, 5] (fun q i w' => ∃ (j : Nat) (ks : List ByteArray), j ≤ ss.length ∧ i = .int .i64 j ∧ q = .int .i64 (k + j) ∧ Hid (ks.length = j) ∧ Hid (ss = ks ++ ss.drop j) ∧ Hid (OD w' (.row 1 ss.length (strDs (mStrs ks k) ++ strDs (ss.drop j))) (.slice A ss.length c) fp) ∧ Upd fp w w') (fun _ i _ => ss.length - (intOf i).toNat)
  case atStart => exact ⟨0, [], by omega, rfl, by simp, (rfl : ([] : List ByteArray).length = 0), (rfl : ss = [] ++ ss.drop 0), H.out, Upd.refl _ _⟩
  case round =>
    obtain ⟨j, ks, hj, rfl, rfl, HL, HS, HO, HU⟩ := hrel
    by_cases hlt : j < ss.length
    · have hdr := List.drop_eq_getElem_cons hlt
      obtain ⟨s, es⟩ : ∃ s, s = ss[j] := ⟨_, rfl⟩
      rw [← es] at hdr
      have HD := Lib.hid hdr
      have ho := HO.out
      rw [hdr, show strDs (s :: ss.drop (j + 1)) = [.str s] ++ strDs (ss.drop (j + 1)) from rfl] at ho
      obtain ⟨g, t, us0, ue, us2, fe, rfl, hl0, hle, hM, hcl⟩ := ho.write HN.out (i := j) (by rw [strDs_length, mStrs_length, HL.out]; omega) rfl (by omega)
      rw [Nat.mul_one] at hl0
      obtain ⟨u0, rfl⟩ := len1 hle
      have HL0 := Lib.hid hl0
      have HCL := Lib.hid hcl
      have HM := Lib.hid hM
      clear hdr es ho hl0 hcl hM HO hle
      go_wp2_with fail
      refine (markText_calls _ _ (by omega)).mono ?_
      rintro e w1 ⟨rfl, hb1⟩
      have hM1 := HM.out.below hb1
      have x0 : w1.cell? ⟨g, j, none⟩ = some u0 := hM1.cell HL0.out 0 rfl
      have y0 := hM1.frozen j
      have hM2 := hM1.str HL0.out 0 rfl trivial _ (markT_size (k := k + j) (by omega))
      have HC := Lib.hid (HCL.out _ _ _ rfl hM2)
      clear hM1 hM2
      go_wp2
      go_roundw
      case rel => exact ⟨j + 1, ks ++ [s], by omega, by go_num, by go_num, (by rw [List.length_append, HL.out]; rfl : (ks ++ [s]).length = j + 1), (by rw [List.append_assoc, List.singleton_append, ← HD.out]; exact HS.out : ss = (ks ++ [s]) ++ ss.drop (j + 1)),
        (by rw [mStrs_append, strDs_append, HL.out, List.append_assoc]; exact HC.out.1 : OD _ (.row 1 ss.length (strDs (mStrs (ks ++ [s]) k) ++ strDs (ss.drop (j + 1)))) _ fp), HU.trans HC.out.2⟩
      case measure => simp [intOf]; omega
    · obtain rfl : j = ss.length := by omega
      have HO2 := Lib.hid (show OD wr (.row 1 ss.length (strDs (mStrs ss k))) (.slice A ss.length c) fp by
        have h1 := HO.out
        have h2 := HS.out
        rw [List.drop_length, List.append_nil] at h2
        rw [List.drop_length, ← h2] at h1
        simpa [strDs] using h1)
      clear HO HS HL
      go_wp2
      go_ret
      exact ⟨rfl, HO2.out, HU⟩
end Go.Proofs.YtppfgepoegicgaaGreatDoor
namespace Go.Proofs.YtppfgepoegicgaaGreatDoor
open Go Go.RowKit

def MarkVals (vs : List Val) : Prop := ∀ (A : Option Addr) (c : Nat) (k : Int) (fp : List Nat) (w : World), 0 ≤ k → k + vsCnt vs ≤ 4611686018427387904 → OD w (.row 5 vs.length (valsDs vs)) (.slice A vs.length c) fp → fp.Nodup →
    Calls Tryz.prog 50 #[.slice A vs.length c, .int .i64 k] w (PMark (k + vsCnt vs) (.row 5 vs.length (valsDs (mVals vs k))) (.slice A vs.length c) fp w)

set_option maxRecDepth 100000 in
set_option maxHeartbeats 2000000 in
theorem markVals_of (vs : List Val) (ih : ∀ kind n s keys list, (.mk kind n s keys list) ∈ vs → MarkVals list) : MarkVals vs := by
  intro A c k fp w hk0 hk h hnd
  have hn := h.rd'.len
  have H := Lib.hid h
  have HN := Lib.hid hnd
  have IH := Lib.hid ih
  have HK := Lib.hid hk
  clear h hnd ih hk
  go_enter Tryz.func50, Tryz.ntmps50
  go_wp2
  go_loopw [1, 5] (fun q i w' => ∃ (j : Nat) (ks : List Val) (r : Int), j ≤ vs.length ∧ i = .int .i64 j ∧ q = .int .i64 r ∧ 0 ≤ r ∧ Hid (r = k + vsCnt ks) ∧ Hid (ks.length = j) ∧ Hid (vs = ks ++ vs.drop j) ∧ Hid (OD w' (.row 5 vs.length (valsDs (mVals ks k) ++ valsDs (vs.drop j))) (.slice A vs.length c) fp) ∧ Upd fp w w') (fun _ i _ => vs.length - (intOf i).toNat)
  case atStart => exact ⟨0, [], k, by omega, rfl, rfl, hk0, (by simp [vsCnt] : k = k + vsCnt []), (rfl : ([] : List Val).length = 0), (rfl : vs = [] ++ vs.drop 0), H.out, Upd.refl _ _⟩
  case round =>
    obtain ⟨j, ks, r, hj, rfl, rfl, hr0, HR, HL, HS, HO, HU⟩ := hrel
    by_cases hlt : j < vs.length
    · have hdr := List.drop_eq_getElem_cons hlt
      obtain ⟨v, ev⟩ : ∃ v, v = vs[j] := ⟨_, rfl⟩
      rw [← ev] at hdr
      have hmem : v ∈ vs := by rw [ev]; exact List.getElem_mem _
      have HD := Lib.hid hdr
      have ho := HO.out
      rw [hdr, show valsDs (v :: vs.drop (j + 1)) = valDs v ++ valsDs (vs.drop (j + 1)) from rfl] at ho
      have hl5 : ∀ l : List Val, (valsDs l).length = l.length * 5 := fun l => by
        induction l with
        | nil => rfl
        | cons x l ih => simp [valsDs, valDs_length, ih]; omega
      obtain ⟨g, t, us0, ue, us2, fe, rfl, hl0, hle, hM, hcl⟩ := ho.write HN.out (i := j) (by rw [hl5, mVals_length, HL.out]) (valDs_length v) (by omega)
      have hsum : r + vCnt v ≤ 4611686018427387904 := by
        have h1 := HK.out
        have h2 := congrArg vsCnt HS.out
        rw [hdr, vsCnt_append, vsCnt] at h2
        have := HR.out
        omega
      obtain ⟨kind, n, s, keys, list, A1, c1, A2, c2, rfl, rfl, hs, hk1, hk2⟩ := valDs_open hM.own.rd'
      have IH2 := Lib.hid (IH.out _ _ _ _ _ hmem)
      have hcnt : (vCnt (.mk kind n s keys list) : Int) = 3 + keys.length + vsCnt list := by simp [vCnt]
      have b1 : r + 3 + keys.length + vsCnt list ≤ 4611686018427387904 := by omega
      have HL0 := Lib.hid hl0
      have HCL := Lib.hid hcl
      have x0 := hM.cell hl0 0 rfl
      have x1 := hM.cell hl0 1 rfl
      have x2 := hM.cell hl0 2 rfl
      have x3 := hM.cell hl0 3 rfl
      have x4 := hM.cell hl0 4 rfl
      have y0 := hM.frozen (j * 5)
      have y1 := hM.frozen (j * 5 + 1)
      have y2 := hM.frozen (j * 5 + 2)
      rw [Nat.add_zero] at x0
      have HM := Lib.hid hM
      have hcn := Lib.hid hcnt
      clear hdr ev ho hl0 hcl hM HO hle hk1 hk2 hs hcnt hsum hl5 hmem
      go_wp2_with fail
      refine (markText_calls _ _ (by omega)).mono ?_
      rintro e w1 ⟨rfl, hb1⟩
      have hM1 := (((HM.out.int HL0.out 0 rfl trivial _).int HL0.out 1 rfl trivial _).below hb1)
      have x2 := hM1.cell HL0.out 2 rfl
      have x3 := hM1.cell HL0.out 3 rfl
      have x4 := hM1.cell HL0.out 4 rfl
      have y2 := hM1.frozen (j * 5 + 2)
      have hM2 := hM1.str HL0.out 2 rfl trivial _ (markT_size (k := r + 1 + 1) (by omega))
      obtain ⟨f3, o3, nd3, cl3⟩ := hM2.row 3 rfl rfl
      have O3 := Lib.hid o3
      have N3 := Lib.hid nd3
      have C3 := Lib.hid cl3
      clear hM1 hM2 o3 nd3 cl3 hb1 y0 y1
      go_wp2_with fail
      refine (markStringS_calls _ _ _ _ _ _ (by omega) (by omega) O3.out N3.out).mono ?_
      rintro e w2 ⟨rfl, o4, u4⟩
      have hM3 := C3.out _ _ o4 u4
      have x4 := hM3.cell HL0.out 4 rfl
      obtain ⟨f4, p4, nd4, cl4⟩ := hM3.row 4 rfl rfl
      have O4 := Lib.hid p4
      have N4 := Lib.hid nd4
      have C4 := Lib.hid cl4
      clear hM3 p4 nd4 cl4 o4 u4 x2 x3 y2
      go_wp2_with fail
      refine (IH2.out _ _ _ _ _ (by omega) (by omega) O4.out N4.out).mono ?_
      rintro e w3 ⟨rfl, o5, u5⟩
      have HC := Lib.hid (HCL.out _ _ _ rfl (C4.out _ _ o5 u5))
      clear o5 u5 x4
      have HR2 := Lib.hid (show r + 1 + 1 + 1 + keys.length + vsCnt list = k + vsCnt (ks ++ [.mk kind n s keys list]) by
        have h1 := HR.out
        have h2 := hcn.out
        simp only [vsCnt_append, vsCnt]
        omega)
      have HL2 := Lib.hid (show (ks ++ [Val.mk kind n s keys list]).length = j + 1 by rw [List.length_append, HL.out]; rfl)
      have HS2 := Lib.hid (show vs = (ks ++ [.mk kind n s keys list]) ++ vs.drop (j + 1) by rw [List.append_assoc, List.singleton_append, ← HD.out]; exact HS.out)
      have HO2 := Lib.hid (show OD w3 (.row 5 vs.length (valsDs (mVals (ks ++ [.mk kind n s keys list]) k) ++ valsDs (vs.drop (j + 1)))) (.slice (some ⟨g, 0, none⟩) vs.length c) fp by
        rw [mVals_append, valsDs_append, List.append_assoc, ← HR.out]
        have h1 := HC.out.1
        simp only [List.set_cons_zero, List.set_cons_succ, valDs, mVals, mVal, valsDs, List.append_nil, mStrs_length, mVals_length] at h1 ⊢
        exact h1)
      have HU2 := HU.trans HC.out.2
      clear HC HR HL HS HU
      go_wp2
      go_roundw
      case rel => exact ⟨j + 1, _, _, by omega, by go_num, rfl, by omega, HR2, HL2, HS2, HO2, HU2⟩
      case measure => simp [intOf]; omega
    · obtain rfl : j = vs.length := by omega
      have HO2 := Lib.hid (show OD wr (.row 5 vs.length (valsDs (mVals vs k))) (.slice A vs.length c) fp by
        have h1 := HO.out
        have h2 := HS.out
        rw [List.drop_length, List.append_nil] at h2
        rw [List.drop_length, ← h2] at h1
        simpa [valsDs] using h1)
      have HR2 := Lib.hid (show r = k + vsCnt vs by
        have h2 := HS.out
        rw [List.drop_length, List.append_nil] at h2
        rw [h2]
        exact HR.out)
      clear HO HS HL HR
      go_wp2
      go_ret
      exact ⟨by rw [← HR2.out]; rfl, HO2.out, HU⟩
theorem markVals_all (v : Val) : ∀ kind n s keys list, v = .mk kind n s keys list → MarkVals list := by
  induction v using Val.ind with
  | h kind n s keys list ih =>
    intro _ _ _ _ _ e
    injection e with e1 e2 e3 e4 e5
    subst e5
    exact markVals_of _ fun kind n s keys l hm => ih _ hm _ _ _ _ _ rfl
theorem markVals_calls (vs : List Val) : MarkVals vs := markVals_of vs fun kind n s keys l _ => markVals_all (.mk kind n s keys l) _ _ _ _ _ rfl
end Go.Proofs.YtppfgepoegicgaaGreatDoor
namespace Go.Proofs.YtppfgepoegicgaaGreatDoor
open Go Go.RowKit

theorem sz_cons_ {d : Dat} {ds : List Dat} {l : Int} (hl : 0 ≤ l) (h : 0 ≤ szDs (d :: ds) l) : 0 ≤ szD d l ∧ szD d l ≤ l ∧ 0 ≤ szDs ds (szD d l) := by
  have h1 := szD_range d l hl
  simp only [szDs] at h
  split at h
  · omega
  · exact ⟨by omega, by omega, h⟩
theorem sz_row_ {z n : Nat} {cells : List Dat} {l : Int} (h : 0 ≤ szD (.row z n cells) l) : 0 ≤ l - n ∧ 0 ≤ szDs cells (l - n) ∧ szD (.row z n cells) l = szDs cells (l - n) := by
  simp only [szD] at h ⊢
  split at h
  · omega
  · next h2 => exact ⟨by omega, h, by rw [if_neg h2]⟩
mutual
def scal : Dat → Nat
  | .int _ => 1
  | .str _ => 1
  | .row _ _ cells => scals cells
def scals : List Dat → Nat
  | [] => 0
  | d :: ds => scal d + scals ds
end
mutual
def WfD : Dat → Prop
  | .int _ => True
  | .str _ => True
  | .row _ n cells => cells.length ≤ 9 * n ∧ WfDs cells
def WfDs : List Dat → Prop
  | [] => True
  | d :: ds => WfD d ∧ WfDs ds
end
theorem scals_append : ∀ a b : List Dat, scals (a ++ b) = scals a + scals b
  | [], _ => by simp [scals]
  | _ :: a, b => by simp [scals, scals_append a b, Nat.add_assoc]
theorem wfDs_append : ∀ {a b : List Dat}, WfDs (a ++ b) ↔ WfDs a ∧ WfDs b
  | [], _ => by simp [WfDs]
  | _ :: a, b => by simp [WfDs, wfDs_append (a := a) (b := b), and_assoc]
mutual
theorem scal_of_sz : ∀ (d : Dat) (l : Int), WfD d → 0 ≤ l → 0 ≤ szD d l → (scal d : Int) ≤ 1 + 9 * (l - szD d l)
  | .int _, l, _, _, _ => by simp only [scal, szD]; omega
  | .str s, l, _, h0, h => by
    simp only [scal, szD] at h ⊢
    split at h
    · omega
    · next h1 => rw [if_neg h1]; omega
  | .row _ n cells, l, hw, h0, h => by
    obtain ⟨h1, h2, h3⟩ := sz_row_ h
    have := scals_of_sz cells (l - n) hw.2 h1 h2
    have := hw.1
    rw [h3]
    simp only [scal]
    omega
theorem scals_of_sz : ∀ (ds : List Dat) (l : Int), WfDs ds → 0 ≤ l → 0 ≤ szDs ds l → (scals ds : Int) ≤ ds.length + 9 * (l - szDs ds l)
  | [], l, _, _, _ => by simp [scals, szDs]
  | d :: ds, l, hw, h0, h => by
    obtain ⟨h1, h2, h3⟩ := sz_cons_ h0 h
    have e1 := scal_of_sz d l hw.1 h0 h1
    have e2 := scals_of_sz ds _ hw.2 h1 h3
    have e3 : szDs (d :: ds) l = szDs ds (szD d l) := by
      simp only [szDs]
      rw [if_neg (by omega)]
    rw [e3]
    simp only [scals, List.length_cons]
    omega
end
theorem strDs_scal : ∀ ks : List ByteArray, scals (strDs ks) = ks.length ∧ WfDs (strDs ks)
  | [] => ⟨rfl, trivial⟩
  | _ :: r => by
    have := strDs_scal r
    refine ⟨by simp [strDs, scals, scal, this.1]; omega, trivial, this.2⟩
theorem valsDs_len : ∀ l : List Val, (valsDs l).length = l.length * 5
  | [] => rfl
  | x :: l => by simp [valsDs, valDs_length, valsDs_len l]; omega
theorem vals_scal_of : ∀ (l : List Val), (∀ v ∈ l, scals (valDs v) = vCnt v ∧ WfDs (valDs v)) → scals (valsDs l) = vsCnt l ∧ WfDs (valsDs l)
  | [], _ => ⟨by simp [valsDs, scals, vsCnt], trivial⟩
  | v :: r, h => by
    have h1 := h v List.mem_cons_self
    have h2 := vals_scal_of r fun x hx => h x (List.mem_cons_of_mem _ hx)
    refine ⟨by simp [valsDs, scals_append, vsCnt, h1.1, h2.1], ?_⟩
    simp only [valsDs]
    exact wfDs_append.2 ⟨h1.2, h2.2⟩
theorem val_scal : ∀ v, scals (valDs v) = vCnt v ∧ WfDs (valDs v) := Val.ind fun kind n s keys list ih => by
  have h1 := strDs_scal keys
  have h2 := vals_scal_of list ih
  refine ⟨?_, trivial, trivial, trivial, ⟨by rw [strDs_length]; omega, h1.2⟩, ⟨by rw [valsDs_len]; omega, h2.2⟩, trivial⟩
  simp only [valDs, scals, scal, vCnt, h1.1, h2.1]
  omega
theorem val_few (v : Val) {l : Int} (h0 : 0 ≤ l) (h1 : l ≤ 1048576) (h : 0 ≤ szDs (valDs v) l) : vCnt v ≤ 10000000 := by
  have h2 := val_scal v
  have h3 := scals_of_sz (valDs v) l h2.2 h0 h
  rw [h2.1, valDs_length] at h3
  omega
/-- A tree, its own parts marked (not its head). -/
def mTop : Val → Int → Val
  | .mk kind n s keys list, k => .mk kind n s (mStrs keys k) (mVals list (k + keys.length))
def topCnt : Val → Nat
  | .mk _ _ _ keys list => keys.length + vsCnt list
theorem topCnt_le (v : Val) : topCnt v + 3 = vCnt v := by
  obtain ⟨_, _, _, _, _⟩ := v
  simp only [topCnt, vCnt]
  omega
def PMarks (k' : Int) (ds : List Dat) (us : List Value) (fp : List Nat) (w : World) (e : Ending) (w' : World) : Prop := e = .returned (.int .i64 k') ∧ ODv w' ds us fp ∧ Upd fp w w'
theorem rowOwn {w : World} {d : Dat} {c : Value} {us : List Value} {fp : List Nat} (h : ODv w [d] us fp) : ∃ u, us = [u] ∧ OD w d u fp := by
  obtain ⟨u, us', f1, f2, rfl, rfl, h1, rfl, rfl⟩ := h
  exact ⟨u, rfl, by simpa using h1⟩

set_option maxRecDepth 100000 in
set_option maxHeartbeats 4000000 in
theorem markVal_calls (v : Val) (us : List Value) (k : Int) (fp : List Nat) (w : World) (hk0 : 0 ≤ k) (hk : k + topCnt v ≤ 4611686018427387904) (h : ODv w (valDs v) us fp) (hnd : fp.Nodup) :
    Calls Tryz.prog 23 #[.agg us.toArray, .int .i64 k] w (PMarks (k + topCnt v) (valDs (mTop v k)) us fp w) := by
  have hr := h.rd'
  obtain ⟨kind, n, s, keys, list, A1, c1, A2, c2, rfl, rfl, hs, _, _⟩ := valDs_open hr
  simp only [topCnt] at hk
  obtain ⟨W, eW⟩ : ∃ W, W = w.alloc (.cells #[.int .i64 kind, .int .i64 n, .string s, .slice A1 keys.length c1, .slice A2 list.length c2] 32) := ⟨_, rfl⟩
  have hbx : Below w.heap.size w W := by rw [eW]; exact below_box _ _
  have bP : Blk W w.heap.size 32 [.int .i64 kind, .int .i64 n, .string s, .slice A1 keys.length c1, .slice A2 list.length c2] := by rw [eW]; exact Blk.new _ _ _
  have hW : ODv W (valDs (.mk kind n s keys list)) [.int .i64 kind, .int .i64 n, .string s, .slice A1 keys.length c1, .slice A2 list.length c2] fp := ODv.keep _ _ _ (fun b hb => hbx.block b (ODv.lt _ _ _ h b hb)) h
  obtain ⟨fa, f3, fb, e3, o3, cl3⟩ := hW.pick 3 rfl rfl
  have hlt := ODv.lt _ _ _ h
  have hnd3 : f3.Nodup ∧ (∀ b ∈ fa ++ fb, b ∉ f3) := by
    rw [e3] at hnd
    obtain ⟨k1, k2, k3⟩ := List.nodup_append.1 hnd
    obtain ⟨m1, m2, m3⟩ := List.nodup_append.1 k2
    refine ⟨m1, fun b hb hm => ?_⟩
    rcases List.mem_append.1 hb with hb | hb
    · exact k3 b hb b (List.mem_append_left _ hm) rfl
    · exact m3 b hm b hb rfl
  have EW := Lib.hid eW
  have O3 := Lib.hid o3
  have C3 := Lib.hid cl3
  have E3 := Lib.hid e3
  have HP := Lib.hid bP
  have HN := Lib.hid hnd
  have HN3 := Lib.hid hnd3
  have HLT := Lib.hid hlt
  obtain ⟨cP, fP⟩ := blk_rules bP
  clear hr h eW bP hW o3 cl3 e3 hnd hnd3 hlt
  go_enter Tryz.func23, Tryz.ntmps23
  go_wp2_with fail
  rw [← EW.out]
  refine (markStringS_calls keys A1 c1 k f3 _ hk0 (by omega) O3.out HN3.out.1).mono ?_
  rintro e w1 ⟨rfl, h1, h2⟩
  have hfp : ∀ b ∈ fp, b < W.heap.size := fun b hb => Nat.lt_of_lt_of_le (HLT.out b hb) hbx.size
  have hm1 := C3.out w1 _ h1 fun b hb => h2.block b (hfp b (by rw [E3.out]; rcases List.mem_append.1 hb with hb | hb <;> simp [hb])) (HN3.out.2 b hb)
  have hP1 := h2.blk (fun hm => by have := HLT.out w.heap.size (by rw [E3.out]; simp [hm]); omega) HP.out
  obtain ⟨ga, f4, gb, e4, o4, cl4⟩ := hm1.pick 4 rfl rfl
  have hnd4 : f4.Nodup ∧ (∀ b ∈ ga ++ gb, b ∉ f4) := by
    have hnd := HN.out
    rw [e4] at hnd
    obtain ⟨k1, k2, k3⟩ := List.nodup_append.1 hnd
    obtain ⟨m1, m2, m3⟩ := List.nodup_append.1 k2
    refine ⟨m1, fun b hb hm => ?_⟩
    rcases List.mem_append.1 hb with hb | hb
    · exact k3 b hb b (List.mem_append_left _ hm) rfl
    · exact m3 b hm b hb rfl
  have hsz := h2.size
  have U1 := Lib.hid (show Upd fp w w1 from (Upd.of_below hbx).trans (h2.mono fun b hb => by rw [E3.out]; simp [hb]))
  have O4 := Lib.hid o4
  have C4 := Lib.hid cl4
  have E4 := Lib.hid e4
  have HN4 := Lib.hid hnd4
  have HP1 := Lib.hid hP1
  clear h1 h2 hm1 o4 cl4 e4 hnd4 hP1 cP fP
  obtain ⟨cP, fP⟩ := blk_rules HP1.out
  go_wp2_with fail
  refine (markVals_calls list A2 c2 _ f4 _ (by omega) (by omega) O4.out HN4.out.1).mono ?_
  rintro e w2 ⟨rfl, h3, h4⟩
  have hm2 := C4.out w2 _ h3 fun b hb => h4.block b (Nat.lt_of_lt_of_le (hfp b (by rw [E4.out]; rcases List.mem_append.1 hb with hb | hb <;> simp [hb])) hsz) (HN4.out.2 b hb)
  have HM := Lib.hid hm2
  have U2 := Lib.hid (U1.out.trans (h4.mono fun b hb => by rw [E4.out]; simp [hb]))
  clear h3 h4 hm2 hfp cP fP
  go_wp2
  go_ret
  refine ⟨by simp only [topCnt]; rw [show k + keys.length + vsCnt list = k + ((keys.length + vsCnt list : Nat) : Int) by omega]; rfl, ?_, U2.out⟩
  have h1 := HM.out
  simp only [valDs, mTop, mStrs_length, mVals_length, List.set_cons_zero, List.set_cons_succ] at h1 ⊢
  exact h1

end Go.Proofs.YtppfgepoegicgaaGreatDoor
