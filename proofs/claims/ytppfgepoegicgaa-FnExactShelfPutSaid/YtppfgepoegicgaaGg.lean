/- The marks: the text of a mark; trees, marked from a number on. -/
import Derived.Test.YtppfgepoegicgaaGa
import Derived.Laws.IdiomStrings
import Derived.Test.YtppfgepoegicgaaGb
namespace Go.Proofs.Ytppfgepoegicgaa
open Go Go.RowKit

def digs (n : Nat) : List UInt8 := if n = 0 then [] else digs (n / 10) ++ [48 + UInt8.ofNat (n % 10)]
termination_by n
decreasing_by omega
theorem digs_zero : digs 0 = [] := by rw [digs]; simp
theorem digs_pos {n : Nat} (h : 0 < n) : digs n = digs (n / 10) ++ [48 + UInt8.ofNat (n % 10)] := by rw [digs]; rw [if_neg (by omega)]
theorem digs_length : ∀ (n : Nat), (digs n).length ≤ n := fun n => by
  induction n using Nat.strongRecOn with
  | _ n ih =>
    rcases Nat.eq_zero_or_pos n with rfl | h
    · rw [digs_zero]; simp
    · rw [digs_pos h]
      have := ih (n / 10) (by omega)
      simp
      omega
/-- The text of mark k. -/
def markT (k : Int) : ByteArray := if k ≤ 0 then ⟨#[109, 48]⟩ else ⟨(109 :: digs k.toNat).toArray⟩
theorem markT_size {k : Int} (h : k ≤ 4611686018427387904) : (markT k).size ≤ 9223372036854775807 := by
  unfold markT
  split
  · show (2 : Nat) ≤ _
    omega
  · have := digs_length k.toNat
    show (109 :: digs k.toNat).toArray.size ≤ _
    simp
    omega

def mStrs : List ByteArray → Int → List ByteArray
  | [], _ => []
  | _ :: r, k => markT k :: mStrs r (k + 1)
theorem mStrs_length : ∀ (l : List ByteArray) (k : Int), (mStrs l k).length = l.length
  | [], _ => rfl
  | _ :: r, k => by simp [mStrs, mStrs_length r]
theorem mStrs_append : ∀ (a b : List ByteArray) (k : Int), mStrs (a ++ b) k = mStrs a k ++ mStrs b (k + a.length)
  | [], _, _ => by simp [mStrs]
  | _ :: a, b, k => by
    simp only [List.cons_append, mStrs, mStrs_append a b, List.length_cons]
    congr 3
    omega
mutual
/-- How many marks a tree of a row takes. -/
def vCnt : Val → Nat
  | .mk _ _ _ keys list => 3 + keys.length + vsCnt list
def vsCnt : List Val → Nat
  | [] => 0
  | v :: r => vCnt v + vsCnt r
end
mutual
def mVal : Val → Int → Val
  | .mk _ _ _ keys list, k => .mk k (k + 1) (markT (k + 1 + 1)) (mStrs keys (k + 1 + 1 + 1)) (mVals list (k + 1 + 1 + 1 + keys.length))
def mVals : List Val → Int → List Val
  | [], _ => []
  | v :: r, k => mVal v k :: mVals r (k + vCnt v)
end
theorem vsCnt_append : ∀ a b : List Val, vsCnt (a ++ b) = vsCnt a + vsCnt b
  | [], _ => by simp [vsCnt]
  | _ :: a, b => by simp [vsCnt, vsCnt_append a b, Nat.add_assoc]
theorem mVals_length : ∀ (l : List Val) (k : Int), (mVals l k).length = l.length
  | [], _ => by simp [mVals]
  | _ :: r, k => by simp [mVals, mVals_length r]
theorem mVals_append : ∀ (a b : List Val) (k : Int), mVals (a ++ b) k = mVals a k ++ mVals b (k + vsCnt a)
  | [], _, _ => by simp [mVals, vsCnt]
  | v :: a, b, k => by
    simp only [List.cons_append, mVals, mVals_append a b, vsCnt]
    congr 3
    omega
theorem vsCnt_mem : ∀ {l : List Val} {v : Val}, v ∈ l → vCnt v ≤ vsCnt l
  | [], _, h => by cases h
  | x :: r, v, h => by
    rcases List.mem_cons.1 h with rfl | h
    · simp [vsCnt]
    · have := vsCnt_mem h
      simp only [vsCnt]
      omega
end Go.Proofs.Ytppfgepoegicgaa
namespace Go.Proofs.Ytppfgepoegicgaa
open Go Go.RowKit

/-- string([]byte(b)), the one byte lying in a block that was just made. -/
theorem Try.byte_text (w : World) (n : Nat) (h : n < 256) : (convert 114 9 (.slice (some ⟨w.heap.size, 0, none⟩) 1 1)).run Try.prog (w.alloc (.cells #[.int .u8 (n : Int)] 5)) = .ok (.string ⟨#[UInt8.ofNat n]⟩) (w.alloc (.cells #[.int .u8 (n : Int)] 5)) := by
  have hc := run_convert_bytes_back (P := Try.prog) (w.alloc (.cells #[.int .u8 (n : Int)] 5)) 114 9 5 ⟨w.heap.size, 0, none⟩ 1 [UInt8.ofNat n] Try.underlying114 Try.underlying5 Try.underlying9 (fun j hj => by
    have : j = 0 := by simpa using hj
    subst this
    have := cell_one_new w (.int .u8 (n : Int)) 5 0 _ rfl
    simpa [Nat.mod_eq_of_lt h] using this)
  exact hc

set_option maxRecDepth 100000 in
set_option maxHeartbeats 2000000 in
theorem markText_calls (k : Int) (w : World) (hk : k ≤ 4611686018427387904) :
    Calls Try.prog 87 #[.int .i64 k] w fun e w' => e = .returned (.string (markT k)) ∧ Below w.heap.size w w' := by
  by_cases h0 : k ≤ 0
  · have HM := Lib.hid (show markT k = ⟨#[109, 48]⟩ by unfold markT; rw [if_pos h0])
    go_enter Try.func87, Try.ntmps87
    go_wp2
    go_ret
    exact ⟨by rw [HM.out]; rfl, Below.refl _ _⟩
  have h1 : 0 < k := by omega
  have H0 : decide (k ≤ 0) = false := by simpa using h0
  go_enter Try.func87, Try.ntmps87
  go_wp2
  go_loopw [0, 3] (fun i o w' => ∃ (n : Nat) (acc : ByteArray), i = .int .i64 n ∧ o = .string acc ∧ Hid (digs n ++ acc.data.toList = digs k.toNat) ∧ (n : Int) + acc.size ≤ k ∧ Below w.heap.size w w') (fun i _ _ => (intOf i).toNat)
  case atStart => exact ⟨k.toNat, ⟨#[]⟩, by go_num, rfl, (by simp : digs k.toNat ++ ([] : List UInt8) = digs k.toNat), (by show ((k.toNat : Nat) : Int) + ((0 : Nat) : Int) ≤ k; omega), Below.refl _ _⟩
  case round =>
    obtain ⟨n, acc, rfl, rfl, HD, hle, hb⟩ := hrel
    by_cases hlt : 0 < n
    · have hcv := Try.byte_text wr (48 + n % 10) (by omega)
      have e48 : (((48 + n % 10 : Nat)) : Int) = 48 + (n : Int) % 10 := by omega
      rw [e48, show UInt8.ofNat (48 + n % 10) = 48 + UInt8.ofNat (n % 10) by simp] at hcv
      have hdig := digs_pos hlt
      have HS := Lib.hid (show digs (n / 10) ++ ((⟨#[48 + UInt8.ofNat (n % 10)]⟩ : ByteArray) ++ acc).data.toList = digs k.toNat by
        rw [← HD.out, hdig]
        simp)
      have HL := Lib.hid (show (((⟨#[48 + UInt8.ofNat (n % 10)]⟩ : ByteArray) ++ acc).size : Int) = acc.size + 1 by
        simp [ByteArray.size_append]
        show (((1 : Nat)) : Int) + _ = _
        omega)
      clear e48 hdig
      go_wp2
      go_roundw
      case rel => exact ⟨n / 10, _, by go_num, rfl, HS, by rw [HL.out]; omega, hb.alloc hb.size _⟩
      case measure => simp [intOf]; omega
    · obtain rfl : n = 0 := by omega
      have HM := Lib.hid (show (⟨#[109]⟩ : ByteArray) ++ acc = markT k by
        have h := HD.out
        rw [digs_zero, List.nil_append] at h
        unfold markT
        rw [if_neg (by omega), ← h]
        apply str_inj
        simp [ByteArray.toList_eq])
      clear HD
      go_wp2
      go_ret
      exact ⟨by rw [← HM.out]; rfl, hb⟩
end Go.Proofs.Ytppfgepoegicgaa
namespace Go.Proofs.Ytppfgepoegicgaa
open Go Go.RowKit

/-- What a mark does: it returns the next number; the data that it got read as marked; no other block has turned. -/
def PMark (k' : Int) (d : Dat) (c : Value) (fp : List Nat) (w : World) (e : Ending) (w' : World) : Prop := e = .returned (.int .i64 k') ∧ OD w' d c fp ∧ Upd fp w w'

set_option maxRecDepth 100000 in
set_option maxHeartbeats 2000000 in
theorem markStringS_calls (ss : List ByteArray) (A : Option Addr) (c : Nat) (k : Int) (fp : List Nat) (w : World) (hk0 : 0 ≤ k) (hk : k + ss.length ≤ 4611686018427387904) (h : OD w (.row 1 ss.length (strDs ss)) (.slice A ss.length c) fp) (hnd : fp.Nodup) :
    Calls Try.prog 56 #[.slice A ss.length c, .int .i64 k] w (PMark (k + ss.length) (.row 1 ss.length (strDs (mStrs ss k))) (.slice A ss.length c) fp w) := by
  have hn := h.rd'.len
  have H := Lib.hid h
  have HN := Lib.hid hnd
  clear h hnd
  go_enter Try.func56, Try.ntmps56
  go_wp2
  go_loopw [1, 5] (fun q i w' => ∃ (j : Nat) (ks : List ByteArray), j ≤ ss.length ∧ i = .int .i64 j ∧ q = .int .i64 (k + j) ∧ Hid (ks.length = j) ∧ Hid (ss = ks ++ ss.drop j) ∧ Hid (OD w' (.row 1 ss.length (strDs (mStrs ks k) ++ strDs (ss.drop j))) (.slice A ss.length c) fp) ∧ Upd fp w w') (fun _ i _ => ss.length - (intOf i).toNat)
  case atStart => exact ⟨0, [], by omega, rfl, by simp, (rfl : ([] : List ByteArray).length = 0), (rfl : ss = [] ++ ss.drop 0), H.out, Upd.refl _ _⟩
  case round =>
    obtain ⟨j, ks, hj, rfl, rfl, HL, HS, HO, HU⟩ := hrel
    by_cases hlt : j < ss.length
    · have hdr := List.drop_eq_getElem_cons hlt
      obtain ⟨s, es⟩ : ∃ s, s = ss[j] := ⟨_, rfl⟩
      rw [← es] at hdr
      have HD := Lib.hid hdr
      have ho := HO.out
      rw [hdr, show strDs (s :: ss.drop (j + 1)) = [.str s] ++ strDs (ss.drop (j + 1)) from rfl] at ho
      obtain ⟨g, t, us0, ue, us2, fe, rfl, hl0, hle, hM, hcl⟩ := ho.write HN.out (i := j) (by rw [strDs_length, mStrs_length, HL.out]; omega) rfl (by omega)
      rw [Nat.mul_one] at hl0
      obtain ⟨u0, rfl⟩ := len1 hle
      have HL0 := Lib.hid hl0
      have HCL := Lib.hid hcl
      have HM := Lib.hid hM
      clear hdr es ho hl0 hcl hM HO hle
      go_wp2_with fail
      refine (markText_calls _ _ (by omega)).mono ?_
      rintro e w1 ⟨rfl, hb1⟩
      have hM1 := HM.out.below hb1
      have x0 : w1.cell? ⟨g, j, none⟩ = some u0 := hM1.cell HL0.out 0 rfl
      have y0 := hM1.frozen j
      have hM2 := hM1.str HL0.out 0 rfl trivial _ (markT_size (k := k + j) (by omega))
      have HC := Lib.hid (HCL.out _ _ _ rfl hM2)
      clear hM1 hM2
      go_wp2
      go_roundw
      case rel => exact ⟨j + 1, ks ++ [s], by omega, by go_num, by go_num, (by rw [List.length_append, HL.out]; rfl : (ks ++ [s]).length = j + 1), (by rw [List.append_assoc, List.singleton_append, ← HD.out]; exact HS.out : ss = (ks ++ [s]) ++ ss.drop (j + 1)),
        (by rw [mStrs_append, strDs_append, HL.out, List.append_assoc]; exact HC.out.1 : OD _ (.row 1 ss.length (strDs (mStrs (ks ++ [s]) k) ++ strDs (ss.drop (j + 1)))) _ fp), HU.trans HC.out.2⟩
      case measure => simp [intOf]; omega
    · obtain rfl : j = ss.length := by omega
      have HO2 := Lib.hid (show OD wr (.row 1 ss.length (strDs (mStrs ss k))) (.slice A ss.length c) fp by
        have h1 := HO.out
        have h2 := HS.out
        rw [List.drop_length, List.append_nil] at h2
        rw [List.drop_length, ← h2] at h1
        simpa [strDs] using h1)
      clear HO HS HL
      go_wp2
      go_ret
      exact ⟨rfl, HO2.out, HU⟩
end Go.Proofs.Ytppfgepoegicgaa
namespace Go.Proofs.Ytppfgepoegicgaa
open Go Go.RowKit

def MarkVals (vs : List Val) : Prop := ∀ (A : Option Addr) (c : Nat) (k : Int) (fp : List Nat) (w : World), 0 ≤ k → k + vsCnt vs ≤ 4611686018427387904 → OD w (.row 5 vs.length (valsDs vs)) (.slice A vs.length c) fp → fp.Nodup →
    Calls Try.prog 57 #[.slice A vs.length c, .int .i64 k] w (PMark (k + vsCnt vs) (.row 5 vs.length (valsDs (mVals vs k))) (.slice A vs.length c) fp w)

set_option maxRecDepth 100000 in
set_option maxHeartbeats 2000000 in
theorem markVals_of (vs : List Val) (ih : ∀ kind n s keys list, (.mk kind n s keys list) ∈ vs → MarkVals list) : MarkVals vs := by
  intro A c k fp w hk0 hk h hnd
  have hn := h.rd'.len
  have H := Lib.hid h
  have HN := Lib.hid hnd
  have IH := Lib.hid ih
  have HK := Lib.hid hk
  clear h hnd ih hk
  go_enter Try.func57, Try.ntmps57
  go_wp2
  go_loopw [1, 5] (fun q i w' => ∃ (j : Nat) (ks : List Val) (r : Int), j ≤ vs.length ∧ i = .int .i64 j ∧ q = .int .i64 r ∧ 0 ≤ r ∧ Hid (r = k + vsCnt ks) ∧ Hid (ks.length = j) ∧ Hid (vs = ks ++ vs.drop j) ∧ Hid (OD w' (.row 5 vs.length (valsDs (mVals ks k) ++ valsDs (vs.drop j))) (.slice A vs.length c) fp) ∧ Upd fp w w') (fun _ i _ => vs.length - (intOf i).toNat)
  case atStart => exact ⟨0, [], k, by omega, rfl, rfl, hk0, (by simp [vsCnt] : k = k + vsCnt []), (rfl : ([] : List Val).length = 0), (rfl : vs = [] ++ vs.drop 0), H.out, Upd.refl _ _⟩
  case round =>
    obtain ⟨j, ks, r, hj, rfl, rfl, hr0, HR, HL, HS, HO, HU⟩ := hrel
    by_cases hlt : j < vs.length
    · have hdr := List.drop_eq_getElem_cons hlt
      obtain ⟨v, ev⟩ : ∃ v, v = vs[j] := ⟨_, rfl⟩
      rw [← ev] at hdr
      have hmem : v ∈ vs := by rw [ev]; exact List.getElem_mem _
      have HD := Lib.hid hdr
      have ho := HO.out
      rw [hdr, show valsDs (v :: vs.drop (j + 1)) = valDs v ++ valsDs (vs.drop (j + 1)) from rfl] at ho
      have hl5 : ∀ l : List Val, (valsDs l).length = l.length * 5 := fun l => by
        induction l with
        | nil => rfl
        | cons x l ih => simp [valsDs, valDs_length, ih]; omega
      obtain ⟨g, t, us0, ue, us2, fe, rfl, hl0, hle, hM, hcl⟩ := ho.write HN.out (i := j) (by rw [hl5, mVals_length, HL.out]) (valDs_length v) (by omega)
      have hsum : r + vCnt v ≤ 4611686018427387904 := by
        have h1 := HK.out
        have h2 := congrArg vsCnt HS.out
        rw [hdr, vsCnt_append, vsCnt] at h2
        have := HR.out
        omega
      obtain ⟨kind, n, s, keys, list, A1, c1, A2, c2, rfl, rfl, hs, hk1, hk2⟩ := valDs_open hM.own.rd'
      have IH2 := Lib.hid (IH.out _ _ _ _ _ hmem)
      have hcnt : (vCnt (.mk kind n s keys list) : Int) = 3 + keys.length + vsCnt list := by simp [vCnt]
      have b1 : r + 3 + keys.length + vsCnt list ≤ 4611686018427387904 := by omega
      have HL0 := Lib.hid hl0
      have HCL := Lib.hid hcl
      have x0 := hM.cell hl0 0 rfl
      have x1 := hM.cell hl0 1 rfl
      have x2 := hM.cell hl0 2 rfl
      have x3 := hM.cell hl0 3 rfl
      have x4 := hM.cell hl0 4 rfl
      have y0 := hM.frozen (j * 5)
      have y1 := hM.frozen (j * 5 + 1)
      have y2 := hM.frozen (j * 5 + 2)
      rw [Nat.add_zero] at x0
      have HM := Lib.hid hM
      have hcn := Lib.hid hcnt
      clear hdr ev ho hl0 hcl hM HO hle hk1 hk2 hs hcnt hsum hl5 hmem
      go_wp2_with fail
      refine (markText_calls _ _ (by omega)).mono ?_
      rintro e w1 ⟨rfl, hb1⟩
      have hM1 := (((HM.out.int HL0.out 0 rfl trivial _).int HL0.out 1 rfl trivial _).below hb1)
      have x2 := hM1.cell HL0.out 2 rfl
      have x3 := hM1.cell HL0.out 3 rfl
      have x4 := hM1.cell HL0.out 4 rfl
      have y2 := hM1.frozen (j * 5 + 2)
      have hM2 := hM1.str HL0.out 2 rfl trivial _ (markT_size (k := r + 1 + 1) (by omega))
      obtain ⟨f3, o3, nd3, cl3⟩ := hM2.row 3 rfl rfl
      have O3 := Lib.hid o3
      have N3 := Lib.hid nd3
      have C3 := Lib.hid cl3
      clear hM1 hM2 o3 nd3 cl3 hb1 y0 y1
      go_wp2_with fail
      refine (markStringS_calls _ _ _ _ _ _ (by omega) (by omega) O3.out N3.out).mono ?_
      rintro e w2 ⟨rfl, o4, u4⟩
      have hM3 := C3.out _ _ o4 u4
      have x4 := hM3.cell HL0.out 4 rfl
      obtain ⟨f4, p4, nd4, cl4⟩ := hM3.row 4 rfl rfl
      have O4 := Lib.hid p4
      have N4 := Lib.hid nd4
      have C4 := Lib.hid cl4
      clear hM3 p4 nd4 cl4 o4 u4 x2 x3 y2
      go_wp2_with fail
      refine (IH2.out _ _ _ _ _ (by omega) (by omega) O4.out N4.out).mono ?_
      rintro e w3 ⟨rfl, o5, u5⟩
      have HC := Lib.hid (HCL.out _ _ _ rfl (C4.out _ _ o5 u5))
      clear o5 u5 x4
      have HR2 := Lib.hid (show r + 1 + 1 + 1 + keys.length + vsCnt list = k + vsCnt (ks ++ [.mk kind n s keys list]) by
        have h1 := HR.out
        have h2 := hcn.out
        simp only [vsCnt_append, vsCnt]
        omega)
      have HL2 := Lib.hid (show (ks ++ [Val.mk kind n s keys list]).length = j + 1 by rw [List.length_append, HL.out]; rfl)
      have HS2 := Lib.hid (show vs = (ks ++ [.mk kind n s keys list]) ++ vs.drop (j + 1) by rw [List.append_assoc, List.singleton_append, ← HD.out]; exact HS.out)
      have HO2 := Lib.hid (show OD w3 (.row 5 vs.length (valsDs (mVals (ks ++ [.mk kind n s keys list]) k) ++ valsDs (vs.drop (j + 1)))) (.slice (some ⟨g, 0, none⟩) vs.length c) fp by
        rw [mVals_append, valsDs_append, List.append_assoc, ← HR.out]
        have h1 := HC.out.1
        simp only [List.set_cons_zero, List.set_cons_succ, valDs, mVals, mVal, valsDs, List.append_nil, mStrs_length, mVals_length] at h1 ⊢
        exact h1)
      have HU2 := HU.trans HC.out.2
      clear HC HR HL HS HU
      go_wp2
      go_roundw
      case rel => exact ⟨j + 1, _, _, by omega, by go_num, rfl, by omega, HR2, HL2, HS2, HO2, HU2⟩
      case measure => simp [intOf]; omega
    · obtain rfl : j = vs.length := by omega
      have HO2 := Lib.hid (show OD wr (.row 5 vs.length (valsDs (mVals vs k))) (.slice A vs.length c) fp by
        have h1 := HO.out
        have h2 := HS.out
        rw [List.drop_length, List.append_nil] at h2
        rw [List.drop_length, ← h2] at h1
        simpa [valsDs] using h1)
      have HR2 := Lib.hid (show r = k + vsCnt vs by
        have h2 := HS.out
        rw [List.drop_length, List.append_nil] at h2
        rw [h2]
        exact HR.out)
      clear HO HS HL HR
      go_wp2
      go_ret
      exact ⟨by rw [← HR2.out]; rfl, HO2.out, HU⟩
theorem markVals_all (v : Val) : ∀ kind n s keys list, v = .mk kind n s keys list → MarkVals list := by
  induction v using Val.ind with
  | h kind n s keys list ih =>
    intro _ _ _ _ _ e
    injection e with e1 e2 e3 e4 e5
    subst e5
    exact markVals_of _ fun kind n s keys l hm => ih _ hm _ _ _ _ _ rfl
theorem markVals_calls (vs : List Val) : MarkVals vs := markVals_of vs fun kind n s keys l _ => markVals_all (.mk kind n s keys l) _ _ _ _ _ rfl
end Go.Proofs.Ytppfgepoegicgaa
namespace Go.Proofs.Ytppfgepoegicgaa
open Go Go.RowKit

def kCnt (x : Kept) : Nat := 1 + vCnt x.v
def ksCnt : List Kept → Nat
  | [] => 0
  | x :: r => kCnt x + ksCnt r
def mKept (x : Kept) (k : Int) : Kept := ⟨markT k, mVal x.v (k + 1)⟩
def mKepts : List Kept → Int → List Kept
  | [], _ => []
  | x :: r, k => mKept x k :: mKepts r (k + kCnt x)
theorem ksCnt_append : ∀ a b : List Kept, ksCnt (a ++ b) = ksCnt a + ksCnt b
  | [], _ => by simp [ksCnt]
  | _ :: a, b => by simp [ksCnt, ksCnt_append a b, Nat.add_assoc]
theorem mKepts_length : ∀ (l : List Kept) (k : Int), (mKepts l k).length = l.length
  | [], _ => by simp [mKepts]
  | _ :: r, k => by simp [mKepts, mKepts_length r]
theorem mKepts_append : ∀ (a b : List Kept) (k : Int), mKepts (a ++ b) k = mKepts a k ++ mKepts b (k + ksCnt a)
  | [], _, _ => by simp [mKepts, ksCnt]
  | v :: a, b, k => by
    simp only [List.cons_append, mKepts, mKepts_append a b, ksCnt]
    congr 3
    omega
set_option maxRecDepth 100000 in
set_option maxHeartbeats 8000000 in
theorem markKepts_calls (vs : List Kept) : ∀ (A : Option Addr) (c : Nat) (k : Int) (fp : List Nat) (w : World), 0 ≤ k → k + ksCnt vs ≤ 4611686018427387904 → OD w (.row 6 vs.length (keptsDs vs)) (.slice A vs.length c) fp → fp.Nodup →
    Calls Try.prog 88 #[.slice A vs.length c, .int .i64 k] w (PMark (k + ksCnt vs) (.row 6 vs.length (keptsDs (mKepts vs k))) (.slice A vs.length c) fp w) := by
  intro A c k fp w hk0 hk h hnd
  have hn := h.rd'.len
  have H := Lib.hid h
  have HN := Lib.hid hnd
  have HK := Lib.hid hk
  clear h hnd hk
  go_enter Try.func88, Try.ntmps88
  go_wp2
  go_loopw [1, 5] (fun q i w' => ∃ (j : Nat) (ks : List Kept) (r : Int), j ≤ vs.length ∧ i = .int .i64 j ∧ q = .int .i64 r ∧ 0 ≤ r ∧ Hid (r = k + ksCnt ks) ∧ Hid (ks.length = j) ∧ Hid (vs = ks ++ vs.drop j) ∧ Hid (OD w' (.row 6 vs.length (keptsDs (mKepts ks k) ++ keptsDs (vs.drop j))) (.slice A vs.length c) fp) ∧ Upd fp w w') (fun _ i _ => vs.length - (intOf i).toNat)
  case atStart => exact ⟨0, [], k, by omega, rfl, rfl, hk0, (by simp [ksCnt] : k = k + ksCnt []), (rfl : ([] : List Kept).length = 0), (rfl : vs = [] ++ vs.drop 0), (by have h := H.out; simpa [mKepts, keptsDs] using h : OD _ (.row 6 vs.length (keptsDs (mKepts [] k) ++ keptsDs (vs.drop 0))) _ fp), Upd.refl _ _⟩
  case round =>
    obtain ⟨j, ks, r, hj, rfl, rfl, hr0, HR, HL, HS, HO, HU⟩ := hrel
    by_cases hlt : j < vs.length
    · have hdr := List.drop_eq_getElem_cons hlt
      obtain ⟨v, ev⟩ : ∃ v, v = vs[j] := ⟨_, rfl⟩
      rw [← ev] at hdr
      have hmem : v ∈ vs := by rw [ev]; exact List.getElem_mem _
      have HD := Lib.hid hdr
      have ho := HO.out
      rw [hdr, show keptsDs (v :: vs.drop (j + 1)) = keptDs v ++ keptsDs (vs.drop (j + 1)) from rfl] at ho
      have hl5 : ∀ l : List Kept, (keptsDs l).length = l.length * 6 := fun l => by
        induction l with
        | nil => rfl
        | cons x l ih => simp [keptsDs, keptDs_length, ih]; omega
      obtain ⟨g, t, us0, ue, us2, fe, rfl, hl0, hle, hM, hcl⟩ := ho.write HN.out (i := j) (by rw [hl5, mKepts_length, HL.out]) (keptDs_length v) (by omega)
      have hsum : r + kCnt v ≤ 4611686018427387904 := by
        have h1 := HK.out
        have h2 := congrArg ksCnt HS.out
        rw [hdr, ksCnt_append, ksCnt] at h2
        have := HR.out
        omega
      obtain ⟨nm, xv⟩ := v
      obtain ⟨us', rfl, hsn, hv⟩ := keptDs_open hM.own.rd'
      obtain ⟨kind, n, s, keys, list, A1, c1, A2, c2, rfl, rfl, hs, hk1, hk2⟩ := valDs_open (v := xv) hv
      have hcnt : (kCnt ⟨nm, .mk kind n s keys list⟩ : Int) = 1 + (3 + keys.length + vsCnt list) := by simp [kCnt, vCnt]
      have b1 : r + 1 + 3 + keys.length + vsCnt list ≤ 4611686018427387904 := by omega
      have HL0 := Lib.hid hl0
      have HCL := Lib.hid hcl
      have x0 := hM.cell hl0 0 rfl
      have y0 := hM.frozen (j * 6)
      have x1 := hM.cell hl0 1 rfl
      have y1 := hM.frozen (j * 6 + 1)
      have x2 := hM.cell hl0 2 rfl
      have y2 := hM.frozen (j * 6 + 2)
      have x3 := hM.cell hl0 3 rfl
      have y3 := hM.frozen (j * 6 + 3)
      have x4 := hM.cell hl0 4 rfl
      have y4 := hM.frozen (j * 6 + 4)
      have x5 := hM.cell hl0 5 rfl
      have y5 := hM.frozen (j * 6 + 5)
      rw [Nat.add_zero] at x0
      have HM := Lib.hid hM
      have hcn := Lib.hid hcnt
      clear hdr ev ho hl0 hcl hM HO hle hcnt hsum hl5 hmem hk1 hk2 hs hsn hv
      go_wp2_with fail
      refine (markText_calls _ _ (by omega)).mono ?_
      rintro e w1 ⟨rfl, hb1⟩
      have hM1 := (HM.out.below hb1)
      clear x0 y0 x1 y1 x2 y2 x3 y3 x4 y4 x5 y5
      have x0 := hM1.cell HL0.out 0 rfl
      have y0 := hM1.frozen (j * 6)
      rw [Nat.add_zero] at x0
      have x1 := hM1.cell HL0.out 1 rfl
      have y1 := hM1.frozen (j * 6 + 1)
      have x2 := hM1.cell HL0.out 2 rfl
      have y2 := hM1.frozen (j * 6 + 2)
      have x3 := hM1.cell HL0.out 3 rfl
      have y3 := hM1.frozen (j * 6 + 3)
      have x4 := hM1.cell HL0.out 4 rfl
      have y4 := hM1.frozen (j * 6 + 4)
      have x5 := hM1.cell HL0.out 5 rfl
      have y5 := hM1.frozen (j * 6 + 5)
      have M1 := Lib.hid (hM1.str HL0.out 0 rfl trivial _ (markT_size (k := r) (by omega)))
      clear hM1 hb1
      go_wp2_with fail
      refine (markText_calls _ _ (by omega)).mono ?_
      rintro e w2 ⟨rfl, hb1⟩
      have hM1 := (((M1.out.int HL0.out 1 rfl trivial _).int HL0.out 2 rfl trivial _).below hb1)
      clear x0 y0 x1 y1 x2 y2 x3 y3 x4 y4 x5 y5
      have x3 := hM1.cell HL0.out 3 rfl
      have y3 := hM1.frozen (j * 6 + 3)
      have x4 := hM1.cell HL0.out 4 rfl
      have y4 := hM1.frozen (j * 6 + 4)
      have x5 := hM1.cell HL0.out 5 rfl
      have y5 := hM1.frozen (j * 6 + 5)
      have M2 := Lib.hid (hM1.str HL0.out 3 rfl trivial _ (markT_size (k := r + 1 + 1 + 1) (by omega)))
      clear hM1 hb1
      obtain ⟨f4, o3, nd3, cl3⟩ := M2.out.row 4 rfl rfl
      have O4 := Lib.hid o3
      have N4 := Lib.hid nd3
      have C4 := Lib.hid cl3
      clear o3 nd3 cl3
      go_wp2_with fail
      refine (markStringS_calls _ _ _ _ _ _ (by omega) (by omega) O4.out N4.out).mono ?_
      rintro e w3 ⟨rfl, o5, u5⟩
      clear x3 y3 x4 y4 x5 y5
      have hM1 := C4.out _ _ o5 u5
      have x5 := hM1.cell HL0.out 5 rfl
      have y5 := hM1.frozen (j * 6 + 5)
      have M3 := Lib.hid hM1
      clear hM1 o5 u5
      obtain ⟨f5, o3, nd3, cl3⟩ := M3.out.row 5 rfl rfl
      have O5 := Lib.hid o3
      have N5 := Lib.hid nd3
      have C5 := Lib.hid cl3
      clear o3 nd3 cl3
      go_wp2_with fail
      refine (markVals_calls _ _ _ _ _ _ (by omega) (by omega) O5.out N5.out).mono ?_
      rintro e w4 ⟨rfl, o5, u5⟩
      clear x5 y5
      have HC := Lib.hid (HCL.out _ _ _ rfl (C5.out _ _ o5 u5))
      clear o5 u5
      have HR2 := Lib.hid (show r + 1 + 1 + 1 + 1 + keys.length + vsCnt list = k + ksCnt (ks ++ [⟨nm, .mk kind n s keys list⟩]) by
        have h1 := HR.out
        have h2 := hcn.out
        simp only [ksCnt_append, ksCnt]
        omega)
      have HL2 := Lib.hid (show (ks ++ [(⟨nm, .mk kind n s keys list⟩ : Kept)]).length = j + 1 by rw [List.length_append, HL.out]; rfl)
      have HS2 := Lib.hid (show vs = (ks ++ [⟨nm, .mk kind n s keys list⟩]) ++ vs.drop (j + 1) by rw [List.append_assoc, List.singleton_append, ← HD.out]; exact HS.out)
      have HO2 := Lib.hid (show OD w4 (.row 6 vs.length (keptsDs (mKepts (ks ++ [⟨nm, .mk kind n s keys list⟩]) k) ++ keptsDs (vs.drop (j + 1)))) (.slice (some ⟨g, 0, none⟩) vs.length c) fp by
        rw [mKepts_append, keptsDs_append, List.append_assoc, ← HR.out]
        have h1 := HC.out.1
        simp only [List.set_cons_zero, List.set_cons_succ, List.cons_append, List.nil_append, keptDs, mKept, mKepts, keptsDs, valDs, mVal, List.append_nil, mStrs_length, mVals_length] at h1 ⊢
        exact h1)
      have HU2 := HU.trans HC.out.2
      clear HC HR HL HS HU
      go_wp2
      go_roundw
      case rel => exact ⟨j + 1, _, _, by omega, by go_num, rfl, by omega, HR2, HL2, HS2, HO2, HU2⟩
      case measure => simp [intOf]; omega
    · obtain rfl : j = vs.length := by omega
      have HO2 := Lib.hid (show OD wr (.row 6 vs.length (keptsDs (mKepts vs k))) (.slice A vs.length c) fp by
        have h1 := HO.out
        have h2 := HS.out
        rw [List.drop_length, List.append_nil] at h2
        rw [List.drop_length, ← h2] at h1
        simpa [keptsDs] using h1)
      have HR2 := Lib.hid (show r = k + ksCnt vs by
        have h2 := HS.out
        rw [List.drop_length, List.append_nil] at h2
        rw [h2]
        exact HR.out)
      clear HO HS HL HR
      go_wp2
      go_ret
      exact ⟨by rw [← HR2.out]; rfl, HO2.out, HU⟩
end Go.Proofs.Ytppfgepoegicgaa
namespace Go.Proofs.Ytppfgepoegicgaa
open Go Go.RowKit

def aCnt (x : Asker) : Nat := 3 + ksCnt x.trees
def asCnt : List Asker → Nat
  | [] => 0
  | x :: r => aCnt x + asCnt r
def mAsker (x : Asker) (k : Int) : Asker := ⟨markT k, k + 1, k + 1 + 1, mKepts x.trees (k + 1 + 1 + 1)⟩
def mAskers : List Asker → Int → List Asker
  | [], _ => []
  | x :: r, k => mAsker x k :: mAskers r (k + aCnt x)
theorem asCnt_append : ∀ a b : List Asker, asCnt (a ++ b) = asCnt a + asCnt b
  | [], _ => by simp [asCnt]
  | _ :: a, b => by simp [asCnt, asCnt_append a b, Nat.add_assoc]
theorem mAskers_length : ∀ (l : List Asker) (k : Int), (mAskers l k).length = l.length
  | [], _ => by simp [mAskers]
  | _ :: r, k => by simp [mAskers, mAskers_length r]
theorem mAskers_append : ∀ (a b : List Asker) (k : Int), mAskers (a ++ b) k = mAskers a k ++ mAskers b (k + asCnt a)
  | [], _, _ => by simp [mAskers, asCnt]
  | v :: a, b, k => by
    simp only [List.cons_append, mAskers, mAskers_append a b, asCnt]
    congr 3
    omega
set_option maxRecDepth 100000 in
set_option maxHeartbeats 8000000 in
theorem markAskers_calls (vs : List Asker) : ∀ (A : Option Addr) (c : Nat) (k : Int) (fp : List Nat) (w : World), 0 ≤ k → k + asCnt vs ≤ 4611686018427387904 → OD w (.row 4 vs.length (askersDs vs)) (.slice A vs.length c) fp → fp.Nodup →
    Calls Try.prog 55 #[.slice A vs.length c, .int .i64 k] w (PMark (k + asCnt vs) (.row 4 vs.length (askersDs (mAskers vs k))) (.slice A vs.length c) fp w) := by
  intro A c k fp w hk0 hk h hnd
  have hn := h.rd'.len
  have H := Lib.hid h
  have HN := Lib.hid hnd
  have HK := Lib.hid hk
  clear h hnd hk
  go_enter Try.func55, Try.ntmps55
  go_wp2
  go_loopw [1, 5] (fun q i w' => ∃ (j : Nat) (ks : List Asker) (r : Int), j ≤ vs.length ∧ i = .int .i64 j ∧ q = .int .i64 r ∧ 0 ≤ r ∧ Hid (r = k + asCnt ks) ∧ Hid (ks.length = j) ∧ Hid (vs = ks ++ vs.drop j) ∧ Hid (OD w' (.row 4 vs.length (askersDs (mAskers ks k) ++ askersDs (vs.drop j))) (.slice A vs.length c) fp) ∧ Upd fp w w') (fun _ i _ => vs.length - (intOf i).toNat)
  case atStart => exact ⟨0, [], k, by omega, rfl, rfl, hk0, (by simp [asCnt] : k = k + asCnt []), (rfl : ([] : List Asker).length = 0), (rfl : vs = [] ++ vs.drop 0), (by have h := H.out; simpa [mAskers, askersDs] using h : OD _ (.row 4 vs.length (askersDs (mAskers [] k) ++ askersDs (vs.drop 0))) _ fp), Upd.refl _ _⟩
  case round =>
    obtain ⟨j, ks, r, hj, rfl, rfl, hr0, HR, HL, HS, HO, HU⟩ := hrel
    by_cases hlt : j < vs.length
    · have hdr := List.drop_eq_getElem_cons hlt
      obtain ⟨v, ev⟩ : ∃ v, v = vs[j] := ⟨_, rfl⟩
      rw [← ev] at hdr
      have hmem : v ∈ vs := by rw [ev]; exact List.getElem_mem _
      have HD := Lib.hid hdr
      have ho := HO.out
      rw [hdr, show askersDs (v :: vs.drop (j + 1)) = askerDs v ++ askersDs (vs.drop (j + 1)) from rfl] at ho
      have hl5 : ∀ l : List Asker, (askersDs l).length = l.length * 4 := fun l => by
        induction l with
        | nil => rfl
        | cons x l ih => simp [askersDs, askerDs_length, ih]; omega
      obtain ⟨g, t, us0, ue, us2, fe, rfl, hl0, hle, hM, hcl⟩ := ho.write HN.out (i := j) (by rw [hl5, mAskers_length, HL.out]) (askerDs_length v) (by omega)
      have hsum : r + aCnt v ≤ 4611686018427387904 := by
        have h1 := HK.out
        have h2 := congrArg asCnt HS.out
        rw [hdr, asCnt_append, asCnt] at h2
        have := HR.out
        omega
      obtain ⟨nm, most, fuel, trees⟩ := v
      obtain ⟨A1, c1, rfl, hsn, hk1⟩ := askerDs_open hM.own.rd'
      have hcnt : (aCnt ⟨nm, most, fuel, trees⟩ : Int) = 3 + ksCnt trees := by simp [aCnt]
      have b1 : r + 3 + ksCnt trees ≤ 4611686018427387904 := by omega
      have HL0 := Lib.hid hl0
      have HCL := Lib.hid hcl
      have x0 := hM.cell hl0 0 rfl
      have y0 := hM.frozen (j * 4)
      have x1 := hM.cell hl0 1 rfl
      have y1 := hM.frozen (j * 4 + 1)
      have x2 := hM.cell hl0 2 rfl
      have y2 := hM.frozen (j * 4 + 2)
      have x3 := hM.cell hl0 3 rfl
      have y3 := hM.frozen (j * 4 + 3)
      rw [Nat.add_zero] at x0
      have HM := Lib.hid hM
      have hcn := Lib.hid hcnt
      clear hdr ev ho hl0 hcl hM HO hle hcnt hsum hl5 hmem hsn hk1
      go_wp2_with fail
      refine (markText_calls _ _ (by omega)).mono ?_
      rintro e w1 ⟨rfl, hb1⟩
      have hM1 := (HM.out.below hb1)
      clear x0 y0 x1 y1 x2 y2 x3 y3
      have x0 := hM1.cell HL0.out 0 rfl
      have y0 := hM1.frozen (j * 4)
      rw [Nat.add_zero] at x0
      have x1 := hM1.cell HL0.out 1 rfl
      have y1 := hM1.frozen (j * 4 + 1)
      have x2 := hM1.cell HL0.out 2 rfl
      have y2 := hM1.frozen (j * 4 + 2)
      have x3 := hM1.cell HL0.out 3 rfl
      have y3 := hM1.frozen (j * 4 + 3)
      have M1 := Lib.hid (hM1.str HL0.out 0 rfl trivial _ (markT_size (k := r) (by omega)))
      clear hM1 hb1
      obtain ⟨f3, o3, nd3, cl3⟩ := ((M1.out.int HL0.out 1 rfl trivial _).int HL0.out 2 rfl trivial _).row 3 rfl rfl
      have O3 := Lib.hid o3
      have N3 := Lib.hid nd3
      have C3 := Lib.hid cl3
      clear o3 nd3 cl3
      go_wp2_with fail
      refine (markKepts_calls _ _ _ _ _ _ (by omega) (by omega) O3.out N3.out).mono ?_
      rintro e w2 ⟨rfl, o5, u5⟩
      clear x0 y0 x1 y1 x2 y2 x3 y3
      have HC := Lib.hid (HCL.out _ _ _ rfl (C3.out _ _ o5 u5))
      clear o5 u5
      have HR2 := Lib.hid (show r + 1 + 1 + 1 + ksCnt trees = k + asCnt (ks ++ [⟨nm, most, fuel, trees⟩]) by
        have h1 := HR.out
        have h2 := hcn.out
        simp only [asCnt_append, asCnt]
        omega)
      have HL2 := Lib.hid (show (ks ++ [(⟨nm, most, fuel, trees⟩ : Asker)]).length = j + 1 by rw [List.length_append, HL.out]; rfl)
      have HS2 := Lib.hid (show vs = (ks ++ [⟨nm, most, fuel, trees⟩]) ++ vs.drop (j + 1) by rw [List.append_assoc, List.singleton_append, ← HD.out]; exact HS.out)
      have HO2 := Lib.hid (show OD w2 (.row 4 vs.length (askersDs (mAskers (ks ++ [⟨nm, most, fuel, trees⟩]) k) ++ askersDs (vs.drop (j + 1)))) (.slice (some ⟨g, 0, none⟩) vs.length c) fp by
        rw [mAskers_append, askersDs_append, List.append_assoc, ← HR.out]
        have h1 := HC.out.1
        simp only [List.set_cons_zero, List.set_cons_succ, List.cons_append, List.nil_append, askerDs, mAsker, mAskers, askersDs, List.append_nil, mKepts_length] at h1 ⊢
        exact h1)
      have HU2 := HU.trans HC.out.2
      clear HC HR HL HS HU
      go_wp2
      go_roundw
      case rel => exact ⟨j + 1, _, _, by omega, by go_num, rfl, by omega, HR2, HL2, HS2, HO2, HU2⟩
      case measure => simp [intOf]; omega
    · obtain rfl : j = vs.length := by omega
      have HO2 := Lib.hid (show OD wr (.row 4 vs.length (askersDs (mAskers vs k))) (.slice A vs.length c) fp by
        have h1 := HO.out
        have h2 := HS.out
        rw [List.drop_length, List.append_nil] at h2
        rw [List.drop_length, ← h2] at h1
        simpa [askersDs] using h1)
      have HR2 := Lib.hid (show r = k + asCnt vs by
        have h2 := HS.out
        rw [List.drop_length, List.append_nil] at h2
        rw [h2]
        exact HR.out)
      clear HO HS HL HR
      go_wp2
      go_ret
      exact ⟨by rw [← HR2.out]; rfl, HO2.out, HU⟩
end Go.Proofs.Ytppfgepoegicgaa
