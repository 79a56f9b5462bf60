/- Marking a whole tree; how many marks a tree of the law's size takes. -/
import Derived.Test.YtppfgepoegicgaaDoorZMarkV
import Derived.Test.YtppfgepoegicgaaDoorGa
namespace Go.Proofs.YtppfgepoegicgaaDoor
open Go Go.RowKit

theorem sz_cons_ {d : Dat} {ds : List Dat} {l : Int} (hl : 0 ≤ l) (h : 0 ≤ szDs (d :: ds) l) : 0 ≤ szD d l ∧ szD d l ≤ l ∧ 0 ≤ szDs ds (szD d l) := by
  have h1 := szD_range d l hl
  simp only [szDs] at h
  split at h
  · omega
  · exact ⟨by omega, by omega, h⟩
theorem sz_row_ {z n : Nat} {cells : List Dat} {l : Int} (h : 0 ≤ szD (.row z n cells) l) : 0 ≤ l - n ∧ 0 ≤ szDs cells (l - n) ∧ szD (.row z n cells) l = szDs cells (l - n) := by
  simp only [szD] at h ⊢
  split at h
  · omega
  · next h2 => exact ⟨by omega, h, by rw [if_neg h2]⟩
mutual
def scal : Dat → Nat
  | .int _ => 1
  | .str _ => 1
  | .row _ _ cells => scals cells
def scals : List Dat → Nat
  | [] => 0
  | d :: ds => scal d + scals ds
end
mutual
def WfD : Dat → Prop
  | .int _ => True
  | .str _ => True
  | .row _ n cells => cells.length ≤ 9 * n ∧ WfDs cells
def WfDs : List Dat → Prop
  | [] => True
  | d :: ds => WfD d ∧ WfDs ds
end
theorem scals_append : ∀ a b : List Dat, scals (a ++ b) = scals a + scals b
  | [], _ => by simp [scals]
  | _ :: a, b => by simp [scals, scals_append a b, Nat.add_assoc]
theorem wfDs_append : ∀ {a b : List Dat}, WfDs (a ++ b) ↔ WfDs a ∧ WfDs b
  | [], _ => by simp [WfDs]
  | _ :: a, b => by simp [WfDs, wfDs_append (a := a) (b := b), and_assoc]
mutual
theorem scal_of_sz : ∀ (d : Dat) (l : Int), WfD d → 0 ≤ l → 0 ≤ szD d l → (scal d : Int) ≤ 1 + 9 * (l - szD d l)
  | .int _, l, _, _, _ => by simp only [scal, szD]; omega
  | .str s, l, _, h0, h => by
    simp only [scal, szD] at h ⊢
    split at h
    · omega
    · next h1 => rw [if_neg h1]; omega
  | .row _ n cells, l, hw, h0, h => by
    obtain ⟨h1, h2, h3⟩ := sz_row_ h
    have := scals_of_sz cells (l - n) hw.2 h1 h2
    have := hw.1
    rw [h3]
    simp only [scal]
    omega
theorem scals_of_sz : ∀ (ds : List Dat) (l : Int), WfDs ds → 0 ≤ l → 0 ≤ szDs ds l → (scals ds : Int) ≤ ds.length + 9 * (l - szDs ds l)
  | [], l, _, _, _ => by simp [scals, szDs]
  | d :: ds, l, hw, h0, h => by
    obtain ⟨h1, h2, h3⟩ := sz_cons_ h0 h
    have e1 := scal_of_sz d l hw.1 h0 h1
    have e2 := scals_of_sz ds _ hw.2 h1 h3
    have e3 : szDs (d :: ds) l = szDs ds (szD d l) := by
      simp only [szDs]
      rw [if_neg (by omega)]
    rw [e3]
    simp only [scals, List.length_cons]
    omega
end
theorem strDs_scal : ∀ ks : List ByteArray, scals (strDs ks) = ks.length ∧ WfDs (strDs ks)
  | [] => ⟨rfl, trivial⟩
  | _ :: r => by
    have := strDs_scal r
    refine ⟨by simp [strDs, scals, scal, this.1]; omega, trivial, this.2⟩
theorem valsDs_len : ∀ l : List Val, (valsDs l).length = l.length * 5
  | [] => rfl
  | x :: l => by simp [valsDs, valDs_length, valsDs_len l]; omega
theorem vals_scal_of : ∀ (l : List Val), (∀ v ∈ l, scals (valDs v) = vCnt v ∧ WfDs (valDs v)) → scals (valsDs l) = vsCnt l ∧ WfDs (valsDs l)
  | [], _ => ⟨by simp [valsDs, scals, vsCnt], trivial⟩
  | v :: r, h => by
    have h1 := h v List.mem_cons_self
    have h2 := vals_scal_of r fun x hx => h x (List.mem_cons_of_mem _ hx)
    refine ⟨by simp [valsDs, scals_append, vsCnt, h1.1, h2.1], ?_⟩
    simp only [valsDs]
    exact wfDs_append.2 ⟨h1.2, h2.2⟩
theorem val_scal : ∀ v, scals (valDs v) = vCnt v ∧ WfDs (valDs v) := Val.ind fun kind n s keys list ih => by
  have h1 := strDs_scal keys
  have h2 := vals_scal_of list ih
  refine ⟨?_, trivial, trivial, trivial, ⟨by rw [strDs_length]; omega, h1.2⟩, ⟨by rw [valsDs_len]; omega, h2.2⟩, trivial⟩
  simp only [valDs, scals, scal, vCnt, h1.1, h2.1]
  omega
theorem val_few (v : Val) {l : Int} (h0 : 0 ≤ l) (h1 : l ≤ 1048576) (h : 0 ≤ szDs (valDs v) l) : vCnt v ≤ 10000000 := by
  have h2 := val_scal v
  have h3 := scals_of_sz (valDs v) l h2.2 h0 h
  rw [h2.1, valDs_length] at h3
  omega
/-- A tree, its own parts marked (not its head). -/
def mTop : Val → Int → Val
  | .mk kind n s keys list, k => .mk kind n s (mStrs keys k) (mVals list (k + keys.length))
def topCnt : Val → Nat
  | .mk _ _ _ keys list => keys.length + vsCnt list
theorem topCnt_le (v : Val) : topCnt v + 3 = vCnt v := by
  obtain ⟨_, _, _, _, _⟩ := v
  simp only [topCnt, vCnt]
  omega
def PMarks (k' : Int) (ds : List Dat) (us : List Value) (fp : List Nat) (w : World) (e : Ending) (w' : World) : Prop := e = .returned (.int .i64 k') ∧ ODv w' ds us fp ∧ Upd fp w w'
theorem rowOwn {w : World} {d : Dat} {c : Value} {us : List Value} {fp : List Nat} (h : ODv w [d] us fp) : ∃ u, us = [u] ∧ OD w d u fp := by
  obtain ⟨u, us', f1, f2, rfl, rfl, h1, rfl, rfl⟩ := h
  exact ⟨u, rfl, by simpa using h1⟩

set_option maxRecDepth 100000 in
set_option maxHeartbeats 4000000 in
theorem markVal_calls (v : Val) (us : List Value) (k : Int) (fp : List Nat) (w : World) (hk0 : 0 ≤ k) (hk : k + topCnt v ≤ 4611686018427387904) (h : ODv w (valDs v) us fp) (hnd : fp.Nodup) :
    Calls Tryd.prog 35 #[.agg us.toArray, .int .i64 k] w (PMarks (k + topCnt v) (valDs (mTop v k)) us fp w) := by
  have hr := h.rd'
  obtain ⟨kind, n, s, keys, list, A1, c1, A2, c2, rfl, rfl, hs, _, _⟩ := valDs_open hr
  simp only [topCnt] at hk
  obtain ⟨W, eW⟩ : ∃ W, W = w.alloc (.cells #[.int .i64 kind, .int .i64 n, .string s, .slice A1 keys.length c1, .slice A2 list.length c2] 33) := ⟨_, rfl⟩
  have hbx : Below w.heap.size w W := by rw [eW]; exact below_box _ _
  have bP : Blk W w.heap.size 33 [.int .i64 kind, .int .i64 n, .string s, .slice A1 keys.length c1, .slice A2 list.length c2] := by rw [eW]; exact Blk.new _ _ _
  have hW : ODv W (valDs (.mk kind n s keys list)) [.int .i64 kind, .int .i64 n, .string s, .slice A1 keys.length c1, .slice A2 list.length c2] fp := ODv.keep _ _ _ (fun b hb => hbx.block b (ODv.lt _ _ _ h b hb)) h
  obtain ⟨fa, f3, fb, e3, o3, cl3⟩ := hW.pick 3 rfl rfl
  have hlt := ODv.lt _ _ _ h
  have hnd3 : f3.Nodup ∧ (∀ b ∈ fa ++ fb, b ∉ f3) := by
    rw [e3] at hnd
    obtain ⟨k1, k2, k3⟩ := List.nodup_append.1 hnd
    obtain ⟨m1, m2, m3⟩ := List.nodup_append.1 k2
    refine ⟨m1, fun b hb hm => ?_⟩
    rcases List.mem_append.1 hb with hb | hb
    · exact k3 b hb b (List.mem_append_left _ hm) rfl
    · exact m3 b hm b hb rfl
  have EW := Lib.hid eW
  have O3 := Lib.hid o3
  have C3 := Lib.hid cl3
  have E3 := Lib.hid e3
  have HP := Lib.hid bP
  have HN := Lib.hid hnd
  have HN3 := Lib.hid hnd3
  have HLT := Lib.hid hlt
  obtain ⟨cP, fP⟩ := blk_rules bP
  clear hr h eW bP hW o3 cl3 e3 hnd hnd3 hlt
  go_enter Tryd.func35, Tryd.ntmps35
  go_wp2_with fail
  rw [← EW.out]
  refine (markStringS_calls keys A1 c1 k f3 _ hk0 (by omega) O3.out HN3.out.1).mono ?_
  rintro e w1 ⟨rfl, h1, h2⟩
  have hfp : ∀ b ∈ fp, b < W.heap.size := fun b hb => Nat.lt_of_lt_of_le (HLT.out b hb) hbx.size
  have hm1 := C3.out w1 _ h1 fun b hb => h2.block b (hfp b (by rw [E3.out]; rcases List.mem_append.1 hb with hb | hb <;> simp [hb])) (HN3.out.2 b hb)
  have hP1 := h2.blk (fun hm => by have := HLT.out w.heap.size (by rw [E3.out]; simp [hm]); omega) HP.out
  obtain ⟨ga, f4, gb, e4, o4, cl4⟩ := hm1.pick 4 rfl rfl
  have hnd4 : f4.Nodup ∧ (∀ b ∈ ga ++ gb, b ∉ f4) := by
    have hnd := HN.out
    rw [e4] at hnd
    obtain ⟨k1, k2, k3⟩ := List.nodup_append.1 hnd
    obtain ⟨m1, m2, m3⟩ := List.nodup_append.1 k2
    refine ⟨m1, fun b hb hm => ?_⟩
    rcases List.mem_append.1 hb with hb | hb
    · exact k3 b hb b (List.mem_append_left _ hm) rfl
    · exact m3 b hm b hb rfl
  have hsz := h2.size
  have U1 := Lib.hid (show Upd fp w w1 from (Upd.of_below hbx).trans (h2.mono fun b hb => by rw [E3.out]; simp [hb]))
  have O4 := Lib.hid o4
  have C4 := Lib.hid cl4
  have E4 := Lib.hid e4
  have HN4 := Lib.hid hnd4
  have HP1 := Lib.hid hP1
  clear h1 h2 hm1 o4 cl4 e4 hnd4 hP1 cP fP
  obtain ⟨cP, fP⟩ := blk_rules HP1.out
  go_wp2_with fail
  refine (markVals_calls list A2 c2 _ f4 _ (by omega) (by omega) O4.out HN4.out.1).mono ?_
  rintro e w2 ⟨rfl, h3, h4⟩
  have hm2 := C4.out w2 _ h3 fun b hb => h4.block b (Nat.lt_of_lt_of_le (hfp b (by rw [E4.out]; rcases List.mem_append.1 hb with hb | hb <;> simp [hb])) hsz) (HN4.out.2 b hb)
  have HM := Lib.hid hm2
  have U2 := Lib.hid (U1.out.trans (h4.mono fun b hb => by rw [E4.out]; simp [hb]))
  clear h3 h4 hm2 hfp cP fP
  go_wp2
  go_ret
  refine ⟨by simp only [topCnt]; rw [show k + keys.length + vsCnt list = k + ((keys.length + vsCnt list : Nat) : Int) by omega]; rfl, ?_, U2.out⟩
  have h1 := HM.out
  simp only [valDs, mTop, mStrs_length, mVals_length, List.set_cons_zero, List.set_cons_succ] at h1 ⊢
  exact h1

end Go.Proofs.YtppfgepoegicgaaDoor
