/- Parts of the proof: OkImpl, OkI3, OkI4. -/
import Derived.Test.YtppfgepoegicgaaGreatDoorGc
import Derived.IntWalk
namespace Go.Proofs.YtppfgepoegicgaaGreatDoor
open Go Go.RowKit

theorem grown_box (w : World) (g : Nat) (o : Obj) (u : Value) : w.grownBy ((w.setCell ⟨g, 0, none⟩ u).alloc o) (some g) :=
  ⟨rfl, rfl, rfl, by simp [World.setCell], fun k hk hne => (Below.heap_alloc _ _ _ (by simpa [World.setCell] using hk)).trans (Below.heap_setCell _ _ _ _ (fun e => hne (by rw [e])))⟩
theorem grown_below {w w' : World} {g B : Nat} (h : w.grownBy w' (some g)) (hB : B ≤ g) (hg : g < w.heap.size) : Below B w w' :=
  ⟨h.os, h.tape, h.output, h.size, fun k hk => h.block k (by omega) (fun e => by injection e; omega)⟩
theorem blk_box {w : World} {g : Nat} {t : TypeId} {c : Value} (h : Blk w g t [c]) (o : Obj) (u : Value) : Blk ((w.setCell ⟨g, 0, none⟩ u).alloc o) g t [u] := (h.set_ 0 u).alloc o

/-- What a tree's ok does: it takes its parts off the number behind the pointer. -/
def POk (p : Prop) (c : Nat) (l : Int) (g : Nat) (w : World) (e : Ending) (w' : World) : Prop :=
  ∃ (r : Bool) (l' : Int), e = .returned (.bool r) ∧ (r = true ↔ p ∧ (c : Int) ≤ l) ∧ (r = true → l' = l - c) ∧ Blk w' g 3 [.int .i64 l'] ∧ w.grownBy w' (some g)
theorem POk.no {p : Prop} {c : Nat} {l l' : Int} {g : Nat} {w w' : World} (h : ¬ (p ∧ (c : Int) ≤ l)) (h1 : Blk w' g 3 [.int .i64 l']) (h2 : w.grownBy w' (some g)) : POk p c l g w (.returned (.bool false)) w' :=
  ⟨false, l', rfl, ⟨(fun e => by cases e), fun e => absurd e h⟩, (fun e => by cases e), h1, h2⟩

def IOk (v : Val) : Prop := ∀ (us : List Value) (w : World) (B g d : Nat) (l di : Int), di = 7 - (d : Int) → d ≤ 6 → B ≤ g → Blk w g 3 [.int .i64 l] → 0 ≤ l → l ≤ 60 → RDv w B (valDs v) us →
  Calls Tryz.prog 75 #[.agg us.toArray, .int .i64 di, .pointer (some ⟨g, 0, none⟩)] w (POk (Form d v) (valCnt v) l g w)
theorem cnt_pos (v : Val) : 1 ≤ valCnt v := by
  obtain ⟨_, _, _, _, _⟩ := v
  simp only [valCnt]
  omega

set_option maxRecDepth 100000 in
set_option maxHeartbeats 4000000 in
theorem iOk_bad (kind n : Int) (s : ByteArray) (keys : List ByteArray) (list : List Val) (A1 A2 : Option Addr) (c1 c2 g d : Nat) (l : Int) (w : World) (hd : d ≤ 6) (hg : Blk w g 3 [.int .i64 l]) (hl0 : 0 ≤ l) (hl1 : l ≤ 60) (hk : keys.length ≤ 9223372036854775807) (hl : list.length ≤ 9223372036854775807) (h : l = 0 ∨ d = 0 ∨ ¬ Clean kind n s keys list) :
    Calls Tryz.prog 75 #[.agg #[.int .i64 kind, .int .i64 n, .string s, .slice A1 keys.length c1, .slice A2 list.length c2], .int .i64 (7 - (d : Int)), .pointer (some ⟨g, 0, none⟩)] w (POk (Form d (.mk kind n s keys list)) (valCnt (.mk kind n s keys list)) l g w) := by
  have hgx := fun o u => grown_box w g o u
  have hbx := fun o u => blk_box hg o u
  have HN := Lib.hid (show ¬ (Form d (.mk kind n s keys list) ∧ ((valCnt (.mk kind n s keys list) : Nat) : Int) ≤ l) from fun hf => by
    have := cnt_pos (.mk kind n s keys list)
    rcases h with h | h
    · omega
    · exact form_bad h hf.1)
  have hlt := hg.lt
  have q0 : w.cell? ⟨g, 0, none⟩ = some (.int .i64 l) := hg.cell 0
  have f0 : w.frozen? ⟨g, 0, none⟩ = false := hg.frozen 0
  have hne : g ≠ w.heap.size := by omega
  clear hg
  by_cases tl : l = 0
  · subst tl
    clear h
    go_enter Tryz.func75, Tryz.ntmps75
    go_wp2
    go_ret
    exact POk.no HN.out (hbx _ _) (hgx _ _)
  have tl' : ¬ (l - 1 < 0) := by omega
  by_cases t0 : d = 0
  · subst t0
    clear h
    go_enter Tryz.func75, Tryz.ntmps75
    go_wp2
    go_ret
    exact POk.no HN.out (hbx _ _) (hgx _ _)
  have t0' : ¬ ((6 : Int) < 7 - (d : Int)) := by omega
  have h' : ¬ Clean kind n s keys list := by
    rcases h with h | h | h
    · exact absurd h tl
    · exact absurd h t0
    · exact h
  clear h
  by_cases k3 : kind = 3
  · have b3 : (kind != 3) = false := by simp [k3]
    have b4 : (kind != 4) = true := by simp; omega
    have b6 : (kind != 6) = true := by simp; omega
    have b5 : kind < 5 := by omega
    by_cases e2 : s = ⟨#[]⟩
    · subst e2
      by_cases e3 : keys = []
      · subst e3
        by_cases e4 : list = []
        · subst e4
          exact absurd ⟨fun h => absurd k3 h, fun _ => rfl, fun _ => rfl, fun _ => rfl⟩ h'
        · have l4 : 0 < list.length := List.length_pos_iff.2 e4
          clear h' e4 k3
          go_enter Tryz.func75, Tryz.ntmps75
          go_wp2
          go_ret
          exact POk.no HN.out (hbx _ _) (hgx _ _)
      · have l3 : 0 < keys.length := List.length_pos_iff.2 e3
        clear h' e3 k3
        go_enter Tryz.func75, Tryz.ntmps75
        go_wp2
        go_ret
        exact POk.no HN.out (hbx _ _) (hgx _ _)
    · have l2 := empty_ne e2
      have l2' := str_ne e2
      clear h' e2 k3
      go_enter Tryz.func75, Tryz.ntmps75
      go_wp2
      go_ret
      exact POk.no HN.out (hbx _ _) (hgx _ _)
  have b3 : (kind != 3) = true := by simp [k3]
  by_cases e1 : n = 0
  case neg =>
    have b1 : (n != 0) = true := by simp [e1]
    clear h' e1 k3
    go_enter Tryz.func75, Tryz.ntmps75
    go_wp2
    go_ret
    exact POk.no HN.out (hbx _ _) (hgx _ _)
  subst e1
  by_cases k4 : kind = 4
  · have b4 : (kind != 4) = false := by simp [k4]
    have b6 : (kind != 6) = true := by simp; omega
    have b5 : kind < 5 := by omega
    by_cases e3 : keys = []
    · subst e3
      by_cases e4 : list = []
      · subst e4
        exact absurd ⟨fun _ => rfl, fun h => absurd k4 h, fun _ => rfl, fun _ => rfl⟩ h'
      · have l4 : 0 < list.length := List.length_pos_iff.2 e4
        clear h' e4 k4 k3
        go_enter Tryz.func75, Tryz.ntmps75
        go_wp2
        go_ret
        exact POk.no HN.out (hbx _ _) (hgx _ _)
    · have l3 : 0 < keys.length := List.length_pos_iff.2 e3
      clear h' e3 k4 k3
      go_enter Tryz.func75, Tryz.ntmps75
      go_wp2
      go_ret
      exact POk.no HN.out (hbx _ _) (hgx _ _)
  have b4 : (kind != 4) = true := by simp [k4]
  by_cases e2 : s = ⟨#[]⟩
  case neg =>
    have l2 := empty_ne e2
    have l2' := str_ne e2
    clear h' e2 k4 k3
    go_enter Tryz.func75, Tryz.ntmps75
    go_wp2
    go_ret
    exact POk.no HN.out (hbx _ _) (hgx _ _)
  subst e2
  by_cases k6 : kind = 6
  · exact absurd ⟨fun _ => rfl, fun _ => rfl, fun h => absurd k6 h, fun h => by omega⟩ h'
  have b6 : (kind != 6) = true := by simp [k6]
  by_cases e3 : keys = []
  case neg =>
    have l3 : 0 < keys.length := List.length_pos_iff.2 e3
    clear h' e3 k3 k4 k6
    go_enter Tryz.func75, Tryz.ntmps75
    go_wp2
    go_ret
    exact POk.no HN.out (hbx _ _) (hgx _ _)
  subst e3
  by_cases k5 : kind < 5
  · by_cases e4 : list = []
    · subst e4
      exact absurd ⟨fun _ => rfl, fun _ => rfl, fun _ => rfl, fun _ => rfl⟩ h'
    · have l4 : 0 < list.length := List.length_pos_iff.2 e4
      clear h' e4 k3 k4 k6
      go_enter Tryz.func75, Tryz.ntmps75
      go_wp2
      go_ret
      exact POk.no HN.out (hbx _ _) (hgx _ _)
  · exact absurd ⟨fun _ => rfl, fun _ => rfl, fun _ => rfl, fun h => absurd h k5⟩ h'
end Go.Proofs.YtppfgepoegicgaaGreatDoor
namespace Go.Proofs.YtppfgepoegicgaaGreatDoor
open Go Go.RowKit

theorem valsCnt_append : ∀ a b : List Val, valsCnt (a ++ b) = valsCnt a + valsCnt b
  | [], b => by simp [valsCnt]
  | x :: a, b => by simp [valsCnt, valsCnt_append a b, Nat.add_assoc]
theorem valsCnt_take {vs : List Val} {v : Val} {k : Nat} (hd : vs.drop k = v :: vs.drop (k + 1)) : valsCnt (vs.take (k + 1)) = valsCnt (vs.take k) + valCnt v := by
  have e : vs.take (k + 1) = vs.take k ++ [v] := by rw [List.take_add, hd]; rfl
  rw [e, valsCnt_append]
  simp [valsCnt]
theorem valsCnt_take_le (vs : List Val) (k : Nat) : valsCnt (vs.take k) ≤ valsCnt vs := by
  have := valsCnt_append (vs.take k) (vs.drop k)
  rw [List.take_append_drop] at this
  omega

set_option maxRecDepth 100000 in
set_option maxHeartbeats 8000000 in
theorem iOk_3 (kind n : Int) (s : ByteArray) (keys : List ByteArray) (list : List Val) (A1 A2 : Option Addr) (c1 c2 g d B : Nat) (l : Int) (w : World) (hd : d ≤ 6) (hB : B ≤ g) (hg : Blk w g 3 [.int .i64 l]) (hl0 : 1 ≤ l) (hl1 : l ≤ 60) (hs : s.size ≤ 9223372036854775807)
    (hk : RD w B (.row 1 keys.length (strDs keys)) (.slice A1 keys.length c1)) (hl : RD w B (.row 5 list.length (valsDs list)) (.slice A2 list.length c2)) (hd0 : d ≠ 0) (hC : Clean kind n s keys list) (ih : ∀ x ∈ list, IOk x) (hc : kind = 3) :
    Calls Tryz.prog 75 #[.agg #[.int .i64 kind, .int .i64 n, .string s, .slice A1 keys.length c1, .slice A2 list.length c2], .int .i64 (7 - (d : Int)), .pointer (some ⟨g, 0, none⟩)] w (POk (Form d (.mk kind n s keys list)) (valCnt (.mk kind n s keys list)) l g w) := by
  have hgx := fun o u => grown_box w g o u
  have hbx := fun o u => blk_box hg o u
  have hlt := hg.lt
  have q0 : w.cell? ⟨g, 0, none⟩ = some (.int .i64 l) := hg.cell 0
  have f0 : w.frozen? ⟨g, 0, none⟩ = false := hg.frozen 0
  have hne : g ≠ w.heap.size := by omega
  have hn1 := hk.len
  have hn2 := hl.len
  have tl' : ¬ (l - 1 < 0) := by omega
  have t0' : ¬ ((6 : Int) < 7 - (d : Int)) := by omega
  have HIH := Lib.hid ih
  have HL := Lib.hid hl
  have HK := Lib.hid hk
  have HC := Lib.hid hC
  have HF := Lib.hid (form_iff hd0 (kind := kind) (n := n) (s := s) (keys := keys) (list := list))
  clear hg ih hl hk hC
  have ls : s.toList = [] := by rw [HC.out.2.1 (by omega), ByteArray.toList_eq]
  have lk : ¬ 0 < keys.length := by rw [HC.out.2.2.1 (by omega)]; simp
  have ll : ¬ 0 < list.length := by rw [HC.out.2.2.2 (by omega)]; simp
  have b3 : (kind != 3) = false := by simp [hc]
  have b4 : (kind != 4) = true := by simp; omega
  have b6 : (kind != 6) = true := by simp; omega
  have e6 : (kind == 6) = false := by simp; omega
  have b5 : kind < 5 := by omega
  have tk : (0 : Int) ≤ kind ∧ kind ≤ 6 := by omega
  by_cases tn : (-1000000 : Int) ≤ n ∧ n ≤ 1000000
  case neg =>
    have HN := Lib.hid (show ¬ (Form d (.mk kind n s keys list) ∧ ((valCnt (.mk kind n s keys list) : Nat) : Int) ≤ l) from fun h => tn (HF.out.1 h.1).1.2.2.1)
    clear hc
    go_enter Tryz.func75, Tryz.ntmps75
    go_wp2_with fail
    refine ((within_calls _ _ _ _).mono fun e w' h => h.true_ tk).mono ?_
    rintro e w1 ⟨rfl, rfl⟩
    go_wp2_with fail
    refine ((within_calls _ _ _ _).mono fun e w' h => h.false_ tn).mono ?_
    rintro e w1 ⟨rfl, rfl⟩
    go_wp2
    go_ret
    exact POk.no HN.out (hbx _ _) (hgx _ _)
  have ts : TextOk s := by rw [HC.out.2.1 (by omega)]; exact textOk_nil
  have HKF := Lib.hid (show Form d (.mk kind n s keys list) → KeysOk keys from fun _ => by rw [HC.out.2.2.1 (by omega)]; exact ⟨fun k hk => absurd hk (by simp), fun i hi => absurd hi (by simp)⟩)
  have HHD := Lib.hid (show KeysOk keys → (∀ v ∈ list, Form (d - 1) v) → Form d (.mk kind n s keys list) from fun h1 h2 => HF.out.2 ⟨⟨HC.out, tk, tn, ts, fun h6 => absurd h6 (by omega)⟩, h2⟩)
  clear hc
  obtain ⟨W, eW⟩ : ∃ W, W = ((w.setCell ⟨g, 0, none⟩ (.int .i64 (l - 1))).alloc (.cells #[.int .i64 kind, .int .i64 n, .string s, .slice A1 keys.length c1, .slice A2 list.length c2] 32)) := ⟨_, rfl⟩
  have bW : Blk W g 3 [.int .i64 (l - 1)] := by rw [eW]; exact hbx _ _
  have gW : w.grownBy W (some g) := by rw [eW]; exact hgx _ _
  have pW : Blk W w.heap.size 32 [.int .i64 kind, .int .i64 n, .string s, .slice A1 keys.length c1, .slice A2 list.length c2] := by
    rw [eW]
    have := Blk.new (w.setCell ⟨g, 0, none⟩ (.int .i64 (l - 1))) 32 [.int .i64 kind, .int .i64 n, .string s, .slice A1 keys.length c1, .slice A2 list.length c2]
    rw [show (w.setCell ⟨g, 0, none⟩ (.int .i64 (l - 1))).heap.size = w.heap.size by simp [World.setCell]] at this
    exact this
  have EW := Lib.hid eW
  have BW := Lib.hid bW
  have GW := Lib.hid gW
  have PW := Lib.hid pW
  have hdW := Lib.hid (grown_below gW hB hlt)
  have zW : w.heap.size < W.heap.size := pW.lt
  have HLW := Lib.hid (HL.out.below hdW.out)
  have HKW := Lib.hid (HK.out.below hdW.out)
  clear eW bW gW pW
  go_enter Tryz.func75, Tryz.ntmps75
  go_wp2_with fail
  refine ((within_calls _ _ _ _).mono fun e w' h => h.true_ tk).mono ?_
  rintro e w1 ⟨rfl, rfl⟩
  go_wp2_with fail
  refine ((within_calls _ _ _ _).mono fun e w' h => h.true_ tn).mono ?_
  rintro e w1 ⟨rfl, rfl⟩
  go_wp2_with fail
  refine ((iTextOk_calls _ _ hs).mono fun e w' h => h.true_ ts).mono ?_
  rintro e w1 ⟨rfl, rfl⟩
  go_wp2
  rw [← EW.out]
  clear q0 f0 hne tl' t0' hgx hbx b3 b4 b6 b5 e6 lk ll ls
  have cP := PW.out.cell
  go_loopw [97] (fun i w' => ∃ k : Nat, k ≤ keys.length ∧ i = .int .i64 k ∧ Hid (KeysTo keys k) ∧ w' = W) (fun i _ => keys.length - (intOf i).toNat)
  case atStart => exact ⟨0, by omega, rfl, KeysTo.zero keys, rfl⟩
  case round =>
    obtain ⟨k, hk, rfl, HI, rfl⟩ := hrel
    by_cases hlt2 : k < keys.length
    · obtain ⟨ad, s1, rfl, hbl, hc1, hs1, hd1⟩ := row1_at HKW.out rfl hlt2
      have E1 := Lib.hid (getD_of_drop hd1.out)
      have j0 : (0 : Int) ≤ (k : Int) := by omega
      have j1 : (k : Int) < (keys.length : Int) := by omega
      have hz0 : k = 0 → wr.cell? ad = some (.string s1) := fun e => by subst e; simpa [Addr.add] using hc1
      by_cases t : TextOk s1
      · by_cases k0 : k = 0
        · subst k0
          have hz := hz0 rfl
          have HN := Lib.hid (HI.out.step (by rw [E1.out]; exact t) (fun j h => by omega))
          clear hz0 hc1
          go_wp2_with fail
          refine ((iTextOk_calls s1 _ hs1).mono fun e w' h => h.true_ t).mono ?_
          rintro e w1 ⟨rfl, rfl⟩
          go_wp2
          go_roundw
          case rel => exact ⟨1, by omega, rfl, HN, trivial⟩
          case measure => simp [intOf]; omega
        · obtain ⟨ad', s0, ea, hbl0, hc0, hs0, hd0'⟩ := row1_at HKW.out rfl (show k - 1 < keys.length by omega)
          injection ea with ea
          subst ea
          have E0 := Lib.hid (getD_of_drop hd0'.out)
          have j2 : (0 : Int) ≤ (k : Int) - 1 := by omega
          have j3 : (k : Int) - 1 < (keys.length : Int) := by omega
          have j4 : 0 < k := by omega
          have j5 : ((k : Int) - 1).toNat = k - 1 := by omega
          have j6 : IntKind.i64.wrap ((k : Int) - 1) = (k : Int) - 1 := IntWalk.i64_in _ (by omega)
          clear hz0
          by_cases t2 : Op.bytesLess s0.toList s1.toList = true
          · have HN := Lib.hid (HI.out.step (by rw [E1.out]; exact t) (fun j h => by
              obtain rfl : j = k - 1 := by omega
              rw [E0.out, E1.out]
              exact t2))
            go_wp2_with fail
            refine ((iTextOk_calls s1 _ hs1).mono fun e w' h => h.true_ t).mono ?_
            rintro e w1 ⟨rfl, rfl⟩
            go_wp2
            go_roundw
            case rel => exact ⟨k + 1, by omega, by go_num, HN, trivial⟩
            case measure => simp [intOf]; omega
          · have HN := Lib.hid (show ¬ (Form d (.mk kind n s keys list) ∧ ((valCnt (.mk kind n s keys list) : Nat) : Int) ≤ l) from fun h => t2 (by
              have := (HKF.out h.1).2 (k - 1) (by omega)
              rw [show k - 1 + 1 = k by omega, E0.out, E1.out] at this
              exact this))
            have t2' : Op.bytesLess s0.toList s1.toList = false := by simpa using t2
            clear t2
            go_wp2_with fail
            refine ((iTextOk_calls s1 _ hs1).mono fun e w' h => h.true_ t).mono ?_
            rintro e w1 ⟨rfl, rfl⟩
            go_wp2
            go_ret
            exact POk.no HN.out BW.out GW.out
      · have HN := Lib.hid (show ¬ (Form d (.mk kind n s keys list) ∧ ((valCnt (.mk kind n s keys list) : Nat) : Int) ≤ l) from fun h => t (by have := (HKF.out h.1).text k hlt2; rwa [E1.out] at this))
        by_cases k0 : k = 0
        · subst k0
          have hz := hz0 rfl
          clear hz0 hc1
          go_wp2_with fail
          refine ((iTextOk_calls s1 _ hs1).mono fun e w' h => h.false_ t).mono ?_
          rintro e w1 ⟨rfl, rfl⟩
          go_wp2
          go_ret
          exact POk.no HN.out BW.out GW.out
        · clear hz0
          go_wp2_with fail
          refine ((iTextOk_calls s1 _ hs1).mono fun e w' h => h.false_ t).mono ?_
          rintro e w1 ⟨rfl, rfl⟩
          go_wp2
          go_ret
          exact POk.no HN.out BW.out GW.out
    · have HKO := Lib.hid (show KeysOk keys from KeysTo.all (by have := HI.out; rwa [show k = keys.length by omega] at this))
      go_wp2
      clear cP
      go_loopw [123] (fun i w' => ∃ (k : Nat) (j : Int), k ≤ list.length ∧ i = .int .i64 k ∧ Hid (∀ y ∈ list.take k, Form (d - 1) y) ∧ 0 ≤ j ∧ j ≤ 60 ∧ Hid (j + (valsCnt (list.take k) : Int) = l - 1) ∧ Blk w' g 3 [.int .i64 j] ∧ w.grownBy w' (some g)) (fun i _ => list.length - (intOf i).toNat)
      case atStart => exact ⟨0, l - 1, by omega, rfl, (fun y hy => by simp at hy), by omega, by omega, (show (l - 1) + ((valsCnt (list.take 0) : Nat) : Int) = l - 1 by simp [valsCnt]), BW.out, GW.out⟩
      case round =>
        obtain ⟨k2, j, hk2, rfl, HT, hj0, hj1, HJ, hbg, hgr⟩ := hrel
        have hzr := hgr.size
        by_cases hlt3 : k2 < list.length
        · have hrd := grown_below hgr hB hlt
          obtain ⟨ad, v, x0, x1, x2, x3, x4, rfl, hbl, hv, hm, hd1, y0, y1, y2, y3, y4⟩ := row5_at (HL.out.below hrd) rfl hlt3
          obtain ⟨m0, m1, m2, A3, n3, q3, A4, n4, q4, es⟩ := valDs_shape hv
          simp only [List.cons.injEq, and_true] at es
          obtain ⟨rfl, rfl, rfl, rfl, rfl⟩ := es
          have HV := Lib.hid hv
          have HBG := Lib.hid hbg
          have HGR := Lib.hid hgr
          have hW := fun o1 => below_box wr o1
          clear hv hbg hgr hrd
          go_wp2_with fail
          refine (HIH.out v hm [_, _, _, _, _] _ B g (d - 1) j _ (by omega) (by omega) hB (HBG.out.alloc _) hj0 hj1 (HV.out.below ((hW _).mono (by omega)))).mono ?_
          rintro e w1 ⟨r, j', rfl, hr1, hr2, hb1, hg1⟩
          have HR1 := Lib.hid hr1
          have HR2 := Lib.hid hr2
          have HB1 := Lib.hid hb1
          have HG1 := Lib.hid (show w.grownBy w1 (some g) from HGR.out.trans (World.grownBy.trans (World.grownBy_alloc wr _ _) hg1))
          clear hr1 hr2 hb1 hg1 hW
          cases r with
          | true =>
            have h1 := HR1.out.1 rfl
            have h2 := HR2.out rfl
            have HT3 := Lib.hid ((take_all_succ hd1.out).2 ⟨HT.out, h1.1⟩)
            have HJ3 := Lib.hid (show j' + (valsCnt (list.take (k2 + 1)) : Int) = l - 1 by
              rw [valsCnt_take hd1.out, h2]
              have := HJ.out
              omega)
            have hp := cnt_pos v
            have hj0' : 0 ≤ j' := by omega
            have hj1' : j' ≤ 60 := by omega
            clear h1 h2 hp
            go_wp2
            go_roundw
            case rel => exact ⟨k2 + 1, j', by omega, by go_num, HT3, hj0', hj1', HJ3, HB1.out, HG1.out⟩
            case measure => simp [intOf]; omega
          | false =>
            have HN := Lib.hid (show ¬ (Form d (.mk kind n s keys list) ∧ ((valCnt (.mk kind n s keys list) : Nat) : Int) ≤ l) from fun h => absurd (HR1.out.2 ⟨(HF.out.1 h.1).2 v hm, by
              have h1 := HJ.out
              have h2 := h.2
              have h3 := valsCnt_take hd1.out
              have h4 := valsCnt_take_le list (k2 + 1)
              simp only [valCnt] at h2
              omega⟩) (by simp))
            go_wp2
            go_ret
            exact POk.no HN.out HB1.out HG1.out
        · have HE := Lib.hid (show Form d (.mk kind n s keys list) ∧ ((valCnt (.mk kind n s keys list) : Nat) : Int) ≤ l ∧ j = l - ((valCnt (.mk kind n s keys list) : Nat) : Int) by
            have h1 := HJ.out
            have h2 := HT.out
            rw [show k2 = list.length by omega, List.take_length] at h1 h2
            refine ⟨HHD.out HKO.out h2, ?_, ?_⟩
            · simp only [valCnt]; omega
            · simp only [valCnt]; omega)
          have HBG := Lib.hid hbg
          have HGR := Lib.hid hgr
          clear hbg hgr
          go_wp2
          go_ret
          exact ⟨true, j, rfl, ⟨fun _ => ⟨HE.out.1, HE.out.2.1⟩, fun _ => rfl⟩, fun _ => HE.out.2.2, HBG.out, HGR.out⟩
end Go.Proofs.YtppfgepoegicgaaGreatDoor
namespace Go.Proofs.YtppfgepoegicgaaGreatDoor
open Go Go.RowKit

set_option maxRecDepth 100000 in
set_option maxHeartbeats 8000000 in
theorem iOk_4 (kind n : Int) (s : ByteArray) (keys : List ByteArray) (list : List Val) (A1 A2 : Option Addr) (c1 c2 g d B : Nat) (l : Int) (w : World) (hd : d ≤ 6) (hB : B ≤ g) (hg : Blk w g 3 [.int .i64 l]) (hl0 : 1 ≤ l) (hl1 : l ≤ 60) (hs : s.size ≤ 9223372036854775807)
    (hk : RD w B (.row 1 keys.length (strDs keys)) (.slice A1 keys.length c1)) (hl : RD w B (.row 5 list.length (valsDs list)) (.slice A2 list.length c2)) (hd0 : d ≠ 0) (hC : Clean kind n s keys list) (ih : ∀ x ∈ list, IOk x) (hc : kind = 4) :
    Calls Tryz.prog 75 #[.agg #[.int .i64 kind, .int .i64 n, .string s, .slice A1 keys.length c1, .slice A2 list.length c2], .int .i64 (7 - (d : Int)), .pointer (some ⟨g, 0, none⟩)] w (POk (Form d (.mk kind n s keys list)) (valCnt (.mk kind n s keys list)) l g w) := by
  have hgx := fun o u => grown_box w g o u
  have hbx := fun o u => blk_box hg o u
  have hlt := hg.lt
  have q0 : w.cell? ⟨g, 0, none⟩ = some (.int .i64 l) := hg.cell 0
  have f0 : w.frozen? ⟨g, 0, none⟩ = false := hg.frozen 0
  have hne : g ≠ w.heap.size := by omega
  have hn1 := hk.len
  have hn2 := hl.len
  have tl' : ¬ (l - 1 < 0) := by omega
  have t0' : ¬ ((6 : Int) < 7 - (d : Int)) := by omega
  have HIH := Lib.hid ih
  have HL := Lib.hid hl
  have HK := Lib.hid hk
  have HC := Lib.hid hC
  have HF := Lib.hid (form_iff hd0 (kind := kind) (n := n) (s := s) (keys := keys) (list := list))
  clear hg ih hl hk hC
  have n0 : (n != 0) = false := by have := HC.out.1 (by omega); simp [this]
  have lk : ¬ 0 < keys.length := by rw [HC.out.2.2.1 (by omega)]; simp
  have ll : ¬ 0 < list.length := by rw [HC.out.2.2.2 (by omega)]; simp
  have b3 : (kind != 3) = true := by simp; omega
  have b4 : (kind != 4) = false := by simp [hc]
  have b6 : (kind != 6) = true := by simp; omega
  have e6 : (kind == 6) = false := by simp; omega
  have b5 : kind < 5 := by omega
  have tk : (0 : Int) ≤ kind ∧ kind ≤ 6 := by omega
  have tn : (-1000000 : Int) ≤ n ∧ n ≤ 1000000 := by have := HC.out.1 (by omega); omega
  by_cases ts : TextOk s
  case neg =>
    have HN := Lib.hid (show ¬ (Form d (.mk kind n s keys list) ∧ ((valCnt (.mk kind n s keys list) : Nat) : Int) ≤ l) from fun h => ts (HF.out.1 h.1).1.2.2.2.1)
    clear hc
    go_enter Tryz.func75, Tryz.ntmps75
    go_wp2_with fail
    refine ((within_calls _ _ _ _).mono fun e w' h => h.true_ tk).mono ?_
    rintro e w1 ⟨rfl, rfl⟩
    go_wp2_with fail
    refine ((within_calls _ _ _ _).mono fun e w' h => h.true_ tn).mono ?_
    rintro e w1 ⟨rfl, rfl⟩
    go_wp2_with fail
    refine ((iTextOk_calls _ _ hs).mono fun e w' h => h.false_ ts).mono ?_
    rintro e w1 ⟨rfl, rfl⟩
    go_wp2
    go_ret
    exact POk.no HN.out (hbx _ _) (hgx _ _)
  have HKF := Lib.hid (show Form d (.mk kind n s keys list) → KeysOk keys from fun _ => by rw [HC.out.2.2.1 (by omega)]; exact ⟨fun k hk => absurd hk (by simp), fun i hi => absurd hi (by simp)⟩)
  have HHD := Lib.hid (show KeysOk keys → (∀ v ∈ list, Form (d - 1) v) → Form d (.mk kind n s keys list) from fun h1 h2 => HF.out.2 ⟨⟨HC.out, tk, tn, ts, fun h6 => absurd h6 (by omega)⟩, h2⟩)
  clear hc
  obtain ⟨W, eW⟩ : ∃ W, W = ((w.setCell ⟨g, 0, none⟩ (.int .i64 (l - 1))).alloc (.cells #[.int .i64 kind, .int .i64 n, .string s, .slice A1 keys.length c1, .slice A2 list.length c2] 32)) := ⟨_, rfl⟩
  have bW : Blk W g 3 [.int .i64 (l - 1)] := by rw [eW]; exact hbx _ _
  have gW : w.grownBy W (some g) := by rw [eW]; exact hgx _ _
  have pW : Blk W w.heap.size 32 [.int .i64 kind, .int .i64 n, .string s, .slice A1 keys.length c1, .slice A2 list.length c2] := by
    rw [eW]
    have := Blk.new (w.setCell ⟨g, 0, none⟩ (.int .i64 (l - 1))) 32 [.int .i64 kind, .int .i64 n, .string s, .slice A1 keys.length c1, .slice A2 list.length c2]
    rw [show (w.setCell ⟨g, 0, none⟩ (.int .i64 (l - 1))).heap.size = w.heap.size by simp [World.setCell]] at this
    exact this
  have EW := Lib.hid eW
  have BW := Lib.hid bW
  have GW := Lib.hid gW
  have PW := Lib.hid pW
  have hdW := Lib.hid (grown_below gW hB hlt)
  have zW : w.heap.size < W.heap.size := pW.lt
  have HLW := Lib.hid (HL.out.below hdW.out)
  have HKW := Lib.hid (HK.out.below hdW.out)
  clear eW bW gW pW
  go_enter Tryz.func75, Tryz.ntmps75
  go_wp2_with fail
  refine ((within_calls _ _ _ _).mono fun e w' h => h.true_ tk).mono ?_
  rintro e w1 ⟨rfl, rfl⟩
  go_wp2_with fail
  refine ((within_calls _ _ _ _).mono fun e w' h => h.true_ tn).mono ?_
  rintro e w1 ⟨rfl, rfl⟩
  go_wp2_with fail
  refine ((iTextOk_calls _ _ hs).mono fun e w' h => h.true_ ts).mono ?_
  rintro e w1 ⟨rfl, rfl⟩
  go_wp2
  rw [← EW.out]
  clear q0 f0 hne tl' t0' hgx hbx b3 b4 b6 b5 e6 lk ll
  have cP := PW.out.cell
  go_loopw [97] (fun i w' => ∃ k : Nat, k ≤ keys.length ∧ i = .int .i64 k ∧ Hid (KeysTo keys k) ∧ w' = W) (fun i _ => keys.length - (intOf i).toNat)
  case atStart => exact ⟨0, by omega, rfl, KeysTo.zero keys, rfl⟩
  case round =>
    obtain ⟨k, hk, rfl, HI, rfl⟩ := hrel
    by_cases hlt2 : k < keys.length
    · obtain ⟨ad, s1, rfl, hbl, hc1, hs1, hd1⟩ := row1_at HKW.out rfl hlt2
      have E1 := Lib.hid (getD_of_drop hd1.out)
      have j0 : (0 : Int) ≤ (k : Int) := by omega
      have j1 : (k : Int) < (keys.length : Int) := by omega
      have hz0 : k = 0 → wr.cell? ad = some (.string s1) := fun e => by subst e; simpa [Addr.add] using hc1
      by_cases t : TextOk s1
      · by_cases k0 : k = 0
        · subst k0
          have hz := hz0 rfl
          have HN := Lib.hid (HI.out.step (by rw [E1.out]; exact t) (fun j h => by omega))
          clear hz0 hc1
          go_wp2_with fail
          refine ((iTextOk_calls s1 _ hs1).mono fun e w' h => h.true_ t).mono ?_
          rintro e w1 ⟨rfl, rfl⟩
          go_wp2
          go_roundw
          case rel => exact ⟨1, by omega, rfl, HN, trivial⟩
          case measure => simp [intOf]; omega
        · obtain ⟨ad', s0, ea, hbl0, hc0, hs0, hd0'⟩ := row1_at HKW.out rfl (show k - 1 < keys.length by omega)
          injection ea with ea
          subst ea
          have E0 := Lib.hid (getD_of_drop hd0'.out)
          have j2 : (0 : Int) ≤ (k : Int) - 1 := by omega
          have j3 : (k : Int) - 1 < (keys.length : Int) := by omega
          have j4 : 0 < k := by omega
          have j5 : ((k : Int) - 1).toNat = k - 1 := by omega
          have j6 : IntKind.i64.wrap ((k : Int) - 1) = (k : Int) - 1 := IntWalk.i64_in _ (by omega)
          clear hz0
          by_cases t2 : Op.bytesLess s0.toList s1.toList = true
          · have HN := Lib.hid (HI.out.step (by rw [E1.out]; exact t) (fun j h => by
              obtain rfl : j = k - 1 := by omega
              rw [E0.out, E1.out]
              exact t2))
            go_wp2_with fail
            refine ((iTextOk_calls s1 _ hs1).mono fun e w' h => h.true_ t).mono ?_
            rintro e w1 ⟨rfl, rfl⟩
            go_wp2
            go_roundw
            case rel => exact ⟨k + 1, by omega, by go_num, HN, trivial⟩
            case measure => simp [intOf]; omega
          · have HN := Lib.hid (show ¬ (Form d (.mk kind n s keys list) ∧ ((valCnt (.mk kind n s keys list) : Nat) : Int) ≤ l) from fun h => t2 (by
              have := (HKF.out h.1).2 (k - 1) (by omega)
              rw [show k - 1 + 1 = k by omega, E0.out, E1.out] at this
              exact this))
            have t2' : Op.bytesLess s0.toList s1.toList = false := by simpa using t2
            clear t2
            go_wp2_with fail
            refine ((iTextOk_calls s1 _ hs1).mono fun e w' h => h.true_ t).mono ?_
            rintro e w1 ⟨rfl, rfl⟩
            go_wp2
            go_ret
            exact POk.no HN.out BW.out GW.out
      · have HN := Lib.hid (show ¬ (Form d (.mk kind n s keys list) ∧ ((valCnt (.mk kind n s keys list) : Nat) : Int) ≤ l) from fun h => t (by have := (HKF.out h.1).text k hlt2; rwa [E1.out] at this))
        by_cases k0 : k = 0
        · subst k0
          have hz := hz0 rfl
          clear hz0 hc1
          go_wp2_with fail
          refine ((iTextOk_calls s1 _ hs1).mono fun e w' h => h.false_ t).mono ?_
          rintro e w1 ⟨rfl, rfl⟩
          go_wp2
          go_ret
          exact POk.no HN.out BW.out GW.out
        · clear hz0
          go_wp2_with fail
          refine ((iTextOk_calls s1 _ hs1).mono fun e w' h => h.false_ t).mono ?_
          rintro e w1 ⟨rfl, rfl⟩
          go_wp2
          go_ret
          exact POk.no HN.out BW.out GW.out
    · have HKO := Lib.hid (show KeysOk keys from KeysTo.all (by have := HI.out; rwa [show k = keys.length by omega] at this))
      go_wp2
      clear cP
      go_loopw [123] (fun i w' => ∃ (k : Nat) (j : Int), k ≤ list.length ∧ i = .int .i64 k ∧ Hid (∀ y ∈ list.take k, Form (d - 1) y) ∧ 0 ≤ j ∧ j ≤ 60 ∧ Hid (j + (valsCnt (list.take k) : Int) = l - 1) ∧ Blk w' g 3 [.int .i64 j] ∧ w.grownBy w' (some g)) (fun i _ => list.length - (intOf i).toNat)
      case atStart => exact ⟨0, l - 1, by omega, rfl, (fun y hy => by simp at hy), by omega, by omega, (show (l - 1) + ((valsCnt (list.take 0) : Nat) : Int) = l - 1 by simp [valsCnt]), BW.out, GW.out⟩
      case round =>
        obtain ⟨k2, j, hk2, rfl, HT, hj0, hj1, HJ, hbg, hgr⟩ := hrel
        have hzr := hgr.size
        by_cases hlt3 : k2 < list.length
        · have hrd := grown_below hgr hB hlt
          obtain ⟨ad, v, x0, x1, x2, x3, x4, rfl, hbl, hv, hm, hd1, y0, y1, y2, y3, y4⟩ := row5_at (HL.out.below hrd) rfl hlt3
          obtain ⟨m0, m1, m2, A3, n3, q3, A4, n4, q4, es⟩ := valDs_shape hv
          simp only [List.cons.injEq, and_true] at es
          obtain ⟨rfl, rfl, rfl, rfl, rfl⟩ := es
          have HV := Lib.hid hv
          have HBG := Lib.hid hbg
          have HGR := Lib.hid hgr
          have hW := fun o1 => below_box wr o1
          clear hv hbg hgr hrd
          go_wp2_with fail
          refine (HIH.out v hm [_, _, _, _, _] _ B g (d - 1) j _ (by omega) (by omega) hB (HBG.out.alloc _) hj0 hj1 (HV.out.below ((hW _).mono (by omega)))).mono ?_
          rintro e w1 ⟨r, j', rfl, hr1, hr2, hb1, hg1⟩
          have HR1 := Lib.hid hr1
          have HR2 := Lib.hid hr2
          have HB1 := Lib.hid hb1
          have HG1 := Lib.hid (show w.grownBy w1 (some g) from HGR.out.trans (World.grownBy.trans (World.grownBy_alloc wr _ _) hg1))
          clear hr1 hr2 hb1 hg1 hW
          cases r with
          | true =>
            have h1 := HR1.out.1 rfl
            have h2 := HR2.out rfl
            have HT3 := Lib.hid ((take_all_succ hd1.out).2 ⟨HT.out, h1.1⟩)
            have HJ3 := Lib.hid (show j' + (valsCnt (list.take (k2 + 1)) : Int) = l - 1 by
              rw [valsCnt_take hd1.out, h2]
              have := HJ.out
              omega)
            have hp := cnt_pos v
            have hj0' : 0 ≤ j' := by omega
            have hj1' : j' ≤ 60 := by omega
            clear h1 h2 hp
            go_wp2
            go_roundw
            case rel => exact ⟨k2 + 1, j', by omega, by go_num, HT3, hj0', hj1', HJ3, HB1.out, HG1.out⟩
            case measure => simp [intOf]; omega
          | false =>
            have HN := Lib.hid (show ¬ (Form d (.mk kind n s keys list) ∧ ((valCnt (.mk kind n s keys list) : Nat) : Int) ≤ l) from fun h => absurd (HR1.out.2 ⟨(HF.out.1 h.1).2 v hm, by
              have h1 := HJ.out
              have h2 := h.2
              have h3 := valsCnt_take hd1.out
              have h4 := valsCnt_take_le list (k2 + 1)
              simp only [valCnt] at h2
              omega⟩) (by simp))
            go_wp2
            go_ret
            exact POk.no HN.out HB1.out HG1.out
        · have HE := Lib.hid (show Form d (.mk kind n s keys list) ∧ ((valCnt (.mk kind n s keys list) : Nat) : Int) ≤ l ∧ j = l - ((valCnt (.mk kind n s keys list) : Nat) : Int) by
            have h1 := HJ.out
            have h2 := HT.out
            rw [show k2 = list.length by omega, List.take_length] at h1 h2
            refine ⟨HHD.out HKO.out h2, ?_, ?_⟩
            · simp only [valCnt]; omega
            · simp only [valCnt]; omega)
          have HBG := Lib.hid hbg
          have HGR := Lib.hid hgr
          clear hbg hgr
          go_wp2
          go_ret
          exact ⟨true, j, rfl, ⟨fun _ => ⟨HE.out.1, HE.out.2.1⟩, fun _ => rfl⟩, fun _ => HE.out.2.2, HBG.out, HGR.out⟩
end Go.Proofs.YtppfgepoegicgaaGreatDoor
