/- Parts of the proof: FNone, FOkB. -/
import Derived.Test.YtppfgepoegicgaaGreatDoorZFClean
import Derived.Test.YtppfgepoegicgaaGreatDoorGaa
import Derived.Test.YtppfgepoegicgaaGreatDoorZFOkDef
import Derived.Test.YtppfgepoegicgaaGreatDoorGw
import Derived.Test.YtppfgepoegicgaaGreatDoorGe
import Derived.Deep.DrawnRows
namespace Go.Proofs.YtppfgepoegicgaaGreatDoor
open Go Go.RowKit

set_option maxHeartbeats 1000000 in
theorem iNone_calls (v : Val) (us : List Value) (w : World) (B : Nat) (hB : B ≤ w.heap.size) (h : RDv w B (valDs v) us) :
    Calls Tryz.prog 61 #[.agg us.toArray] w (PBool (v = zeroVal) w) := by
  obtain ⟨a0, a1, a2, A3, n3, q3, A4, n4, q4, rfl⟩ := valDs_shape h
  have H := Lib.hid h
  clear h
  have hbx := fun o1 => below_box w o1
  go_enter Tryz.func61, Tryz.ntmps61
  go_wp2_with fail
  refine (iSameVal_calls v zeroVal [_, _, _, _, _] [_, _, _, _, _] _ B (Nat.le_trans hB (hbx _).size) (H.out.below ((hbx _).mono hB)) (zero_rd _ _)).mono ?_
  rintro e w1 ⟨r, rfl, hr, hb1⟩
  have HR := Lib.hid hr
  have HB := Lib.hid ((hbx _).trans (hb1.mono (hbx _).size))
  clear hr hb1
  go_wp2
  go_ret
  exact ⟨_, rfl, HR.out, HB.out⟩
end Go.Proofs.YtppfgepoegicgaaGreatDoor
namespace Go.Proofs.YtppfgepoegicgaaGreatDoor
open Go Go.RowKit

def tabCells : List Int := [0, 0, 0, 0, 0, 0, 2, 2, 3, 2, 2, 2, 1, 0, 0, 0, 2, 1, 0, 0, 2, 1]
/-- The package's table of parts, as the program lays it. -/
def Tab (w : World) (B : Nat) : Prop := 0 < B ∧ ∃ tb c, w.cell? ⟨0, 0, none⟩ = some (.slice (some tb) 22 c) ∧ tb.block < B ∧ ∀ i : Nat, i < 22 → w.cell? (tb.add i) = some (.int .i64 (tabCells.getD i 0))
theorem Tab.below {w w' : World} {B : Nat} (h : Tab w B) (hb : Below B w w') : Tab w' B := by
  obtain ⟨h0, tb, c, h1, h2, h3⟩ := h
  exact ⟨h0, tb, c, (hb.cell (p := ⟨0, 0, none⟩) h0).trans h1, h2, fun i hi => (hb.cell (p := tb.add i) (by rw [block_of_add]; exact h2)).trans (h3 i hi)⟩
theorem Tab.at {w : World} {B : Nat} (h : Tab w B) {k : Int} (h1 : 1 ≤ k) (h2 : k ≤ 21) : ∃ tb c, w.cell? ⟨0, 0, none⟩ = some (.slice (some tb) 22 c) ∧ w.cell? (tb.add k.toNat) = some (.int .i64 (kidsOf k)) := by
  obtain ⟨h0, tb, c, h3, _, h4⟩ := h
  refine ⟨tb, c, h3, (h4 k.toNat (by omega)).trans ?_⟩
  unfold kidsOf
  rw [if_neg (by omega)]
  rfl
theorem grown_drewN {w W : World} {g : Option Nat} (h : w.grownBy W g) (n : Nat) : w.grownBy (W.drewN n) g := ⟨h.os, h.tape, h.output, h.size, h.block⟩

def IFOk (x : Filt) : Prop := ∀ (us : List Value) (w : World) (B g d : Nat) (l di : Int), di = 8 - (d : Int) → d ≤ 7 → B ≤ g → Blk w g 3 [.int .i64 l] → 0 ≤ l → l ≤ 16 → RDv w B (filtDs x) us → Tab w B →
  Calls Tryz.prog 40 #[.agg us.toArray, .int .i64 di, .pointer (some ⟨g, 0, none⟩)] w (POk (FForm d x) (filtCnt x) l g w)

set_option maxRecDepth 100000 in
set_option maxHeartbeats 8000000 in
theorem iFOk_bad (kind n : Int) (s : ByteArray) (v : Val) (kids : List Filt) (a3 a4 : Int) (a5 : ByteArray) (A6 : Option Addr) (n6 q6 : Nat) (A7 : Option Addr) (n7 q7 : Nat) (A8 : Option Addr) (q8 g d B : Nat) (l : Int) (w : World) (hd : d ≤ 7) (hB : B ≤ g) (hg : Blk w g 3 [.int .i64 l]) (hl0 : 0 ≤ l) (hl1 : l ≤ 16) (hT : Tab w B) (hk : kids.length ≤ 9223372036854775807) (h : l = 0 ∨ d = 0 ∨ kidsOf kind ≠ kids.length) :
    Calls Tryz.prog 40 #[.agg #[.int .i64 kind, .int .i64 n, .string s, .int .i64 a3, .int .i64 a4, .string a5, .slice A6 n6 q6, .slice A7 n7 q7, .slice A8 kids.length q8], .int .i64 (8 - (d : Int)), .pointer (some ⟨g, 0, none⟩)] w (POk (FForm d (.mk kind n s v kids)) (filtCnt (.mk kind n s v kids)) l g w) := by
  have HN := Lib.hid (show ¬ (FForm d (.mk kind n s v kids) ∧ ((filtCnt (.mk kind n s v kids) : Nat) : Int) ≤ l) from fun hf => by
    have : 1 ≤ filtCnt (.mk kind n s v kids) := by simp only [filtCnt]; omega
    rcases h with h | h | h
    · omega
    · exact fform_pos hf.1 h
    · exact h ((fform_iff (fform_pos hf.1)).1 hf.1).1.1)
  have hlt := hg.lt
  have q0 : w.cell? ⟨g, 0, none⟩ = some (.int .i64 l) := hg.cell 0
  have f0 : w.frozen? ⟨g, 0, none⟩ = false := hg.frozen 0
  have hne : g ≠ w.heap.size := by omega
  obtain ⟨W, eW⟩ : ∃ W, W = (w.setCell ⟨g, 0, none⟩ (.int .i64 (l - 1))).alloc (.cells #[.int .i64 kind, .int .i64 n, .string s, .int .i64 a3, .int .i64 a4, .string a5, .slice A6 n6 q6, .slice A7 n7 q7, .slice A8 kids.length q8] 35) := ⟨_, rfl⟩
  have bW : Blk W g 3 [.int .i64 (l - 1)] := by rw [eW]; exact blk_box hg _ _
  have gW : w.grownBy W (some g) := by rw [eW]; exact grown_box _ _ _ _
  have pW : Blk W w.heap.size 35 [.int .i64 kind, .int .i64 n, .string s, .int .i64 a3, .int .i64 a4, .string a5, .slice A6 n6 q6, .slice A7 n7 q7, .slice A8 kids.length q8] := by
    rw [eW]
    have := Blk.new (w.setCell ⟨g, 0, none⟩ (.int .i64 (l - 1))) 35 [.int .i64 kind, .int .i64 n, .string s, .int .i64 a3, .int .i64 a4, .string a5, .slice A6 n6 q6, .slice A7 n7 q7, .slice A8 kids.length q8]
    rw [show (w.setCell ⟨g, 0, none⟩ (.int .i64 (l - 1))).heap.size = w.heap.size by simp [World.setCell]] at this
    exact this
  have HT := Lib.hid (hT.below (grown_below gW hB hlt))
  have EW := Lib.hid eW
  have BW := Lib.hid bW
  have GW := Lib.hid gW
  have cW := pW.cell
  have gc : W.cell? ⟨g, 0, none⟩ = some (.int .i64 (l - 1)) := bW.cell 0
  clear hg hT eW bW gW pW
  by_cases tl : l = 0
  · have dl : decide (l - 1 < 0) = true := by simp; omega
    clear h tl
    go_enter Tryz.func40, Tryz.ntmps40
    go_wp2_with fail
    rw [← EW.out]
    clear q0 f0 hne
    go_quiet (fail)
    go_wp2
    go_ret
    exact POk.no HN.out (BW.out.drewN _) (grown_drewN GW.out _)
  have dl : decide (l - 1 < 0) = false := by simp; omega
  by_cases t0 : d = 0
  · have dd : decide ((7 : Int) < 8 - (d : Int)) = true := by simp; omega
    clear h tl t0
    go_enter Tryz.func40, Tryz.ntmps40
    go_wp2_with fail
    rw [← EW.out]
    clear q0 f0 hne
    go_quiet (fail)
    go_wp2
    go_ret
    exact POk.no HN.out (BW.out.drewN _) (grown_drewN GW.out _)
  have dd : decide ((7 : Int) < 8 - (d : Int)) = false := by simp; omega
  by_cases tk : (1 : Int) ≤ kind ∧ kind ≤ 21
  case neg =>
    clear h tl t0
    go_enter Tryz.func40, Tryz.ntmps40
    go_wp2_with fail
    rw [← EW.out]
    clear q0 f0 hne
    go_quiet ((go_at_call 60; exact Calls.quiet_of_same ((within_calls kind 1 21 _).mono fun e w' h => h.false_ tk)))
    go_wp2
    go_ret
    exact POk.no HN.out (BW.out.drewN _) (grown_drewN GW.out _)
  have h' : kidsOf kind ≠ kids.length := by
    rcases h with h | h | h
    · exact absurd h tl
    · exact absurd h t0
    · exact h
  have d5 : ((kids.length : Int) != kidsOf kind) = true := by simpa using fun e => h' e.symm
  obtain ⟨tb, tc, hT0, hT1⟩ := HT.out.at tk.1 tk.2
  have i0 : 0 ≤ kind := by omega
  have i1 : kind < 22 := by omega
  clear h h' tl t0
  go_enter Tryz.func40, Tryz.ntmps40
  go_wp2_with fail
  rw [← EW.out]
  clear q0 f0 hne
  go_quiet ((go_at_call 60; exact Calls.quiet_of_same ((within_calls kind 1 21 _).mono fun e w' h => h.true_ tk)))
  go_wp2
  go_ret
  exact POk.no HN.out (BW.out.drewN _) (grown_drewN GW.out _)
end Go.Proofs.YtppfgepoegicgaaGreatDoor
