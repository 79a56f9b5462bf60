import Derived.Test.YtppfgepoegicgaaDoorProg
import Derived.Test.YtppfgepoegicgaaDoorOwn
import Derived.Test.YtppfgepoegicgaaDoorSz
import Derived.KernelRfl
import Derived.Outline
import Derived.Lib.Hide
import Derived.Deep.QuietTactic
import Derived.BigQuiet
import Derived.StillTailTactics
import Derived.Deep.RegionHeld3
namespace Go.Proofs.YtppfgepoegicgaaDoor
open Go Go.RowKit

mutual
/-- No row, and no text, of more than 2^20. -/
def SmallD : Dat → Prop
  | .int _ => True
  | .str s => s.size ≤ 1048576
  | .row _ n cells => n ≤ 1048576 ∧ SmallDs cells
def SmallDs : List Dat → Prop
  | [] => True
  | d :: ds => SmallD d ∧ SmallDs ds
end
mutual
theorem small_of_sz : ∀ (d : Dat) (l : Int), 0 ≤ l → l ≤ 1048576 → 0 ≤ szD d l → SmallD d
  | .int _, _, _, _, _ => trivial
  | .str s, l, h0, h1, h => by
    simp only [szD] at h
    simp only [SmallD]
    split at h <;> omega
  | .row _ n cells, l, h0, h1, h => by
    simp only [szD] at h
    split at h
    · omega
    · exact ⟨by omega, smalls_of_sz cells _ (by omega) (by omega) h⟩
theorem smalls_of_sz : ∀ (ds : List Dat) (l : Int), 0 ≤ l → l ≤ 1048576 → 0 ≤ szDs ds l → SmallDs ds
  | [], _, _, _, _ => trivial
  | d :: ds, l, h0, h1, h => by
    simp only [szDs] at h
    have := szD_range d l h0
    split at h
    · omega
    · exact ⟨small_of_sz d l h0 h1 (by omega), smalls_of_sz ds _ (by omega) (by omega) h⟩
end
theorem smallDs_append : ∀ {a b : List Dat}, SmallDs (a ++ b) ↔ SmallDs a ∧ SmallDs b
  | [], b => by simp [SmallDs]
  | d :: a, b => by simp [SmallDs, smallDs_append (a := a) (b := b), and_assoc]

theorem Tryd.info_string : (Tryd.prog.info? 9).map (fun i => (i.zero, i.size, i.bytes)) = some (some (.string ⟨#[]⟩), 1, 16) := by kernel_rfl

theorem strDs_append : ∀ a b : List ByteArray, strDs (a ++ b) = strDs a ++ strDs b
  | [], _ => rfl
  | s :: a, b => by simp [strDs, strDs_append a b]

set_option maxHeartbeats 1000000 in
theorem toStringS_calls (ss : List ByteArray) (A : Option Addr) (c : Nat) (w : World) (B : Nat) (hB : B ≤ w.heap.size) (h : RD w B (.row 1 ss.length (strDs ss)) (.slice A ss.length c)) (hs : SmallD (.row 1 ss.length (strDs ss))) :
    Calls Tryd.prog 42 #[.slice A ss.length c] w fun e w' => ∃ v fp, e = .returned v ∧ OD w' (.row 1 ss.length (strDs ss)) v fp ∧ Fresh w w' fp ∧ Below w.heap.size w w' := by
  have hn : ss.length ≤ 1048576 := hs.1
  have H := Lib.hid h
  clear h hs
  have hmk := make_row (P := Tryd.prog) [.string ⟨#[]⟩] Tryd.underlying22 Tryd.info_string rfl rfl ss.length (by omega) (by omega)
  go_enter Tryd.func42, Tryd.ntmps42
  go_wp2
  go_loopw [4] (fun i w' => ∃ (k : Nat) (ks : List ByteArray), k ≤ ss.length ∧ i = .int .i64 k ∧ ss = ks ++ ss.drop k ∧ ToInv w' w.heap.size 9 1 [.string ⟨#[]⟩] ss.length k (strDs ks) ∧ Below w.heap.size w w') (fun i _ => ss.length - (intOf i).toNat)
  case atStart => exact ⟨0, [], by omega, rfl, rfl, ToInv.start _ _ _ _ _, below_box _ _⟩
  case round =>
    obtain ⟨k, ks, hk, rfl, hks, hT, hb⟩ := hrel
    by_cases hlt : k < ss.length
    · obtain ⟨ad, s0, rfl, hbl, hc, hs0, hd⟩ := row1_at H.out rfl hlt
      have hc1 := (hb.cell (p := ad.add k) (by rw [block_of_add]; omega)).trans hc
      clear hc
      obtain ⟨⟨x, hx⟩, hfz⟩ := hT.there hlt rfl 0 (by omega)
      rw [Nat.mul_one, Nat.add_zero] at hx hfz
      have hS := hT.step (w1 := wr) (ds1 := [.str s0]) (us1 := [.string s0]) (f1 := []) hlt rfl (Below.refl _ _) ⟨_, _, _, _, rfl, rfl, ⟨rfl, hs0, rfl⟩, rfl, rfl⟩ rfl (Fresh.nil _ _)
      rw [Nat.mul_one] at hS
      have HS := Lib.hid hS
      have HK := Lib.hid hks
      clear hks hS hT
      go_wp2
      go_roundw
      case rel => exact ⟨k + 1, ks ++ [s0], by omega, by go_num, by rw [List.append_assoc, List.singleton_append, ← hd.out]; exact HK.out, by rw [strDs_append]; exact HS.out, hb.setCell (Nat.le_refl _) _⟩
      case measure => simp [intOf]; omega
    · have e : k = ss.length := by omega
      subst e
      rw [List.drop_length, List.append_nil] at hks
      rw [← hks] at hT
      have HT := Lib.hid hT
      clear hks hT
      go_wp2
      go_ret
      obtain ⟨fp, h1, h2⟩ := HT.out.done (Nat.le_refl _) (by omega)
      exact ⟨_, fp, rfl, h1, h2, hb⟩
end Go.Proofs.YtppfgepoegicgaaDoor
