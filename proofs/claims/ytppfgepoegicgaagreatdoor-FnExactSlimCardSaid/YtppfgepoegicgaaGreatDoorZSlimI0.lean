/- The program's slim: the world between two rounds of its walk; 'is'. -/
import Derived.Test.YtppfgepoegicgaaGreatDoorZSlimK
import Derived.Test.YtppfgepoegicgaaGreatDoorGp
import Derived.Test.YtppfgepoegicgaaGreatDoorGm
namespace Go.Proofs.YtppfgepoegicgaaGreatDoor
open Go Go.RowKit

def SlimI (f : Nat) (x : Filt) : Prop := ∀ (us : List Value) (w : World) (B d : Nat), B ≤ w.heap.size → RDv w B (filtDs x) us → FForm d x →
  Calls Tryz.prog f #[.agg us.toArray] w fun e w' => ∃ vs, e = .returned (.agg vs.toArray) ∧ RT (fun b => b < B ∨ w.heap.size ≤ b) w' (filtDs (slimF x)) vs ∧ Below w.heap.size w w'
def SI (B : Nat) (w : World) (v : Value) (b : Nat) : Prop := b < B ∨ (w.heap.size + 3 ≤ b ∧ v.ownBlock ≠ some b)
structure IInv (w : World) (B : Nat) (us hd : List Value) (ys : List Filt) (n : Nat) (A : Option Addr) (c : Nat) (wr : World) : Prop where
  bel : Below w.heap.size w wr
  len : ys.length = n
  bP : Blk wr w.heap.size 35 us
  bR : Blk wr (w.heap.size + 1) 35 ([.int .i64 0, .int .i64 0, .string ⟨#[]⟩, .int .i64 0, .int .i64 0, .string ⟨#[]⟩, .slice none 0 0, .slice none 0 0, .slice none 0 0] : List Value)
  bO : Blk wr (w.heap.size + 1 + 1) 35 (hd ++ [.slice A n c])
  row : ∃ uk, wr.ownsRow (w.heap.size + 3) 35 9 (.slice A n c) n uk ∧ RT (SI B w (.slice A n c)) wr (filtsDs ys) uk
theorem IInv.start {w w3 : World} {B : Nat} {us hd : List Value} {c8 : Value} (hh : hd.length = 8) (e : w3 = ((w.alloc (.cells us.toArray 35)).alloc (.cells ([.int .i64 0, .int .i64 0, .string ⟨#[]⟩, .int .i64 0, .int .i64 0, .string ⟨#[]⟩, .slice none 0 0, .slice none 0 0, .slice none 0 0] : List Value).toArray 35)).alloc (.cells (hd ++ [c8]).toArray 35)) :
    Blk w3 w.heap.size 35 us ∧ Blk w3 (w.heap.size + 1 + 1) 35 (hd ++ [c8]) ∧ w3.heap.size = w.heap.size + 3 ∧ IInv w B us hd [] 0 (some ⟨w.heap.size + 3, 0, none⟩) 0 ((w3.alloc (.cells #[] 35)).setCell ⟨w.heap.size + 1 + 1, 8, none⟩ (.slice (some ⟨w.heap.size + 3, 0, none⟩) 0 0)) := by
  have hz : w3.heap.size = w.heap.size + 3 := by rw [e]; simp
  have hb : Below w.heap.size w w3 := by rw [e]; exact ((below_box2 w _ _).alloc (by simp <;> omega) _)
  have b0 : Blk w3 w.heap.size 35 us := by rw [e]; exact ((Blk.new _ _ _).alloc _).alloc _
  have b1 : Blk w3 (w.heap.size + 1) 35 ([.int .i64 0, .int .i64 0, .string ⟨#[]⟩, .int .i64 0, .int .i64 0, .string ⟨#[]⟩, .slice none 0 0, .slice none 0 0, .slice none 0 0] : List Value) := by
    have := (Blk.new (w.alloc (.cells us.toArray 35)) 35 ([.int .i64 0, .int .i64 0, .string ⟨#[]⟩, .int .i64 0, .int .i64 0, .string ⟨#[]⟩, .slice none 0 0, .slice none 0 0, .slice none 0 0] : List Value)).alloc (.cells (hd ++ [c8]).toArray 35)
    rw [e]
    simpa using this
  have b2 : Blk w3 (w.heap.size + 1 + 1) 35 (hd ++ [c8]) := by
    have := Blk.new ((w.alloc (.cells us.toArray 35)).alloc (.cells ([.int .i64 0, .int .i64 0, .string ⟨#[]⟩, .int .i64 0, .int .i64 0, .string ⟨#[]⟩, .slice none 0 0, .slice none 0 0, .slice none 0 0] : List Value).toArray 35)) 35 (hd ++ [c8])
    rw [e]
    simpa using this
  have ho := World.ownsRow_made (base := w.heap.size + 3) (e := 35) (size := 9) w3 #[] 0 (by omega) (by unfold maxLen; omega) (by simp)
  rw [hz] at ho
  refine ⟨b0, b2, hz, (hb.trans ((below_box w3 _).mono hb.size)).setCell (by show w.heap.size ≤ w.heap.size + 1 + 1; omega) _, rfl, (b0.alloc _).far (by show w.heap.size ≠ w.heap.size + 1 + 1; omega) _, (b1.alloc _).far (by show w.heap.size + 1 ≠ w.heap.size + 1 + 1; omega) _, ?_, [], owns_far ho (fun e => ?_), rfl⟩
  · have h8 := (b2.alloc (.cells #[] 35)).set_ 8 (.slice (some ⟨w.heap.size + 3, 0, none⟩) 0 0)
    rw [show (hd ++ [c8]).set 8 (.slice (some ⟨w.heap.size + 3, 0, none⟩) 0 0) = hd ++ [.slice (some ⟨w.heap.size + 3, 0, none⟩) 0 0] from by rw [List.set_append_right _ _ (by omega), hh]; rfl] at h8
    exact h8
  · have e : w.heap.size + 3 = w.heap.size + 1 + 1 := by injection e
    omega
section
variable {w wr W8 w9 : World} {B : Nat} {us hd : List Value} {ys : List Filt} {n c : Nat} {A : Option Addr}
/-- A part has come behind the parts. -/
theorem IInv.step (h : IInv w B us hd ys n A c wr) (hh : hd.length = 8) (hBw : B ≤ w.heap.size) {uk zs : List Value} {y : Filt} {o : Obj} {v2 : Value} (hown : wr.ownsRow (w.heap.size + 3) 35 9 (.slice A n c) n uk) (hrt : RT (SI B w (.slice A n c)) wr (filtsDs ys) uk) (hb : Below wr.heap.size wr W8) (hz : RT (fun b => b < B ∨ wr.heap.size ≤ b) W8 (filtDs y) zs)
    (ho : w9.ownsRow (w.heap.size + 3) 35 9 v2 (n + 1) (uk ++ zs)) (hg : (W8.alloc o).grownBy w9 (Value.slice A n c).ownBlock) (ha : v2.ownBlock = (Value.slice A n c).ownBlock ∨ v2.ownBlock = some (W8.alloc o).heap.size) :
    ∃ A' c', v2 = .slice A' (n + 1) c' ∧ Blk w9 (w.heap.size + 1 + 1) 35 (hd ++ [.slice A n c]) ∧ IInv w B us hd (ys ++ [y]) (n + 1) A' c' (w9.setCell ⟨w.heap.size + 1 + 1, 8, none⟩ (.slice A' (n + 1) c')) := by
  obtain ⟨A', c', rfl⟩ := slice_of_owns ho
  have hz0 := h.bel.size
  have hbig := h.bO.lt
  have hz2 : W8.heap.size + 1 ≤ w9.heap.size := by have := hg.size; simpa using this
  have hlt := hown.lt
  have hz8 := hb.size
  have same : ∀ b, b < W8.heap.size → (Value.slice A n c).ownBlock ≠ some b → w9.heap[b]? = W8.heap[b]? := fun b hb' hn => (hg.block b (by simp; omega) (fun e => hn e.symm)).trans (Below.heap_alloc _ _ _ hb')
  have low : ∀ b, b < w.heap.size + 3 → b < W8.heap.size → w9.heap[b]? = W8.heap[b]? := fun b hb' hb2 => same b hb2 fun e => by have := hlt b e; omega
  have hbw : Below w.heap.size w w9 := ⟨hg.os.trans (hb.os.trans h.bel.os), hg.tape.trans (hb.tape.trans h.bel.tape), hg.output.trans (hb.output.trans h.bel.output), by omega, fun b hb' => (low b (by omega) (by omega)).trans ((hb.block b (by omega)).trans (h.bel.block b hb'))⟩
  have hO9 : Blk w9 (w.heap.size + 1 + 1) 35 (hd ++ [.slice A n c]) := (h.bO.below hb).same (low _ (by omega) (by omega))
  have hf : ∀ b, b ≠ w.heap.size + 1 + 1 → (w9.setCell ⟨w.heap.size + 1 + 1, 8, none⟩ (.slice A' (n + 1) c')).heap[b]? = w9.heap[b]? := fun b hb' => Below.heap_setCell _ _ _ _ hb'
  have hne : (Value.slice A' (n + 1) c').ownBlock ≠ some (w.heap.size + 1 + 1) := fun e => by have := ho.lt _ e; omega
  refine ⟨A', c', rfl, hO9, hbw.setCell (by show w.heap.size ≤ w.heap.size + 1 + 1; omega) _, by simp [h.len], ((h.bP.below hb).same (low _ (by omega) (by omega))).same (hf _ (by omega)), ((h.bR.below hb).same (low _ (by omega) (by omega))).same (hf _ (by omega)), ?_, uk ++ zs, owns_far ho hne, ?_⟩
  · have h8 := hO9.set_ 8 (.slice A' (n + 1) c')
    rw [show (hd ++ [Value.slice A n c]).set 8 (.slice A' (n + 1) c') = hd ++ [.slice A' (n + 1) c'] from by rw [List.set_append_right _ _ (by omega), hh]; rfl] at h8
    exact h8
  · have hz9 : w9.heap.size ≤ (w9.setCell ⟨w.heap.size + 1 + 1, 8, none⟩ (.slice A' (n + 1) c')).heap.size := by simp [World.setCell]
    have hnew : ∀ b, b < W8.heap.size → (Value.slice A n c).ownBlock ≠ some b → (Value.slice A' (n + 1) c').ownBlock ≠ some b := fun b hlt' hn e => by
      rcases ha with ha | ha
      · exact hn (ha ▸ e)
      · rw [ha] at e
        injection e with e
        simp at e
        omega
    refine rt_snoc (hrt.to (by omega) fun b hb' hs => ?_) (hz.to (by omega) fun b hb' hs => ?_)
    · rcases hs with hs | ⟨hs, hs2⟩
      · have h2 : (Value.slice A n c).ownBlock ≠ some b := fun e => by have := hlt b e; omega
        exact ⟨.inl hs, (hf b (by omega)).trans ((same b (by omega) h2).trans (hb.block b hb'))⟩
      · exact ⟨.inr ⟨hs, hnew b (by omega) hs2⟩, (hf b (by omega)).trans ((same b (by omega) hs2).trans (hb.block b hb'))⟩
    · have h2 : (Value.slice A n c).ownBlock ≠ some b := fun e => by have := hlt b e; omega
      rcases hs with hs | hs
      · exact ⟨.inl hs, (hf b (by omega)).trans (same b hb' h2)⟩
      · exact ⟨.inr ⟨by omega, hnew b hb' h2⟩, (hf b (by omega)).trans (same b hb' h2)⟩
/-- The row of the parts, read of the blocks that the answer may be read of. -/
theorem IInv.trow (h : IInv w B us hd ys n A c wr) : RD (thin (fun b => b < B ∨ w.heap.size + 3 ≤ b) wr) wr.heap.size (.row 9 n (filtsDs ys)) (.slice A n c) := by
  obtain ⟨uk, h1, h2⟩ := h.row
  exact rt_row h1 (fun q hq => .inr (h1.lt q hq).1) (h2.to (Nat.le_refl _) fun b _ hs => ⟨hs.elim .inl fun h => .inr h.1, rfl⟩)
end
/-- What a switch gave is what comes back. -/
theorem si_end {B : Nat} {w W : World} {x : Filt} {zs : List Value} (h : RT (fun b => b < B ∨ w.heap.size + 3 ≤ b) W (filtDs x) zs) (hb : Below w.heap.size w W) (hB : B ≤ w.heap.size) {y : Filt} (hx : slimF y = x) :
    ∃ vs, Ending.returned (.agg zs.toArray) = .returned (.agg vs.toArray) ∧ RT (fun b => b < B ∨ w.heap.size ≤ b) (setAll W (w.heap.size + 1) 0 zs) (filtDs (slimF y)) vs ∧ Below w.heap.size w (setAll W (w.heap.size + 1) 0 zs) := by
  refine ⟨zs, rfl, ?_, setAll_below _ (by omega) hb⟩
  rw [hx]
  exact h.to (by rw [setAll_size]; exact Nat.le_refl _) fun b _ hs => ⟨hs.elim .inl fun h => .inr (by omega), setAll_other _ _ _ _ _ (by omega)⟩
set_option maxRecDepth 100000 in
set_option maxHeartbeats 4000000 in
theorem idx_calls (g : Nat) (l : List Int) (k : Int) (hl : l.length ≤ 100) (w : World) (h : Blk w g 3 (l.map (Value.int .i64))) :
    Calls Tryz.prog 76 #[.slice (some ⟨g, 0, none⟩) l.length l.length, .int .i64 k] w fun e w' => ∃ r : Int, e = .returned (.int .i64 r) ∧ (0 ≤ r ↔ k ∈ l) ∧ w' = w := by
  have H := Lib.hid h
  clear h
  go_enter Tryz.func76, Tryz.ntmps76
  go_wp2
  go_loopw [8] (fun i w' => ∃ j : Nat, j ≤ l.length ∧ i = .int .i64 j ∧ Hid (∀ x ∈ l.take j, x ≠ k) ∧ w' = w) (fun i _ => l.length - (intOf i).toNat)
  case atStart => exact ⟨0, by omega, rfl, (fun x hx => by simp at hx), rfl⟩
  case round =>
    obtain ⟨j, hj, rfl, HT, rfl⟩ := hrel
    by_cases hlt : j < l.length
    · obtain ⟨x, hx⟩ : ∃ x, l[j]? = some x := ⟨_, List.getElem?_eq_getElem hlt⟩
      have hc : wr.cell? ⟨g, j, none⟩ = some (.int .i64 x) := by rw [H.out.cell, List.getElem?_map, hx]; rfl
      have j0 : (0 : Int) ≤ (j : Int) := by omega
      have j1 : (j : Int) < (l.length : Int) := by omega
      have HM := Lib.hid (show x ∈ l from List.mem_of_getElem? hx)
      have HT2 := Lib.hid (show x ≠ k → ∀ z ∈ l.take (j + 1), z ≠ k from fun hne z hz => by
        rw [take_at hx] at hz
        rcases List.mem_append.1 hz with hz | hz
        · exact HT.out z hz
        · rw [List.mem_singleton.1 hz]; exact hne)
      clear hx
      by_cases he : k = x
      · subst he
        go_wp2
        go_ret
        exact ⟨j, rfl, ⟨fun _ => HM.out, fun _ => by omega⟩, rfl⟩
      · have hq : (k == x) = false := by simpa using he
        go_wp2
        go_roundw
        case rel => exact ⟨j + 1, by omega, by go_num, Lib.hid (HT2.out (fun e => he e.symm)), by first | rfl | trivial⟩
        case measure => simp [intOf]; omega
    · obtain rfl : j = l.length := by omega
      have HN := Lib.hid (show k ∉ l from fun h => HT.out k (by rw [List.take_length]; exact h) rfl)
      go_wp2
      go_ret
      exact ⟨-1, rfl, ⟨fun h => absurd h (by decide), fun h => absurd h HN.out⟩, rfl⟩
set_option maxRecDepth 100000 in
theorem has_calls (g : Nat) (l : List Int) (k : Int) (hl : l.length ≤ 100) (w : World) (h : Blk w g 3 (l.map (Value.int .i64))) :
    Calls Tryz.prog 64 #[.slice (some ⟨g, 0, none⟩) l.length l.length, .int .i64 k] w fun e w' => ∃ r : Bool, e = .returned (.bool r) ∧ (r = true ↔ k ∈ l) ∧ w' = w := by
  have H := Lib.hid h
  clear h
  go_enter Tryz.func64, Tryz.ntmps64
  go_wp2_with fail
  refine (idx_calls g l k hl w H.out).mono ?_
  rintro e w' ⟨r, rfl, hr, rfl⟩
  have HR := Lib.hid hr
  clear hr
  go_wp2
  go_ret
  exact ⟨_, rfl, by rw [decide_eq_true_iff]; exact HR.out, rfl⟩
set_option maxRecDepth 100000 in
theorem is_calls (k n : Int) (s : ByteArray) (v3 v4 v5 v6 v7 v8 : Value) (g : Nat) (l : List Int) (hl : l.length ≤ 100) (w : World) (h : Blk w g 3 (l.map (Value.int .i64))) :
    Calls Tryz.prog 42 #[.agg #[.int .i64 k, .int .i64 n, .string s, v3, v4, v5, v6, v7, v8], .slice (some ⟨g, 0, none⟩) l.length l.length] w (PBool (k ∈ l) w) := by
  have H := Lib.hid h
  clear h
  go_enter Tryz.func42, Tryz.ntmps42
  go_wp2_with fail
  refine (has_calls g l k hl _ (H.out.alloc _)).mono ?_
  rintro e w' ⟨r, rfl, hr, rfl⟩
  have HR := Lib.hid hr
  clear hr
  go_wp2
  go_ret
  exact ⟨r, rfl, HR.out, below_box _ _⟩
theorem is1 (k n : Int) (s : ByteArray) (v3 v4 v5 v6 v7 v8 : Value) (a : Int) (w : World) :
    Calls Tryz.prog 42 #[.agg #[.int .i64 k, .int .i64 n, .string s, v3, v4, v5, v6, v7, v8], .slice (some ⟨w.heap.size, 0, none⟩) 1 1] (w.alloc (.cells #[.int .i64 a] 3)) (PBool (k = a) w) := by
  refine (is_calls k n s v3 v4 v5 v6 v7 v8 w.heap.size [a] (by simp) (w.alloc (.cells #[.int .i64 a] 3)) (Blk.new w 3 [.int .i64 a])).mono ?_
  rintro e w' ⟨r, rfl, hr, hb⟩
  exact ⟨r, rfl, by rw [hr]; simp, (below_box w _).trans (hb.mono (by simp))⟩
theorem is2 (k n : Int) (s : ByteArray) (v3 v4 v5 v6 v7 v8 : Value) (a b : Int) (w : World) :
    Calls Tryz.prog 42 #[.agg #[.int .i64 k, .int .i64 n, .string s, v3, v4, v5, v6, v7, v8], .slice (some ⟨w.heap.size, 0, none⟩) 2 2] (w.alloc (.cells #[.int .i64 a, .int .i64 b] 3)) (PBool (k = a ∨ k = b) w) := by
  refine (is_calls k n s v3 v4 v5 v6 v7 v8 w.heap.size [a, b] (by simp) (w.alloc (.cells #[.int .i64 a, .int .i64 b] 3)) (Blk.new w 3 [.int .i64 a, .int .i64 b])).mono ?_
  rintro e w' ⟨r, rfl, hr, hb⟩
  exact ⟨r, rfl, by rw [hr]; simp, (below_box w _).trans (hb.mono (by simp))⟩
end Go.Proofs.YtppfgepoegicgaaGreatDoor
