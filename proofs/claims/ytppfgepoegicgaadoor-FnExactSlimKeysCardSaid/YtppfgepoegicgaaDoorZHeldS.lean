/- The law's look at a row of texts that was marked. -/
import Derived.Test.YtppfgepoegicgaaDoorZMarkText
namespace Go.Proofs.YtppfgepoegicgaaDoor
open Go Go.RowKit

/-- What a look at marked data does: it returns the next number. -/
def PHeld (k' : Int) (w : World) (e : Ending) (w' : World) : Prop := e = .returned (.int .i64 k') ∧ Below w.heap.size w w'
theorem mStrs_drop : ∀ (ss : List ByteArray) (k : Int) (j : Nat), (mStrs ss k).drop j = mStrs (ss.drop j) (k + j)
  | [], _, _ => by simp [mStrs]
  | _ :: _, k, 0 => by simp
  | _ :: r, k, j + 1 => by
    simp only [mStrs, List.drop_succ_cons, mStrs_drop r]
    congr 1
    omega

set_option maxRecDepth 100000 in
set_option maxHeartbeats 2000000 in
theorem heldStringS_calls (ss : List ByteArray) (A : Option Addr) (c n B : Nat) (k : Int) (w : World) (hB : B ≤ w.heap.size) (hk0 : 0 ≤ k) (hk : k + ss.length ≤ 4611686018427387904) (hn0 : ss.length = n) (h : RD w B (.row 1 n (strDs (mStrs ss k))) (.slice A n c)) :
    Calls Tryd.prog 18 #[.slice A n c, .int .i64 k] w (PHeld (k + n) w) := by
  have hn := h.len
  have H := Lib.hid h
  have HN := Lib.hid hn0
  rw [hn0] at hk
  clear h hn0
  go_enter Tryd.func18, Tryd.ntmps18
  go_wp2
  go_loopw [1, 5] (fun q i w' => ∃ (j : Nat), j ≤ n ∧ i = .int .i64 j ∧ q = .int .i64 (k + j) ∧ Below w.heap.size w w') (fun _ i _ => n - (intOf i).toNat)
  case atStart => exact ⟨0, by omega, rfl, by go_num, Below.refl _ _⟩
  case round =>
    obtain ⟨j, hj, rfl, rfl, hb⟩ := hrel
    by_cases hlt : j < n
    · obtain ⟨ad, s, rfl, hbl, hc, hs, hd⟩ := row1_at (H.out.upto (hb.mono hB) (Nat.le_refl _)) (by rw [mStrs_length, HN.out]) hlt
      have hs2 : s = markT (k + j) := by
        have h1 := hd.out
        rw [mStrs_drop, List.drop_eq_getElem_cons (by rw [HN.out]; exact hlt), mStrs] at h1
        injection h1 with h1 h2
        exact h1.symm
      subst hs2
      have hz := hb.size
      have j0 : (0 : Int) ≤ (j : Int) := by omega
      have j1 : (j : Int) < (n : Int) := by omega
      go_wp2
      go_region_held3 (fun w' => w'.cell? (ad.add j) = some (.string (markT (k + j)))) (first | (simpa using hc) | (exact (hbm.cell (p := ad.add j) (by rw [block_of_add]; simp; omega)).trans (by simpa using hc))) ((go_at_call 37; ((with_reducible refine (markText_calls _ _ (by omega)).mono ?_); rintro e w1 ⟨rfl, hbm⟩)))
      have hb2 := (hb.trans ((Below.refl _ _).drew.trans (hbm.mono (by simpa using hz))))
      clear hbm hc hd
      go_wp2
      go_roundw
      case rel => exact ⟨j + 1, by omega, by go_num, by go_num, hb2⟩
      case measure => simp [intOf]; omega
    · obtain rfl : j = n := by omega
      go_wp2
      go_ret
      exact ⟨rfl, hb⟩
end Go.Proofs.YtppfgepoegicgaaDoor
