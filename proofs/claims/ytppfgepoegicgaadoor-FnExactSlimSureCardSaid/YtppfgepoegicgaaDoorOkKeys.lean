import Derived.Test.YtppfgepoegicgaaDoorOkText
import Derived.StillTailTactics
import Derived.IntWalk
namespace Go.Proofs.YtppfgepoegicgaaDoor
open Go Go.RowKit

theorem bl_of_not {a b : ByteArray} (h : Op.bytesLess a.toList b.toList = true) : (Op.bytesLess b.toList a.toList || b.toList == a.toList) = false := by
  rw [bl_asymm h, Bool.false_or, beq_eq_false_iff_ne]
  intro e
  rw [e, bl_irrefl] at h
  cases h
theorem bl_not {a b : ByteArray} (h : ¬ Op.bytesLess a.toList b.toList = true) : (Op.bytesLess b.toList a.toList || b.toList == a.toList) = true := by
  rcases bl_tri a.toList b.toList with h1 | h1 | h1
  · exact absurd h1 h
  · rw [h1]; simp
  · rw [h1]; rfl

/-- The old world, some orders having been drawn. -/
structure Drawn (w w' : World) : Prop where
  out : ∃ n, w' = w.drewN n
theorem Drawn.refl (w : World) : Drawn w w := ⟨0, rfl⟩
theorem Drawn.step {w w' : World} (h : Drawn w w') (n : Nat) : Drawn w (w'.drewN n) := by
  obtain ⟨m, rfl⟩ := h.out
  exact ⟨m + n, World.drewN_drewN ..⟩
theorem Drawn.below {w w' : World} (h : Drawn w w') : Below w.heap.size w w' := by
  obtain ⟨n, rfl⟩ := h.out
  exact below_drewN (Below.refl _ _) n
def PDrawn (p : Prop) (w : World) (e : Ending) (w' : World) : Prop := ∃ r, e = .returned (.bool r) ∧ (r = true ↔ p) ∧ Drawn w w'
theorem PDrawn.yes {p : Prop} {w w' : World} (h : p) (hd : Drawn w w') : PDrawn p w (.returned (.bool true)) w' := ⟨true, rfl, ⟨fun _ => h, fun _ => rfl⟩, hd⟩
theorem PDrawn.no {p : Prop} {w w' : World} (h : ¬ p) (hd : Drawn w w') : PDrawn p w (.returned (.bool false)) w' := ⟨false, rfl, ⟨(fun e => by cases e), fun e => absurd e h⟩, hd⟩

set_option maxRecDepth 100000 in
set_option maxHeartbeats 2000000 in
theorem sKeys_calls (ks : List ByteArray) (A : Option Addr) (c : Nat) (w : World) (B : Nat) (h : RD w B (.row 1 ks.length (strDs ks)) (.slice A ks.length c)) :
    Calls Tryd.prog 85 #[.slice A ks.length c] w (PDrawn (KeysOk ks) w) := by
  have hn := h.len
  have H := Lib.hid h
  clear h
  go_enter Tryd.func85, Tryd.ntmps85
  go_wp2
  go_loopw [3] (fun i w' => ∃ k : Nat, k ≤ ks.length ∧ i = .int .i64 k ∧ Hid (KeysTo ks k) ∧ Drawn w w') (fun i _ => ks.length - (intOf i).toNat)
  case atStart => exact ⟨0, by omega, rfl, KeysTo.zero ks, Drawn.refl _⟩
  case round =>
    obtain ⟨k, hk, rfl, HI, HD⟩ := hrel
    by_cases hlt : k < ks.length
    · have H1 := Lib.hid (RD.keep (Nat.le_refl B) (fun p _ => by obtain ⟨n, rfl⟩ := HD.out; rfl) _ _ H.out : RD wr B _ _)
      obtain ⟨ad, s1, rfl, hbl, hc1, hs1, hd1⟩ := row1_at H1.out rfl hlt
      have E1 := Lib.hid (getD_of_drop hd1.out)
      have j0 : (0 : Int) ≤ (k : Int) := by omega
      have j1 : (k : Int) < (ks.length : Int) := by omega
      have hz0 : k = 0 → wr.cell? ad = some (.string s1) := fun e => by subst e; simpa [Addr.add] using hc1
      by_cases t : TextOk s1
      · by_cases k0 : k = 0
        · subst k0
          have hz := hz0 rfl
          have HN := Lib.hid (HI.out.step (by rw [E1.out]; exact t) (fun j h => by omega))
          clear hz0 hc1
          go_wp2_with fail
          go_quiet ((go_at_call 54; exact Calls.quiet_of_same ((sTextOk_calls s1 _ hs1).mono fun _ _ h => h.true_ t)))
          go_wp2
          go_roundw
          case rel => exact ⟨1, by omega, rfl, HN, HD.step _⟩
          case measure => simp [intOf]; omega
        · obtain ⟨ad', s0, ea, hbl0, hc0, hs0, hd0⟩ := row1_at H1.out rfl (show k - 1 < ks.length by omega)
          injection ea with ea
          subst ea
          have E0 := Lib.hid (getD_of_drop hd0.out)
          have j2 : (0 : Int) ≤ (k : Int) - 1 := by omega
          have j3 : (k : Int) - 1 < (ks.length : Int) := by omega
          have j4 : 0 < k := by omega
          have j5 : ((k : Int) - 1).toNat = k - 1 := by omega
          have j6 : IntKind.i64.wrap ((k : Int) - 1) = (k : Int) - 1 := IntWalk.i64_in _ (by omega)
          clear hz0
          by_cases t2 : Op.bytesLess s0.toList s1.toList = true
          · have d2 := bl_of_not t2
            have HN := Lib.hid (HI.out.step (by rw [E1.out]; exact t) (fun j h => by
              obtain rfl : j = k - 1 := by omega
              rw [E0.out, E1.out]
              exact t2))
            clear t2
            go_wp2_with fail
            go_quiet ((go_at_call 54; exact Calls.quiet_of_same ((sTextOk_calls s1 _ hs1).mono fun _ _ h => h.true_ t)))
            clear j5 j6
            go_wp2
            go_roundw
            case rel => exact ⟨k + 1, by omega, by go_num, HN, HD.step _⟩
            case measure => simp [intOf]; omega
          · have d2 := bl_not t2
            have HN := Lib.hid (show ¬ KeysOk ks from fun h => t2 (by
              have := h.2 (k - 1) (by omega)
              rw [show k - 1 + 1 = k by omega, E0.out, E1.out] at this
              exact this))
            clear t2
            go_wp2_with fail
            go_quiet ((go_at_call 54; exact Calls.quiet_of_same ((sTextOk_calls s1 _ hs1).mono fun _ _ h => h.true_ t)))
            clear j5 j6
            go_wp2
            go_ret
            exact PDrawn.no HN.out (HD.step _)
      · have HN := Lib.hid (show ¬ KeysOk ks from fun h => t (by have := h.text k hlt; rwa [E1.out] at this))
        by_cases k0 : k = 0
        · subst k0
          have hz := hz0 rfl
          clear hz0 hc1
          go_wp2_with fail
          go_quiet ((go_at_call 54; exact Calls.quiet_of_same ((sTextOk_calls s1 _ hs1).mono fun _ _ h => h.false_ t)))
          go_wp2
          go_ret
          exact PDrawn.no HN.out (HD.step _)
        · clear hz0
          go_wp2_with fail
          go_quiet ((go_at_call 54; exact Calls.quiet_of_same ((sTextOk_calls s1 _ hs1).mono fun _ _ h => h.false_ t)))
          go_wp2
          go_ret
          exact PDrawn.no HN.out (HD.step _)
    · have HN := Lib.hid (show KeysOk ks from KeysTo.all (by have := HI.out; rwa [show k = ks.length by omega] at this))
      go_wp2
      go_ret
      exact PDrawn.yes HN.out HD
end Go.Proofs.YtppfgepoegicgaaDoor
