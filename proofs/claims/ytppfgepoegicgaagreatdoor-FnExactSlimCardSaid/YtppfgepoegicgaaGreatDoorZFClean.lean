/- Parts of the proof: FClean. -/
import Derived.Test.YtppfgepoegicgaaGreatDoorZFOkDef
import Derived.Test.YtppfgepoegicgaaGreatDoorGaa
namespace Go.Proofs.YtppfgepoegicgaaGreatDoor
open Go Go.RowKit

theorem PBool.true_ {p : Prop} {w w' : World} {e : Ending} (hp : p) (h : PBool p w e w') : e = .returned (.bool true) ∧ Below w.heap.size w w' := by
  obtain ⟨r, rfl, h2, h3⟩ := h
  rw [h2.2 hp]
  exact ⟨rfl, h3⟩
theorem PBool.false_ {p : Prop} {w w' : World} {e : Ending} (hp : ¬ p) (h : PBool p w e w') : e = .returned (.bool false) ∧ Below w.heap.size w w' := by
  obtain ⟨r, rfl, h2, h3⟩ := h
  cases r with
  | true => exact absurd (h2.1 rfl) hp
  | false => exact ⟨rfl, h3⟩
theorem zero_rd (w : World) (B : Nat) : RDv w B (valDs zeroVal) [.int .i64 0, .int .i64 0, .string ⟨#[]⟩, .slice none 0 0, .slice none 0 0] := by
  have hr : ∀ z, RD w B (.row z 0 []) (.slice none 0 0) := fun z => ⟨none, 0, [], rfl, Nat.le_refl _, by omega, ⟨by simp, fun h => absurd h (by omega)⟩, rfl⟩
  exact ⟨_, _, rfl, rfl, _, _, rfl, rfl, _, _, rfl, ⟨rfl, by decide⟩, _, _, rfl, hr 1, _, _, rfl, hr 5, rfl⟩

set_option maxRecDepth 100000 in
set_option maxHeartbeats 4000000 in
theorem sClean_calls (kind n : Int) (s : ByteArray) (v : Val) (kids : List Filt) (us : List Value) (w : World) (B : Nat) (hB : B ≤ w.heap.size) (h : RDv w B (filtDs (.mk kind n s v kids)) us) :
    Calls Tryz.prog 55 #[.agg us.toArray] w (PBool (FClean kind n s v) w) := by
  obtain ⟨_, _, _, _, _, a3, a4, a5, A6, n6, q6, A7, n7, q7, A8, q8, e, rfl, hs, hv, hk⟩ := filtDs_all h
  injection e with e1 e2 e3 e4 e5
  subst e1 e2 e3 e4 e5
  have HV := Lib.hid hv
  have hbx := fun o => below_box w o
  clear h hv hk
  by_cases k4 : kind = 4
  · subst k4
    by_cases s0 : s = ⟨#[]⟩
    case neg =>
      have HN := Lib.hid (show ¬ FClean 4 n s v from fun h => by
        rcases h.2.1 with h | h
        · omega
        · exact s0 h)
      have s1 := empty_ne s0
      clear s0
      go_enter Tryz.func55, Tryz.ntmps55
      go_wp2
      go_ret
      exact PBool.no HN.out (hbx _)
    subst s0
    have HC := Lib.hid (show FClean 4 n ⟨#[]⟩ v ↔ v = zeroVal from ⟨fun h => by
      rcases h.2.2 with h | h
      · omega
      · exact h, fun h => ⟨.inl rfl, .inr rfl, .inr h⟩⟩)
    go_enter Tryz.func55, Tryz.ntmps55
    go_wp2_with fail
    refine (sSameVal_calls v zeroVal [_, _, _, _, _] [_, _, _, _, _] _ B (Nat.le_trans hB (hbx _).size) (HV.out.below ((hbx _).mono hB)) (zero_rd _ _)).mono ?_
    rintro e w1 ⟨r, rfl, hr, hb1⟩
    have HR := Lib.hid (hr.trans HC.out.symm)
    have HB := Lib.hid ((hbx _).trans (hb1.mono (hbx _).size))
    clear hr hb1
    go_wp2
    go_ret
    exact ⟨_, rfl, HR.out, HB.out⟩
  by_cases k3 : kind = 3
  · subst k3
    by_cases n0 : n = 0
    case neg =>
      have HN := Lib.hid (show ¬ FClean 3 n s v from fun h => by rcases h.1 with h | h <;> omega)
      have n1 : (n == 0) = false := by simpa using n0
      go_enter Tryz.func55, Tryz.ntmps55
      go_wp2
      go_ret
      exact PBool.no HN.out (hbx _)
    subst n0
    have HC := Lib.hid (show FClean 3 0 s v ↔ v = zeroVal from ⟨fun h => by
      rcases h.2.2 with h | h
      · omega
      · exact h, fun h => ⟨.inr rfl, .inl (.inl rfl), .inr h⟩⟩)
    go_enter Tryz.func55, Tryz.ntmps55
    go_wp2_with fail
    refine (sSameVal_calls v zeroVal [_, _, _, _, _] [_, _, _, _, _] _ B (Nat.le_trans hB (hbx _).size) (HV.out.below ((hbx _).mono hB)) (zero_rd _ _)).mono ?_
    rintro e w1 ⟨r, rfl, hr, hb1⟩
    have HR := Lib.hid (hr.trans HC.out.symm)
    have HB := Lib.hid ((hbx _).trans (hb1.mono (hbx _).size))
    clear hr hb1
    go_wp2
    go_ret
    exact ⟨_, rfl, HR.out, HB.out⟩
  by_cases k21 : kind = 21
  · subst k21
    by_cases n0 : n = 0
    case neg =>
      have HN := Lib.hid (show ¬ FClean 21 n s v from fun h => by rcases h.1 with h | h <;> omega)
      have n1 : (n == 0) = false := by simpa using n0
      go_enter Tryz.func55, Tryz.ntmps55
      go_wp2
      go_ret
      exact PBool.no HN.out (hbx _)
    subst n0
    have HC := Lib.hid (show FClean 21 0 s v ↔ v = zeroVal from ⟨fun h => by
      rcases h.2.2 with h | h
      · omega
      · exact h, fun h => ⟨.inr rfl, .inl (.inr rfl), .inr h⟩⟩)
    go_enter Tryz.func55, Tryz.ntmps55
    go_wp2_with fail
    refine (sSameVal_calls v zeroVal [_, _, _, _, _] [_, _, _, _, _] _ B (Nat.le_trans hB (hbx _).size) (HV.out.below ((hbx _).mono hB)) (zero_rd _ _)).mono ?_
    rintro e w1 ⟨r, rfl, hr, hb1⟩
    have HR := Lib.hid (hr.trans HC.out.symm)
    have HB := Lib.hid ((hbx _).trans (hb1.mono (hbx _).size))
    clear hr hb1
    go_wp2
    go_ret
    exact ⟨_, rfl, HR.out, HB.out⟩
  by_cases k2 : kind = 2
  · subst k2
    by_cases n0 : n = 0
    case neg =>
      have HN := Lib.hid (show ¬ FClean 2 n s v from fun h => by rcases h.1 with h | h <;> omega)
      have n1 : (n == 0) = false := by simpa using n0
      go_enter Tryz.func55, Tryz.ntmps55
      go_wp2
      go_ret
      exact PBool.no HN.out (hbx _)
    subst n0
    by_cases s0 : s = ⟨#[]⟩
    case neg =>
      have HN := Lib.hid (show ¬ FClean 2 0 s v from fun h => by
        rcases h.2.1 with h | h
        · omega
        · exact s0 h)
      have s1 := empty_ne s0
      clear s0
      go_enter Tryz.func55, Tryz.ntmps55
      go_wp2
      go_ret
      exact PBool.no HN.out (hbx _)
    subst s0
    go_enter Tryz.func55, Tryz.ntmps55
    go_wp2
    go_ret
    exact PBool.yes ⟨.inr rfl, .inr rfl, .inl rfl⟩ (hbx _)
  have b4 : (kind == 4) = false := by simpa using k4
  have b3 : (kind == 3) = false := by simpa using k3
  have b21 : (kind == 21) = false := by simpa using k21
  have b2 : (kind == 2) = false := by simpa using k2
  by_cases n0 : n = 0
  case neg =>
    have HN := Lib.hid (show ¬ FClean kind n s v from fun h => by rcases h.1 with h | h <;> omega)
    have n1 : (n == 0) = false := by simpa using n0
    clear k4 k3 k21 k2
    go_enter Tryz.func55, Tryz.ntmps55
    go_wp2
    go_ret
    exact PBool.no HN.out (hbx _)
  subst n0
  by_cases s0 : s = ⟨#[]⟩
  case neg =>
    have HN := Lib.hid (show ¬ FClean kind 0 s v from fun h => by
      rcases h.2.1 with h | h
      · omega
      · exact s0 h)
    have s1 := empty_ne s0
    clear s0
    clear k4 k3 k21 k2
    go_enter Tryz.func55, Tryz.ntmps55
    go_wp2
    go_ret
    exact PBool.no HN.out (hbx _)
  subst s0
  have HC := Lib.hid (show FClean kind 0 ⟨#[]⟩ v ↔ v = zeroVal from ⟨fun h => by
    rcases h.2.2 with h | h
    · omega
    · exact h, fun h => ⟨.inr rfl, .inr rfl, .inr h⟩⟩)
  clear k4 k3 k21 k2
  go_enter Tryz.func55, Tryz.ntmps55
  go_wp2_with fail
  refine (sSameVal_calls v zeroVal [_, _, _, _, _] [_, _, _, _, _] _ B (Nat.le_trans hB (hbx _).size) (HV.out.below ((hbx _).mono hB)) (zero_rd _ _)).mono ?_
  rintro e w1 ⟨r, rfl, hr, hb1⟩
  have HR := Lib.hid (hr.trans HC.out.symm)
  have HB := Lib.hid ((hbx _).trans (hb1.mono (hbx _).size))
  clear hr hb1
  go_wp2
  go_ret
  exact ⟨_, rfl, HR.out, HB.out⟩
end Go.Proofs.YtppfgepoegicgaaGreatDoor
