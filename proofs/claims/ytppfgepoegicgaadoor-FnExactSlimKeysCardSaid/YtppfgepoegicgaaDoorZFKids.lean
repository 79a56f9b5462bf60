/- Parts of the proof: FKids. -/
import Derived.Test.YtppfgepoegicgaaDoorZFOkDef
namespace Go.Proofs.YtppfgepoegicgaaDoor
open Go Go.RowKit

set_option maxRecDepth 100000 in
set_option maxHeartbeats 4000000 in
theorem kids_calls (k : Int) (w : World) : Calls Tryd.prog 52 #[.int .i64 k] w fun e w' => e = .returned (.int .i64 (kidsOf k)) ∧ w' = w := by
  by_cases e1 : k = 1
  · subst e1
    go_enter Tryd.func52, Tryd.ntmps52
    go_wp2
    go_ret
    exact ⟨rfl, rfl⟩
  by_cases e2 : k = 2
  · subst e2
    go_enter Tryd.func52, Tryd.ntmps52
    go_wp2
    go_ret
    exact ⟨rfl, rfl⟩
  by_cases e3 : k = 3
  · subst e3
    go_enter Tryd.func52, Tryd.ntmps52
    go_wp2
    go_ret
    exact ⟨rfl, rfl⟩
  by_cases e4 : k = 4
  · subst e4
    go_enter Tryd.func52, Tryd.ntmps52
    go_wp2
    go_ret
    exact ⟨rfl, rfl⟩
  by_cases e5 : k = 5
  · subst e5
    go_enter Tryd.func52, Tryd.ntmps52
    go_wp2
    go_ret
    exact ⟨rfl, rfl⟩
  by_cases e6 : k = 6
  · subst e6
    go_enter Tryd.func52, Tryd.ntmps52
    go_wp2
    go_ret
    exact ⟨rfl, rfl⟩
  by_cases e7 : k = 7
  · subst e7
    go_enter Tryd.func52, Tryd.ntmps52
    go_wp2
    go_ret
    exact ⟨rfl, rfl⟩
  by_cases e8 : k = 8
  · subst e8
    go_enter Tryd.func52, Tryd.ntmps52
    go_wp2
    go_ret
    exact ⟨rfl, rfl⟩
  by_cases e9 : k = 9
  · subst e9
    go_enter Tryd.func52, Tryd.ntmps52
    go_wp2
    go_ret
    exact ⟨rfl, rfl⟩
  by_cases e10 : k = 10
  · subst e10
    go_enter Tryd.func52, Tryd.ntmps52
    go_wp2
    go_ret
    exact ⟨rfl, rfl⟩
  by_cases e11 : k = 11
  · subst e11
    go_enter Tryd.func52, Tryd.ntmps52
    go_wp2
    go_ret
    exact ⟨rfl, rfl⟩
  by_cases e12 : k = 12
  · subst e12
    go_enter Tryd.func52, Tryd.ntmps52
    go_wp2
    go_ret
    exact ⟨rfl, rfl⟩
  by_cases e13 : k = 13
  · subst e13
    go_enter Tryd.func52, Tryd.ntmps52
    go_wp2
    go_ret
    exact ⟨rfl, rfl⟩
  by_cases e14 : k = 14
  · subst e14
    go_enter Tryd.func52, Tryd.ntmps52
    go_wp2
    go_ret
    exact ⟨rfl, rfl⟩
  by_cases e15 : k = 15
  · subst e15
    go_enter Tryd.func52, Tryd.ntmps52
    go_wp2
    go_ret
    exact ⟨rfl, rfl⟩
  by_cases e16 : k = 16
  · subst e16
    go_enter Tryd.func52, Tryd.ntmps52
    go_wp2
    go_ret
    exact ⟨rfl, rfl⟩
  by_cases e17 : k = 17
  · subst e17
    go_enter Tryd.func52, Tryd.ntmps52
    go_wp2
    go_ret
    exact ⟨rfl, rfl⟩
  by_cases e18 : k = 18
  · subst e18
    go_enter Tryd.func52, Tryd.ntmps52
    go_wp2
    go_ret
    exact ⟨rfl, rfl⟩
  by_cases e19 : k = 19
  · subst e19
    go_enter Tryd.func52, Tryd.ntmps52
    go_wp2
    go_ret
    exact ⟨rfl, rfl⟩
  by_cases e20 : k = 20
  · subst e20
    go_enter Tryd.func52, Tryd.ntmps52
    go_wp2
    go_ret
    exact ⟨rfl, rfl⟩
  by_cases e21 : k = 21
  · subst e21
    go_enter Tryd.func52, Tryd.ntmps52
    go_wp2
    go_ret
    exact ⟨rfl, rfl⟩
  have HE := Lib.hid (show kidsOf k = -1 by unfold kidsOf; rw [if_pos (by omega)])
  have b1 : (k == 1) = false := by simpa using e1
  have b2 : (k == 2) = false := by simpa using e2
  have b3 : (k == 3) = false := by simpa using e3
  have b4 : (k == 4) = false := by simpa using e4
  have b5 : (k == 5) = false := by simpa using e5
  have b6 : (k == 6) = false := by simpa using e6
  have b7 : (k == 7) = false := by simpa using e7
  have b8 : (k == 8) = false := by simpa using e8
  have b9 : (k == 9) = false := by simpa using e9
  have b10 : (k == 10) = false := by simpa using e10
  have b11 : (k == 11) = false := by simpa using e11
  have b12 : (k == 12) = false := by simpa using e12
  have b13 : (k == 13) = false := by simpa using e13
  have b14 : (k == 14) = false := by simpa using e14
  have b15 : (k == 15) = false := by simpa using e15
  have b16 : (k == 16) = false := by simpa using e16
  have b17 : (k == 17) = false := by simpa using e17
  have b18 : (k == 18) = false := by simpa using e18
  have b19 : (k == 19) = false := by simpa using e19
  have b20 : (k == 20) = false := by simpa using e20
  have b21 : (k == 21) = false := by simpa using e21
  clear e1 e2 e3 e4 e5 e6 e7 e8 e9 e10 e11 e12 e13 e14 e15 e16 e17 e18 e19 e20 e21
  go_enter Tryd.func52, Tryd.ntmps52
  go_wp2
  go_ret
  exact ⟨by rw [HE.out]; rfl, rfl⟩
end Go.Proofs.YtppfgepoegicgaaDoor
