/- The tied card of the law FnExactSlim: the row proved in RowSlim, its one listed variable tied to the program's text. -/
import Derived.Test.YtppfgepoegicgaaGreatDoorZRowSlim
import Derived.Test.YtppfgepoegicgaaGreatDoorCards
import Derived.Test.YtppfgepoegicgaaGreatDoorTie
import Derived.SevenTiedAt
namespace Go.Proofs.YtppfgepoegicgaaGreatDoor
open Go.ChangeShapes Go.WideShapes Go.RowKit
theorem slimCard_holds : Rows.FnExactSlimCardSaid :=
  Claim7.holds_tied_plain_at .later [] [.data] true (true, "5e9196c0160494dba03eb0d1f4ce961fee0e2e63061ea538d9f27ff5a1d9a38c") false
    slim_holds (fun _ h => by cases h) (by kernel_rfl) (fun _ h => by cases h) fnExactSlim_row_tie rfl ⟨rfl, rfl⟩ (by kernel_rfl) rfl
    (fun f fn hf hfn => by
      obtain rfl : f = 3 := Option.some.inj ((show Tryz.prog.funcNamed "loop.example/cribble/laws.FnExactSlim" = some 3 by kernel_rfl).symm.trans hf) |>.symm
      obtain rfl : fn = Tryz.f3 := (Option.some.inj (Tryz.func3.symm.trans hfn)).symm
      exact ⟨by kernel_rfl, fun j t ht => by
        rw [Tryz.params3] at ht
        have h3 : t = 28 := by
          rcases j with _ | j
          · simpa using ht.symm
          · simp at ht
        subst h3
        exact (show Tryz.prog.wantsStandIn 28 = false by kernel_rfl)⟩)
    (by kernel_rfl)
#print axioms slimCard_holds
end Go.Proofs.YtppfgepoegicgaaGreatDoor
