/- The tied card of the law FnExactSlimTell: the row proved in RowSlimTell, its one listed variable tied to the program's text. -/
import Derived.Test.YtppfgepoegicgaaDoorZRowSlimTell
import Derived.Test.YtppfgepoegicgaaDoorCards
import Derived.Test.YtppfgepoegicgaaDoorTie
import Derived.SevenTiedAt
namespace Go.Proofs.YtppfgepoegicgaaDoor
open Go.ChangeShapes Go.WideShapes Go.RowKit
theorem slimTellCard_holds : Rows.FnExactSlimTellCardSaid :=
  Claim7.holds_tied_plain_at .later [] [.data] true (true, "eadadd9b34d005914669c610c3291f21e58fcac59b632b136a163a168cc53460") false
    slimTell_holds (fun _ h => by cases h) (by kernel_rfl) (fun _ h => by cases h) fnExactSlimTell_row_tie rfl ⟨rfl, rfl⟩ (by kernel_rfl) rfl
    (fun f fn hf hfn => by
      obtain rfl : f = 4 := Option.some.inj ((show Tryd.prog.funcNamed "loop.example/cribble/laws.FnExactSlimTell" = some 4 by kernel_rfl).symm.trans hf) |>.symm
      obtain rfl : fn = Tryd.f4 := (Option.some.inj (Tryd.func4.symm.trans hfn)).symm
      exact ⟨by kernel_rfl, fun j t ht => by
        rw [Tryd.params4] at ht
        have h3 : t = 28 := by
          rcases j with _ | j
          · simpa using ht.symm
          · simp at ht
        subst h3
        exact (show Tryd.prog.wantsStandIn 28 = false by kernel_rfl)⟩)
    (by kernel_rfl)
#print axioms slimTellCard_holds
end Go.Proofs.YtppfgepoegicgaaDoor
