/- The tied card of the law FnExactSlimKeys: the row proved in RowSlimKeys, its one listed variable tied to the program's text. -/
import Derived.Test.YtppfgepoegicgaaDoorZRowSlimKeys
import Derived.Test.YtppfgepoegicgaaDoorCards
import Derived.Test.YtppfgepoegicgaaDoorTie
import Derived.SevenTiedAt
namespace Go.Proofs.YtppfgepoegicgaaDoor
open Go.ChangeShapes Go.WideShapes Go.RowKit
theorem slimKeysCard_holds : Rows.FnExactSlimKeysCardSaid :=
  Claim7.holds_tied_plain_at .later [] [.data] true (true, "eadadd9b34d005914669c610c3291f21e58fcac59b632b136a163a168cc53460") false
    slimKeys_holds (fun _ h => by cases h) (by kernel_rfl) (fun _ h => by cases h) fnExactSlimKeys_row_tie rfl ⟨rfl, rfl⟩ (by kernel_rfl) rfl
    (fun f fn hf hfn => by
      obtain rfl : f = 5 := Option.some.inj ((show Tryd.prog.funcNamed "loop.example/cribble/laws.FnExactSlimKeys" = some 5 by kernel_rfl).symm.trans hf) |>.symm
      obtain rfl : fn = Tryd.f5 := (Option.some.inj (Tryd.func5.symm.trans hfn)).symm
      exact ⟨by kernel_rfl, fun j t ht => by
        rw [Tryd.params5] at ht
        have h3 : t = 28 := by
          rcases j with _ | j
          · simpa using ht.symm
          · simp at ht
        subst h3
        exact (show Tryd.prog.wantsStandIn 28 = false by kernel_rfl)⟩)
    (by kernel_rfl)
#print axioms slimKeysCard_holds
end Go.Proofs.YtppfgepoegicgaaDoor
