/-
  DERIVED. GIVEN WITH THE SEED: THE CARDS: each row of YtppfgepoegicgaaDoorRows.lean that lists a variable, with what it lists TIED to the program's text (the seventh form; the later family's looks); each row that meets fmt, with fmt's text TOLD by the authors' own Lean function (tested against real Go, not proved from fmt's source: count such statements apart). THE CARD IS WHAT COUNTS. Prove the row's statement (the work); the ties are given (YtppfgepoegicgaaDoorTie.lean); close each card by the builder's one call (the guide's Derived/Test/ToyasCard.lean, 'card_holds'). Laid BY PROGRAM, IN A SANDBOX (cutbox-door.mjs). By AI agents, Wed Nov 11 2026. No macro, syntax, notation, axiom, sorry.
-/
import Derived.Test.YtppfgepoegicgaaDoorRows
import GoSem.ClaimSeven
namespace Go.Proofs.YtppfgepoegicgaaDoor
namespace Rows

/-- THE TIED CARD OF 'laws.FnExactSlimSure'. -/
def fnExactSlimSureCard : Claim7 := { stood := { row := fnExactSlimSureRow, standIns := [], harness := (true, "eadadd9b34d005914669c610c3291f21e58fcac59b632b136a163a168cc53460"), looks := false }, kinds := [], alts := [], laidByText := true, laidKinds := [.data], laidTests := true, laidLooks := .later }
def FnExactSlimSureCardSaid : Prop := Claim7.holds Tryd.pinned (.plain (OpenSpec.ofChange fnExactSlimSureSpec)) fnExactSlimSureCard

/-- THE TIED CARD OF 'laws.FnExactSlimTell'. -/
def fnExactSlimTellCard : Claim7 := { stood := { row := fnExactSlimTellRow, standIns := [], harness := (true, "eadadd9b34d005914669c610c3291f21e58fcac59b632b136a163a168cc53460"), looks := false }, kinds := [], alts := [], laidByText := true, laidKinds := [.data], laidTests := true, laidLooks := .later }
def FnExactSlimTellCardSaid : Prop := Claim7.holds Tryd.pinned (.plain (OpenSpec.ofChange fnExactSlimTellSpec)) fnExactSlimTellCard

/-- THE TIED CARD OF 'laws.FnExactSlimKeys'. -/
def fnExactSlimKeysCard : Claim7 := { stood := { row := fnExactSlimKeysRow, standIns := [], harness := (true, "eadadd9b34d005914669c610c3291f21e58fcac59b632b136a163a168cc53460"), looks := false }, kinds := [], alts := [], laidByText := true, laidKinds := [.data], laidTests := true, laidLooks := .later }
def FnExactSlimKeysCardSaid : Prop := Claim7.holds Tryd.pinned (.plain (OpenSpec.ofChange fnExactSlimKeysSpec)) fnExactSlimKeysCard

/-- THE SECOND FORM's CARD OF 'laws.FnExactSlimSure'. -/
def fnExactSlimSureUptoCard : Claim7 := { stood := { row := fnExactSlimSureUptoRow, standIns := [], harness := (true, "eadadd9b34d005914669c610c3291f21e58fcac59b632b136a163a168cc53460"), looks := false }, kinds := [], alts := [], laidByText := true, laidKinds := [.data], laidTests := true, laidLooks := .later }
def FnExactSlimSureUptoCardSaid : Prop := Claim7.holds Tryd.pinned (.plain (OpenSpec.upto fnExactSlimSureSpec)) fnExactSlimSureUptoCard

/-- THE SECOND FORM's CARD OF 'laws.FnExactSlimTell'. -/
def fnExactSlimTellUptoCard : Claim7 := { stood := { row := fnExactSlimTellUptoRow, standIns := [], harness := (true, "eadadd9b34d005914669c610c3291f21e58fcac59b632b136a163a168cc53460"), looks := false }, kinds := [], alts := [], laidByText := true, laidKinds := [.data], laidTests := true, laidLooks := .later }
def FnExactSlimTellUptoCardSaid : Prop := Claim7.holds Tryd.pinned (.plain (OpenSpec.upto fnExactSlimTellSpec)) fnExactSlimTellUptoCard

/-- THE SECOND FORM's CARD OF 'laws.FnExactSlimKeys'. -/
def fnExactSlimKeysUptoCard : Claim7 := { stood := { row := fnExactSlimKeysUptoRow, standIns := [], harness := (true, "eadadd9b34d005914669c610c3291f21e58fcac59b632b136a163a168cc53460"), looks := false }, kinds := [], alts := [], laidByText := true, laidKinds := [.data], laidTests := true, laidLooks := .later }
def FnExactSlimKeysUptoCardSaid : Prop := Claim7.holds Tryd.pinned (.plain (OpenSpec.upto fnExactSlimKeysSpec)) fnExactSlimKeysUptoCard
end Rows
end Go.Proofs.YtppfgepoegicgaaDoor
