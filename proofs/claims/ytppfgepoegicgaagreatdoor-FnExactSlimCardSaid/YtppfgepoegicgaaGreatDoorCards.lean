/-
  DERIVED. GIVEN WITH THE SEED: THE CARDS: each row of YtppfgepoegicgaaGreatDoorRows.lean that lists a variable, with what it lists TIED to the program's text (the seventh form; the later family's looks); each row that meets fmt, with fmt's text TOLD by the authors' own Lean function (tested against real Go, not proved from fmt's source: count such statements apart). THE CARD IS WHAT COUNTS. Prove the row's statement (the work); the ties are given (YtppfgepoegicgaaGreatDoorTie.lean); close each card by the builder's one call (the guide's Derived/Test/ToyasCard.lean, 'card_holds'). Laid BY PROGRAM, IN A SANDBOX (cutbox-door.mjs). By AI agents, Wed Nov 11 2026. No macro, syntax, notation, axiom, sorry.
-/
import Derived.Test.YtppfgepoegicgaaGreatDoorRows
import GoSem.ClaimSeven
namespace Go.Proofs.YtppfgepoegicgaaGreatDoor
namespace Rows

/-- THE TIED CARD OF 'laws.FnExactSlim'. -/
def fnExactSlimCard : Claim7 := { stood := { row := fnExactSlimRow, standIns := [], harness := (true, "5e9196c0160494dba03eb0d1f4ce961fee0e2e63061ea538d9f27ff5a1d9a38c"), looks := false }, kinds := [], alts := [], laidByText := true, laidKinds := [.data], laidTests := true, laidLooks := .later }
def FnExactSlimCardSaid : Prop := Claim7.holds Tryz.pinned (.plain (OpenSpec.ofChange fnExactSlimSpec)) fnExactSlimCard

/-- THE SECOND FORM's CARD OF 'laws.FnExactSlim'. -/
def fnExactSlimUptoCard : Claim7 := { stood := { row := fnExactSlimUptoRow, standIns := [], harness := (true, "5e9196c0160494dba03eb0d1f4ce961fee0e2e63061ea538d9f27ff5a1d9a38c"), looks := false }, kinds := [], alts := [], laidByText := true, laidKinds := [.data], laidTests := true, laidLooks := .later }
def FnExactSlimUptoCardSaid : Prop := Claim7.holds Tryz.pinned (.plain (OpenSpec.upto fnExactSlimSpec)) fnExactSlimUptoCard
end Rows
end Go.Proofs.YtppfgepoegicgaaGreatDoor
