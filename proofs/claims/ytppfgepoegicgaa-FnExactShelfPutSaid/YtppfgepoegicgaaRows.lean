/-
  NARROWER THAN 'FOR EVERY INPUT', by the rows' own cells (each row's printed sentence says how): FnExactShelfSame: loops · FnExactShelfOk: loops · FnExactShelfUsed: loops · FnExactShelfGet: loops · FnExactShelfJoin: loops · FnExactShelfDrop: loops · FnExactShelfPut: loops.
  DERIVED. THE GIVEN ROWS OF THIS SEAT. 7 by the template 'for every input the law returns true; each argument reads behind the call as it read before'; 0 by the template 'total and deterministic' (their statements: YtppfgepoegicgaaTotals.lean).
  GIVEN WITH THE SEED: the statements are not yours to turn. If you find one false, say at which input.
  Laid BY PROGRAM, IN A SANDBOX (cutbox-rows.mjs): the forced cells as the released guide's own fill.sh prints them over the translation 98b03152e7d57014… (all of the seat's roots in one cut). By AI agents, Wed Nov 11 2026. No macro, syntax, notation, axiom, sorry.
-/
import Derived.Test.YtppfgepoegicgaaChecked
import GoSem.Claim
import GoSem.ClaimJoined
import GoSem.ClaimMapViews
import Derived.JoinedTies
import Derived.KernelRfl
namespace Go.Proofs.Ytppfgepoegicgaa
/- THE CELL 'sum', in the pinned program and in every row, IS THE sha256 OF THE DUMP (.gsa) THAT YtppfgepoegicgaaProg.lean LOADS. Nothing in Lean hashes anything: it is a label: what it is worth is what the hold of that sum in a sandbox is worth. -/
noncomputable def Try.pinned : Pinned := { name := "ytppfgepoegicgaa", sum := "98b03152e7d57014ae6fde6c55db4aa50ae66dd4070c356d0afc5b47f3cc87e2", checked := Try.checked }
namespace Rows
def none {H : Type} : Left H := { results := [], args := [] }

/-- 'laws.FnExactShelfSame': WHATEVER THE INPUT: true; the input reads as it did. -/
def fnExactShelfSameSpec : ChangeSpec := { name := "fnExactShelfSame", fn := fun _ => fun
  | [d1, d2] => { results := [.lit (.bool true)], args := [d1, d2] }
  | _ => none }
def fnExactShelfSameRow : OpenClaim := { program := "ytppfgepoegicgaa", sum := "98b03152e7d57014ae6fde6c55db4aa50ae66dd4070c356d0afc5b47f3cc87e2", func := "loop.example/cribble/laws.FnExactShelfSame", spec := "fnExactShelfSame", unfollowed := true, recurses := true, loops := true, apart := false }
def FnExactShelfSameSaid : Prop := fnExactShelfSameRow.holds Try.pinned (OpenSpec.ofChange fnExactShelfSameSpec)

/-- ITS FALSE NEIGHBOUR: 'it returns false'. Refute it at one input. -/
def fnExactShelfSameWrong : ChangeSpec := { name := "fnExactShelfSame", fn := fun _ => fun
  | [d1, d2] => { results := [.lit (.bool false)], args := [d1, d2] }
  | _ => none }
def FnExactShelfSameWrongFalsely : Prop := fnExactShelfSameRow.holds Try.pinned (OpenSpec.ofChange fnExactShelfSameWrong)

/-- 'laws.FnExactShelfOk': WHATEVER THE INPUT: true; the input reads as it did. -/
def fnExactShelfOkSpec : ChangeSpec := { name := "fnExactShelfOk", fn := fun _ => fun
  | [d] => { results := [.lit (.bool true)], args := [d] }
  | _ => none }
def fnExactShelfOkRow : OpenClaim := { program := "ytppfgepoegicgaa", sum := "98b03152e7d57014ae6fde6c55db4aa50ae66dd4070c356d0afc5b47f3cc87e2", func := "loop.example/cribble/laws.FnExactShelfOk", spec := "fnExactShelfOk", unfollowed := true, recurses := true, loops := true, apart := false }
def FnExactShelfOkSaid : Prop := fnExactShelfOkRow.holds Try.pinned (OpenSpec.ofChange fnExactShelfOkSpec)

/-- ITS FALSE NEIGHBOUR: 'it returns false'. Refute it at one input. -/
def fnExactShelfOkWrong : ChangeSpec := { name := "fnExactShelfOk", fn := fun _ => fun
  | [d] => { results := [.lit (.bool false)], args := [d] }
  | _ => none }
def FnExactShelfOkWrongFalsely : Prop := fnExactShelfOkRow.holds Try.pinned (OpenSpec.ofChange fnExactShelfOkWrong)

/-- 'laws.FnExactShelfUsed': WHATEVER THE INPUT: true; the input reads as it did. -/
def fnExactShelfUsedSpec : ChangeSpec := { name := "fnExactShelfUsed", fn := fun _ => fun
  | [d1, d2] => { results := [.lit (.bool true)], args := [d1, d2] }
  | _ => none }
def fnExactShelfUsedRow : OpenClaim := { program := "ytppfgepoegicgaa", sum := "98b03152e7d57014ae6fde6c55db4aa50ae66dd4070c356d0afc5b47f3cc87e2", func := "loop.example/cribble/laws.FnExactShelfUsed", spec := "fnExactShelfUsed", unfollowed := true, recurses := true, loops := true, apart := false }
def FnExactShelfUsedSaid : Prop := fnExactShelfUsedRow.holds Try.pinned (OpenSpec.ofChange fnExactShelfUsedSpec)

/-- ITS FALSE NEIGHBOUR: 'it returns false'. Refute it at one input. -/
def fnExactShelfUsedWrong : ChangeSpec := { name := "fnExactShelfUsed", fn := fun _ => fun
  | [d1, d2] => { results := [.lit (.bool false)], args := [d1, d2] }
  | _ => none }
def FnExactShelfUsedWrongFalsely : Prop := fnExactShelfUsedRow.holds Try.pinned (OpenSpec.ofChange fnExactShelfUsedWrong)

/-- 'laws.FnExactShelfGet': WHATEVER THE INPUT: true; the input reads as it did. -/
def fnExactShelfGetSpec : ChangeSpec := { name := "fnExactShelfGet", fn := fun _ => fun
  | [d1, d2, d3] => { results := [.lit (.bool true)], args := [d1, d2, d3] }
  | _ => none }
def fnExactShelfGetRow : OpenClaim := { program := "ytppfgepoegicgaa", sum := "98b03152e7d57014ae6fde6c55db4aa50ae66dd4070c356d0afc5b47f3cc87e2", func := "loop.example/cribble/laws.FnExactShelfGet", spec := "fnExactShelfGet", unfollowed := true, recurses := true, loops := true, apart := false }
def FnExactShelfGetSaid : Prop := fnExactShelfGetRow.holds Try.pinned (OpenSpec.ofChange fnExactShelfGetSpec)

/-- ITS FALSE NEIGHBOUR: 'it returns false'. Refute it at one input. -/
def fnExactShelfGetWrong : ChangeSpec := { name := "fnExactShelfGet", fn := fun _ => fun
  | [d1, d2, d3] => { results := [.lit (.bool false)], args := [d1, d2, d3] }
  | _ => none }
def FnExactShelfGetWrongFalsely : Prop := fnExactShelfGetRow.holds Try.pinned (OpenSpec.ofChange fnExactShelfGetWrong)

/-- 'laws.FnExactShelfJoin': WHATEVER THE INPUT: true; the input reads as it did. -/
def fnExactShelfJoinSpec : ChangeSpec := { name := "fnExactShelfJoin", fn := fun _ => fun
  | [d1, d2, d3, d4] => { results := [.lit (.bool true)], args := [d1, d2, d3, d4] }
  | _ => none }
def fnExactShelfJoinRow : OpenClaim := { program := "ytppfgepoegicgaa", sum := "98b03152e7d57014ae6fde6c55db4aa50ae66dd4070c356d0afc5b47f3cc87e2", func := "loop.example/cribble/laws.FnExactShelfJoin", spec := "fnExactShelfJoin", unfollowed := true, recurses := true, loops := true, apart := false }
def FnExactShelfJoinSaid : Prop := fnExactShelfJoinRow.holds Try.pinned (OpenSpec.ofChange fnExactShelfJoinSpec)

/-- ITS FALSE NEIGHBOUR: 'it returns false'. Refute it at one input. -/
def fnExactShelfJoinWrong : ChangeSpec := { name := "fnExactShelfJoin", fn := fun _ => fun
  | [d1, d2, d3, d4] => { results := [.lit (.bool false)], args := [d1, d2, d3, d4] }
  | _ => none }
def FnExactShelfJoinWrongFalsely : Prop := fnExactShelfJoinRow.holds Try.pinned (OpenSpec.ofChange fnExactShelfJoinWrong)

/-- 'laws.FnExactShelfDrop': WHATEVER THE INPUT: true; the input reads as it did. -/
def fnExactShelfDropSpec : ChangeSpec := { name := "fnExactShelfDrop", fn := fun _ => fun
  | [d1, d2, d3] => { results := [.lit (.bool true)], args := [d1, d2, d3] }
  | _ => none }
def fnExactShelfDropRow : OpenClaim := { program := "ytppfgepoegicgaa", sum := "98b03152e7d57014ae6fde6c55db4aa50ae66dd4070c356d0afc5b47f3cc87e2", func := "loop.example/cribble/laws.FnExactShelfDrop", spec := "fnExactShelfDrop", unfollowed := true, recurses := true, loops := true, apart := false }
def FnExactShelfDropSaid : Prop := fnExactShelfDropRow.holds Try.pinned (OpenSpec.ofChange fnExactShelfDropSpec)

/-- ITS FALSE NEIGHBOUR: 'it returns false'. Refute it at one input. -/
def fnExactShelfDropWrong : ChangeSpec := { name := "fnExactShelfDrop", fn := fun _ => fun
  | [d1, d2, d3] => { results := [.lit (.bool false)], args := [d1, d2, d3] }
  | _ => none }
def FnExactShelfDropWrongFalsely : Prop := fnExactShelfDropRow.holds Try.pinned (OpenSpec.ofChange fnExactShelfDropWrong)

/-- 'laws.FnExactShelfPut': WHATEVER THE INPUT: true; the input reads as it did. -/
def fnExactShelfPutSpec : ChangeSpec := { name := "fnExactShelfPut", fn := fun _ => fun
  | [d1, d2, d3, d4] => { results := [.lit (.bool true)], args := [d1, d2, d3, d4] }
  | _ => none }
def fnExactShelfPutRow : OpenClaim := { program := "ytppfgepoegicgaa", sum := "98b03152e7d57014ae6fde6c55db4aa50ae66dd4070c356d0afc5b47f3cc87e2", func := "loop.example/cribble/laws.FnExactShelfPut", spec := "fnExactShelfPut", unfollowed := true, recurses := true, loops := true, apart := false }
def FnExactShelfPutSaid : Prop := fnExactShelfPutRow.holds Try.pinned (OpenSpec.ofChange fnExactShelfPutSpec)

/-- ITS FALSE NEIGHBOUR: 'it returns false'. Refute it at one input. -/
def fnExactShelfPutWrong : ChangeSpec := { name := "fnExactShelfPut", fn := fun _ => fun
  | [d1, d2, d3, d4] => { results := [.lit (.bool false)], args := [d1, d2, d3, d4] }
  | _ => none }
def FnExactShelfPutWrongFalsely : Prop := fnExactShelfPutRow.holds Try.pinned (OpenSpec.ofChange fnExactShelfPutWrong)

/- THE SECOND FORM. 'bulk': how many values and letters a reading holds, each counted each time it is reached (what is shared counts as often as it is met; a slice's spare places count too). A statement '..UptoSaid' is the law's where the arguments, and the package variables that the reading takes, are together of bulk at most 1048576: NARROWER than '..Said'. Prove '..Said' where nothing that the law and all that it calls make is longer than what came in: it says more and counts as full. Else prove '..UptoSaid'. A law counts once. -/
mutual
def uptoBulk {H : Type} : DataW H → Nat
  | .lit (.string bytes) => bytes.length + 1
  | .lit _ => 1
  | .nil => 1
  | .ptr d => uptoBulk d + 1
  | .slice elems spare => uptoBulkAll elems + uptoBulkAll spare + 1
  | .agg parts => uptoBulkAll parts + 1
  | .iface _ d => uptoBulk d + 1
  | .map entries => uptoBulkEntries entries + 1
  | .held _ => 1
def uptoBulkAll {H : Type} : List (DataW H) → Nat
  | [] => 0
  | d :: r => uptoBulk d + uptoBulkAll r
def uptoBulkEntries {H : Type} : List (Lit × DataW H) → Nat
  | [] => 0
  | x :: r => uptoBulkEntry x + uptoBulkEntries r
def uptoBulkEntry {H : Type} : Lit × DataW H → Nat
  | (.string bytes, d) => bytes.length + uptoBulk d + 1
  | (_, d) => uptoBulk d + 1
 end
def uptoSmall : (H : Type) → List (DataW H) → Bool := fun _ ds => decide (uptoBulkAll ds ≤ 1048576)
def OpenSpec.upto (s : _root_.Go.ChangeSpec) : _root_.Go.OpenSpec := { _root_.Go.OpenSpec.ofChange s with cond := some uptoSmall }

/-- 'laws.FnExactShelfSame', WHERE WHAT IT READS IS OF BULK AT MOST 1048576: true; the input reads as it did. -/
def fnExactShelfSameUptoRow : OpenClaim := { program := "ytppfgepoegicgaa", sum := "98b03152e7d57014ae6fde6c55db4aa50ae66dd4070c356d0afc5b47f3cc87e2", func := "loop.example/cribble/laws.FnExactShelfSame", spec := "fnExactShelfSame", unfollowed := true, recurses := true, loops := true, apart := false, narrowed := true }
def FnExactShelfSameUptoSaid : Prop := fnExactShelfSameUptoRow.holds Try.pinned (OpenSpec.upto fnExactShelfSameSpec)

/-- 'laws.FnExactShelfOk', WHERE WHAT IT READS IS OF BULK AT MOST 1048576: true; the input reads as it did. -/
def fnExactShelfOkUptoRow : OpenClaim := { program := "ytppfgepoegicgaa", sum := "98b03152e7d57014ae6fde6c55db4aa50ae66dd4070c356d0afc5b47f3cc87e2", func := "loop.example/cribble/laws.FnExactShelfOk", spec := "fnExactShelfOk", unfollowed := true, recurses := true, loops := true, apart := false, narrowed := true }
def FnExactShelfOkUptoSaid : Prop := fnExactShelfOkUptoRow.holds Try.pinned (OpenSpec.upto fnExactShelfOkSpec)

/-- 'laws.FnExactShelfUsed', WHERE WHAT IT READS IS OF BULK AT MOST 1048576: true; the input reads as it did. -/
def fnExactShelfUsedUptoRow : OpenClaim := { program := "ytppfgepoegicgaa", sum := "98b03152e7d57014ae6fde6c55db4aa50ae66dd4070c356d0afc5b47f3cc87e2", func := "loop.example/cribble/laws.FnExactShelfUsed", spec := "fnExactShelfUsed", unfollowed := true, recurses := true, loops := true, apart := false, narrowed := true }
def FnExactShelfUsedUptoSaid : Prop := fnExactShelfUsedUptoRow.holds Try.pinned (OpenSpec.upto fnExactShelfUsedSpec)

/-- 'laws.FnExactShelfGet', WHERE WHAT IT READS IS OF BULK AT MOST 1048576: true; the input reads as it did. -/
def fnExactShelfGetUptoRow : OpenClaim := { program := "ytppfgepoegicgaa", sum := "98b03152e7d57014ae6fde6c55db4aa50ae66dd4070c356d0afc5b47f3cc87e2", func := "loop.example/cribble/laws.FnExactShelfGet", spec := "fnExactShelfGet", unfollowed := true, recurses := true, loops := true, apart := false, narrowed := true }
def FnExactShelfGetUptoSaid : Prop := fnExactShelfGetUptoRow.holds Try.pinned (OpenSpec.upto fnExactShelfGetSpec)

/-- 'laws.FnExactShelfJoin', WHERE WHAT IT READS IS OF BULK AT MOST 1048576: true; the input reads as it did. -/
def fnExactShelfJoinUptoRow : OpenClaim := { program := "ytppfgepoegicgaa", sum := "98b03152e7d57014ae6fde6c55db4aa50ae66dd4070c356d0afc5b47f3cc87e2", func := "loop.example/cribble/laws.FnExactShelfJoin", spec := "fnExactShelfJoin", unfollowed := true, recurses := true, loops := true, apart := false, narrowed := true }
def FnExactShelfJoinUptoSaid : Prop := fnExactShelfJoinUptoRow.holds Try.pinned (OpenSpec.upto fnExactShelfJoinSpec)

/-- 'laws.FnExactShelfDrop', WHERE WHAT IT READS IS OF BULK AT MOST 1048576: true; the input reads as it did. -/
def fnExactShelfDropUptoRow : OpenClaim := { program := "ytppfgepoegicgaa", sum := "98b03152e7d57014ae6fde6c55db4aa50ae66dd4070c356d0afc5b47f3cc87e2", func := "loop.example/cribble/laws.FnExactShelfDrop", spec := "fnExactShelfDrop", unfollowed := true, recurses := true, loops := true, apart := false, narrowed := true }
def FnExactShelfDropUptoSaid : Prop := fnExactShelfDropUptoRow.holds Try.pinned (OpenSpec.upto fnExactShelfDropSpec)

/-- 'laws.FnExactShelfPut', WHERE WHAT IT READS IS OF BULK AT MOST 1048576: true; the input reads as it did. -/
def fnExactShelfPutUptoRow : OpenClaim := { program := "ytppfgepoegicgaa", sum := "98b03152e7d57014ae6fde6c55db4aa50ae66dd4070c356d0afc5b47f3cc87e2", func := "loop.example/cribble/laws.FnExactShelfPut", spec := "fnExactShelfPut", unfollowed := true, recurses := true, loops := true, apart := false, narrowed := true }
def FnExactShelfPutUptoSaid : Prop := fnExactShelfPutUptoRow.holds Try.pinned (OpenSpec.upto fnExactShelfPutSpec)

end Rows
end Go.Proofs.Ytppfgepoegicgaa
