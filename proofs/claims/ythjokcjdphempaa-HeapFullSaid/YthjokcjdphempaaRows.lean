/-
  No cell of these rows narrows 'for every input' (looked for: loops, veiled, ifaces, maps, wideKeys, modest, calm, conditions, laid).
  DERIVED. THE GIVEN ROWS OF THIS SEAT. 5 by the template 'for every input the law returns true; each argument reads behind the call as it read before'; 0 by the template 'total and deterministic' (their statements: YthjokcjdphempaaTotals.lean).
  GIVEN WITH THE SEED: the statements are not yours to turn. If you find one false, say at which input.
  Laid BY PROGRAM, IN A SANDBOX (cutbox-rows.mjs): the forced cells as the released guide's own fill.sh prints them over the translation 2d3466a174f23889… (all of the seat's roots in one cut). By AI agents, Wed Nov 11 2026. No macro, syntax, notation, axiom, sorry.
-/
import Derived.Test.YthjokcjdphempaaChecked
import GoSem.Claim
import GoSem.ClaimJoined
import GoSem.ClaimMapViews
import Derived.JoinedTies
import Derived.KernelRfl
namespace Go.Proofs.Ythjokcjdphempaa
/- THE CELL 'sum', in the pinned program and in every row, IS THE sha256 OF THE DUMP (.gsa) THAT YthjokcjdphempaaProg.lean LOADS. Nothing in Lean hashes anything: it is a label: what it is worth is what the hold of that sum in a sandbox is worth. -/
noncomputable def Try.pinned : Pinned := { name := "ythjokcjdphempaa", sum := "2d3466a174f23889eec4532f6313335f9a65484be9edb63b703968997cfa5ac7", checked := Try.checked }
namespace Rows
def none {H : Type} : Left H := { results := [], args := [] }

/-- 'zermelolaw29.HeapFull': WHATEVER THE INPUT: true; the input reads as it did. -/
def heapFullSpec : ChangeSpec := { name := "heapFull", fn := fun _ => fun
  | [d1, d2, d3, d4, d5, d6, d7] => { results := [.lit (.bool true)], args := [d1, d2, d3, d4, d5, d6, d7] }
  | _ => none }
def heapFullRow : OpenClaim := { program := "ythjokcjdphempaa", sum := "2d3466a174f23889eec4532f6313335f9a65484be9edb63b703968997cfa5ac7", func := "zermelo/zermelolaw29.HeapFull", spec := "heapFull", unfollowed := true, recurses := true, apart := false }
def HeapFullSaid : Prop := heapFullRow.holds Try.pinned (OpenSpec.ofChange heapFullSpec)

/-- ITS FALSE NEIGHBOUR: 'it returns false'. Refute it at one input. -/
def heapFullWrong : ChangeSpec := { name := "heapFull", fn := fun _ => fun
  | [d1, d2, d3, d4, d5, d6, d7] => { results := [.lit (.bool false)], args := [d1, d2, d3, d4, d5, d6, d7] }
  | _ => none }
def HeapFullWrongFalsely : Prop := heapFullRow.holds Try.pinned (OpenSpec.ofChange heapFullWrong)

/-- 'zermelolaw29.HeapSteps': WHATEVER THE INPUT: true; the input reads as it did. -/
def heapStepsSpec : ChangeSpec := { name := "heapSteps", fn := fun _ => fun
  | [d1, d2, d3, d4, d5] => { results := [.lit (.bool true)], args := [d1, d2, d3, d4, d5] }
  | _ => none }
def heapStepsRow : OpenClaim := { program := "ythjokcjdphempaa", sum := "2d3466a174f23889eec4532f6313335f9a65484be9edb63b703968997cfa5ac7", func := "zermelo/zermelolaw29.HeapSteps", spec := "heapSteps", unfollowed := true, recurses := true, apart := false }
def HeapStepsSaid : Prop := heapStepsRow.holds Try.pinned (OpenSpec.ofChange heapStepsSpec)

/-- ITS FALSE NEIGHBOUR: 'it returns false'. Refute it at one input. -/
def heapStepsWrong : ChangeSpec := { name := "heapSteps", fn := fun _ => fun
  | [d1, d2, d3, d4, d5] => { results := [.lit (.bool false)], args := [d1, d2, d3, d4, d5] }
  | _ => none }
def HeapStepsWrongFalsely : Prop := heapStepsRow.holds Try.pinned (OpenSpec.ofChange heapStepsWrong)

/-- 'zermelolaw29.HeapPauses': WHATEVER THE INPUT: true; the input reads as it did. -/
def heapPausesSpec : ChangeSpec := { name := "heapPauses", fn := fun _ => fun
  | [d1, d2, d3, d4, d5] => { results := [.lit (.bool true)], args := [d1, d2, d3, d4, d5] }
  | _ => none }
def heapPausesRow : OpenClaim := { program := "ythjokcjdphempaa", sum := "2d3466a174f23889eec4532f6313335f9a65484be9edb63b703968997cfa5ac7", func := "zermelo/zermelolaw29.HeapPauses", spec := "heapPauses", unfollowed := true, recurses := true, apart := false }
def HeapPausesSaid : Prop := heapPausesRow.holds Try.pinned (OpenSpec.ofChange heapPausesSpec)

/-- ITS FALSE NEIGHBOUR: 'it returns false'. Refute it at one input. -/
def heapPausesWrong : ChangeSpec := { name := "heapPauses", fn := fun _ => fun
  | [d1, d2, d3, d4, d5] => { results := [.lit (.bool false)], args := [d1, d2, d3, d4, d5] }
  | _ => none }
def HeapPausesWrongFalsely : Prop := heapPausesRow.holds Try.pinned (OpenSpec.ofChange heapPausesWrong)

/-- 'zermelolaw29.HeapUsed': WHATEVER THE INPUT: true; the input reads as it did. -/
def heapUsedSpec : ChangeSpec := { name := "heapUsed", fn := fun _ => fun
  | [d1, d2, d3, d4] => { results := [.lit (.bool true)], args := [d1, d2, d3, d4] }
  | _ => none }
def heapUsedRow : OpenClaim := { program := "ythjokcjdphempaa", sum := "2d3466a174f23889eec4532f6313335f9a65484be9edb63b703968997cfa5ac7", func := "zermelo/zermelolaw29.HeapUsed", spec := "heapUsed", unfollowed := true, recurses := true, apart := false }
def HeapUsedSaid : Prop := heapUsedRow.holds Try.pinned (OpenSpec.ofChange heapUsedSpec)

/-- ITS FALSE NEIGHBOUR: 'it returns false'. Refute it at one input. -/
def heapUsedWrong : ChangeSpec := { name := "heapUsed", fn := fun _ => fun
  | [d1, d2, d3, d4] => { results := [.lit (.bool false)], args := [d1, d2, d3, d4] }
  | _ => none }
def HeapUsedWrongFalsely : Prop := heapUsedRow.holds Try.pinned (OpenSpec.ofChange heapUsedWrong)

/-- 'zermelolaw29.HeapNil': WHATEVER THE INPUT: true; the input reads as it did. -/
def heapNilSpec : ChangeSpec := { name := "heapNil", fn := fun _ => fun
  | [d] => { results := [.lit (.bool true)], args := [d] }
  | _ => none }
def heapNilRow : OpenClaim := { program := "ythjokcjdphempaa", sum := "2d3466a174f23889eec4532f6313335f9a65484be9edb63b703968997cfa5ac7", func := "zermelo/zermelolaw29.HeapNil", spec := "heapNil", unfollowed := true, recurses := true, apart := false }
def HeapNilSaid : Prop := heapNilRow.holds Try.pinned (OpenSpec.ofChange heapNilSpec)

/-- ITS FALSE NEIGHBOUR: 'it returns false'. Refute it at one input. -/
def heapNilWrong : ChangeSpec := { name := "heapNil", fn := fun _ => fun
  | [d] => { results := [.lit (.bool false)], args := [d] }
  | _ => none }
def HeapNilWrongFalsely : Prop := heapNilRow.holds Try.pinned (OpenSpec.ofChange heapNilWrong)

/- THE SECOND FORM. 'bulk': how many values and letters a reading holds, each counted each time it is reached (what is shared counts as often as it is met; a slice's spare places count too). A statement '..UptoSaid' is the law's where the arguments, and the package variables that the reading takes, are together of bulk at most 1048576: NARROWER than '..Said'. Prove '..Said' where nothing that the law and all that it calls make is longer than what came in: it says more and counts as full. Else prove '..UptoSaid'. A law counts once. -/
mutual
def uptoBulk {H : Type} : DataW H → Nat
  | .lit (.string bytes) => bytes.length + 1
  | .lit _ => 1
  | .nil => 1
  | .ptr d => uptoBulk d + 1
  | .slice elems spare => uptoBulkAll elems + uptoBulkAll spare + 1
  | .agg parts => uptoBulkAll parts + 1
  | .iface _ d => uptoBulk d + 1
  | .map entries => uptoBulkEntries entries + 1
  | .held _ => 1
def uptoBulkAll {H : Type} : List (DataW H) → Nat
  | [] => 0
  | d :: r => uptoBulk d + uptoBulkAll r
def uptoBulkEntries {H : Type} : List (Lit × DataW H) → Nat
  | [] => 0
  | x :: r => uptoBulkEntry x + uptoBulkEntries r
def uptoBulkEntry {H : Type} : Lit × DataW H → Nat
  | (.string bytes, d) => bytes.length + uptoBulk d + 1
  | (_, d) => uptoBulk d + 1
 end
def uptoSmall : (H : Type) → List (DataW H) → Bool := fun _ ds => decide (uptoBulkAll ds ≤ 1048576)
def OpenSpec.upto (s : _root_.Go.ChangeSpec) : _root_.Go.OpenSpec := { _root_.Go.OpenSpec.ofChange s with cond := some uptoSmall }

/-- 'zermelolaw29.HeapFull', WHERE WHAT IT READS IS OF BULK AT MOST 1048576: true; the input reads as it did. -/
def heapFullUptoRow : OpenClaim := { program := "ythjokcjdphempaa", sum := "2d3466a174f23889eec4532f6313335f9a65484be9edb63b703968997cfa5ac7", func := "zermelo/zermelolaw29.HeapFull", spec := "heapFull", unfollowed := true, recurses := true, apart := false, narrowed := true }
def HeapFullUptoSaid : Prop := heapFullUptoRow.holds Try.pinned (OpenSpec.upto heapFullSpec)

/-- 'zermelolaw29.HeapSteps', WHERE WHAT IT READS IS OF BULK AT MOST 1048576: true; the input reads as it did. -/
def heapStepsUptoRow : OpenClaim := { program := "ythjokcjdphempaa", sum := "2d3466a174f23889eec4532f6313335f9a65484be9edb63b703968997cfa5ac7", func := "zermelo/zermelolaw29.HeapSteps", spec := "heapSteps", unfollowed := true, recurses := true, apart := false, narrowed := true }
def HeapStepsUptoSaid : Prop := heapStepsUptoRow.holds Try.pinned (OpenSpec.upto heapStepsSpec)

/-- 'zermelolaw29.HeapPauses', WHERE WHAT IT READS IS OF BULK AT MOST 1048576: true; the input reads as it did. -/
def heapPausesUptoRow : OpenClaim := { program := "ythjokcjdphempaa", sum := "2d3466a174f23889eec4532f6313335f9a65484be9edb63b703968997cfa5ac7", func := "zermelo/zermelolaw29.HeapPauses", spec := "heapPauses", unfollowed := true, recurses := true, apart := false, narrowed := true }
def HeapPausesUptoSaid : Prop := heapPausesUptoRow.holds Try.pinned (OpenSpec.upto heapPausesSpec)

/-- 'zermelolaw29.HeapUsed', WHERE WHAT IT READS IS OF BULK AT MOST 1048576: true; the input reads as it did. -/
def heapUsedUptoRow : OpenClaim := { program := "ythjokcjdphempaa", sum := "2d3466a174f23889eec4532f6313335f9a65484be9edb63b703968997cfa5ac7", func := "zermelo/zermelolaw29.HeapUsed", spec := "heapUsed", unfollowed := true, recurses := true, apart := false, narrowed := true }
def HeapUsedUptoSaid : Prop := heapUsedUptoRow.holds Try.pinned (OpenSpec.upto heapUsedSpec)

/-- 'zermelolaw29.HeapNil', WHERE WHAT IT READS IS OF BULK AT MOST 1048576: true; the input reads as it did. -/
def heapNilUptoRow : OpenClaim := { program := "ythjokcjdphempaa", sum := "2d3466a174f23889eec4532f6313335f9a65484be9edb63b703968997cfa5ac7", func := "zermelo/zermelolaw29.HeapNil", spec := "heapNil", unfollowed := true, recurses := true, apart := false, narrowed := true }
def HeapNilUptoSaid : Prop := heapNilUptoRow.holds Try.pinned (OpenSpec.upto heapNilSpec)

end Rows
end Go.Proofs.Ythjokcjdphempaa
