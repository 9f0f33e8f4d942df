/-
  No cell of these rows narrows 'for every input' (looked for: loops, veiled, ifaces, maps, wideKeys, modest, calm, conditions, laid).
  DERIVED. THE GIVEN ROWS OF THIS SEAT. 6 by the template 'for every input the law returns true; each argument reads behind the call as it read before'; 0 by the template 'total and deterministic' (their statements: YtabolnflmhfdhaaTotals.lean).
  GIVEN WITH THE SEED: the statements are not yours to turn. If you find one false, say at which input.
  Laid BY PROGRAM, IN A SANDBOX (cutbox-rows.mjs): the forced cells as the released guide's own fill.sh prints them over the translation 553d0d85748589a9… (all of the seat's roots in one cut). By AI agents, Wed Nov 11 2026. No macro, syntax, notation, axiom, sorry.
-/
import Derived.Test.YtabolnflmhfdhaaChecked
import GoSem.Claim
import GoSem.ClaimJoined
import GoSem.ClaimMapViews
import Derived.JoinedTies
import Derived.KernelRfl
namespace Go.Proofs.Ytabolnflmhfdhaa
/- THE CELL 'sum', in the pinned program and in every row, IS THE sha256 OF THE DUMP (.gsa) THAT YtabolnflmhfdhaaProg.lean LOADS. Nothing in Lean hashes anything: it is a label: what it is worth is what the hold of that sum in a sandbox is worth. -/
noncomputable def Try.pinned : Pinned := { name := "ytabolnflmhfdhaa", sum := "553d0d85748589a98dcefd76217e8eab28db40391abc20b984dea2edab95b70b", checked := Try.checked }
namespace Rows
def none {H : Type} : Left H := { results := [], args := [] }

/-- 'glacierlaw02.SealParts': WHATEVER THE INPUT: true; the input reads as it did. -/
def sealPartsSpec : ChangeSpec := { name := "sealParts", fn := fun _ => fun
  | [d1, d2, d3, d4] => { results := [.lit (.bool true)], args := [d1, d2, d3, d4] }
  | _ => none }
def sealPartsRow : OpenClaim := { program := "ytabolnflmhfdhaa", sum := "553d0d85748589a98dcefd76217e8eab28db40391abc20b984dea2edab95b70b", func := "glacier/glacierlaw02.SealParts", spec := "sealParts", apart := false }
def SealPartsSaid : Prop := sealPartsRow.holds Try.pinned (OpenSpec.ofChange sealPartsSpec)

/-- ITS FALSE NEIGHBOUR: 'it returns false'. Refute it at one input. -/
def sealPartsWrong : ChangeSpec := { name := "sealParts", fn := fun _ => fun
  | [d1, d2, d3, d4] => { results := [.lit (.bool false)], args := [d1, d2, d3, d4] }
  | _ => none }
def SealPartsWrongFalsely : Prop := sealPartsRow.holds Try.pinned (OpenSpec.ofChange sealPartsWrong)

/-- 'glacierlaw02.SealOnly': WHATEVER THE INPUT: true; the input reads as it did. -/
def sealOnlySpec : ChangeSpec := { name := "sealOnly", fn := fun _ => fun
  | [d1, d2] => { results := [.lit (.bool true)], args := [d1, d2] }
  | _ => none }
def sealOnlyRow : OpenClaim := { program := "ytabolnflmhfdhaa", sum := "553d0d85748589a98dcefd76217e8eab28db40391abc20b984dea2edab95b70b", func := "glacier/glacierlaw02.SealOnly", spec := "sealOnly", apart := false }
def SealOnlySaid : Prop := sealOnlyRow.holds Try.pinned (OpenSpec.ofChange sealOnlySpec)

/-- ITS FALSE NEIGHBOUR: 'it returns false'. Refute it at one input. -/
def sealOnlyWrong : ChangeSpec := { name := "sealOnly", fn := fun _ => fun
  | [d1, d2] => { results := [.lit (.bool false)], args := [d1, d2] }
  | _ => none }
def SealOnlyWrongFalsely : Prop := sealOnlyRow.holds Try.pinned (OpenSpec.ofChange sealOnlyWrong)

/-- 'glacierlaw02.SealTorn': WHATEVER THE INPUT: true; the input reads as it did. -/
def sealTornSpec : ChangeSpec := { name := "sealTorn", fn := fun _ => fun
  | [d1, d2] => { results := [.lit (.bool true)], args := [d1, d2] }
  | _ => none }
def sealTornRow : OpenClaim := { program := "ytabolnflmhfdhaa", sum := "553d0d85748589a98dcefd76217e8eab28db40391abc20b984dea2edab95b70b", func := "glacier/glacierlaw02.SealTorn", spec := "sealTorn", apart := false }
def SealTornSaid : Prop := sealTornRow.holds Try.pinned (OpenSpec.ofChange sealTornSpec)

/-- ITS FALSE NEIGHBOUR: 'it returns false'. Refute it at one input. -/
def sealTornWrong : ChangeSpec := { name := "sealTorn", fn := fun _ => fun
  | [d1, d2] => { results := [.lit (.bool false)], args := [d1, d2] }
  | _ => none }
def SealTornWrongFalsely : Prop := sealTornRow.holds Try.pinned (OpenSpec.ofChange sealTornWrong)

/-- 'glacierlaw02.SealBent': WHATEVER THE INPUT: true; the input reads as it did. -/
def sealBentSpec : ChangeSpec := { name := "sealBent", fn := fun _ => fun
  | [d1, d2, d3, d4, d5] => { results := [.lit (.bool true)], args := [d1, d2, d3, d4, d5] }
  | _ => none }
def sealBentRow : OpenClaim := { program := "ytabolnflmhfdhaa", sum := "553d0d85748589a98dcefd76217e8eab28db40391abc20b984dea2edab95b70b", func := "glacier/glacierlaw02.SealBent", spec := "sealBent", apart := false }
def SealBentSaid : Prop := sealBentRow.holds Try.pinned (OpenSpec.ofChange sealBentSpec)

/-- ITS FALSE NEIGHBOUR: 'it returns false'. Refute it at one input. -/
def sealBentWrong : ChangeSpec := { name := "sealBent", fn := fun _ => fun
  | [d1, d2, d3, d4, d5] => { results := [.lit (.bool false)], args := [d1, d2, d3, d4, d5] }
  | _ => none }
def SealBentWrongFalsely : Prop := sealBentRow.holds Try.pinned (OpenSpec.ofChange sealBentWrong)

/-- 'glacierlaw02.SealJoined': WHATEVER THE INPUT: true; the input reads as it did. -/
def sealJoinedSpec : ChangeSpec := { name := "sealJoined", fn := fun _ => fun
  | [d1, d2] => { results := [.lit (.bool true)], args := [d1, d2] }
  | _ => none }
def sealJoinedRow : OpenClaim := { program := "ytabolnflmhfdhaa", sum := "553d0d85748589a98dcefd76217e8eab28db40391abc20b984dea2edab95b70b", func := "glacier/glacierlaw02.SealJoined", spec := "sealJoined", apart := false }
def SealJoinedSaid : Prop := sealJoinedRow.holds Try.pinned (OpenSpec.ofChange sealJoinedSpec)

/-- ITS FALSE NEIGHBOUR: 'it returns false'. Refute it at one input. -/
def sealJoinedWrong : ChangeSpec := { name := "sealJoined", fn := fun _ => fun
  | [d1, d2] => { results := [.lit (.bool false)], args := [d1, d2] }
  | _ => none }
def SealJoinedWrongFalsely : Prop := sealJoinedRow.holds Try.pinned (OpenSpec.ofChange sealJoinedWrong)

/-- 'glacierlaw02.SealOpens': WHATEVER THE INPUT: true; the input reads as it did. -/
def sealOpensSpec : ChangeSpec := { name := "sealOpens", fn := fun _ => fun
  | [d1, d2, d3] => { results := [.lit (.bool true)], args := [d1, d2, d3] }
  | _ => none }
def sealOpensRow : OpenClaim := { program := "ytabolnflmhfdhaa", sum := "553d0d85748589a98dcefd76217e8eab28db40391abc20b984dea2edab95b70b", func := "glacier/glacierlaw02.SealOpens", spec := "sealOpens", apart := false }
def SealOpensSaid : Prop := sealOpensRow.holds Try.pinned (OpenSpec.ofChange sealOpensSpec)

/-- ITS FALSE NEIGHBOUR: 'it returns false'. Refute it at one input. -/
def sealOpensWrong : ChangeSpec := { name := "sealOpens", fn := fun _ => fun
  | [d1, d2, d3] => { results := [.lit (.bool false)], args := [d1, d2, d3] }
  | _ => none }
def SealOpensWrongFalsely : Prop := sealOpensRow.holds Try.pinned (OpenSpec.ofChange sealOpensWrong)

/- THE SECOND FORM. 'bulk': how many values and letters a reading holds, each counted each time it is reached (what is shared counts as often as it is met; a slice's spare places count too). A statement '..UptoSaid' is the law's where the arguments, and the package variables that the reading takes, are together of bulk at most 1048576: NARROWER than '..Said'. Prove '..Said' where nothing that the law and all that it calls make is longer than what came in: it says more and counts as full. Else prove '..UptoSaid'. A law counts once. -/
mutual
def uptoBulk {H : Type} : DataW H → Nat
  | .lit (.string bytes) => bytes.length + 1
  | .lit _ => 1
  | .nil => 1
  | .ptr d => uptoBulk d + 1
  | .slice elems spare => uptoBulkAll elems + uptoBulkAll spare + 1
  | .agg parts => uptoBulkAll parts + 1
  | .iface _ d => uptoBulk d + 1
  | .map entries => uptoBulkEntries entries + 1
  | .held _ => 1
def uptoBulkAll {H : Type} : List (DataW H) → Nat
  | [] => 0
  | d :: r => uptoBulk d + uptoBulkAll r
def uptoBulkEntries {H : Type} : List (Lit × DataW H) → Nat
  | [] => 0
  | x :: r => uptoBulkEntry x + uptoBulkEntries r
def uptoBulkEntry {H : Type} : Lit × DataW H → Nat
  | (.string bytes, d) => bytes.length + uptoBulk d + 1
  | (_, d) => uptoBulk d + 1
 end
def uptoSmall : (H : Type) → List (DataW H) → Bool := fun _ ds => decide (uptoBulkAll ds ≤ 1048576)
def OpenSpec.upto (s : _root_.Go.ChangeSpec) : _root_.Go.OpenSpec := { _root_.Go.OpenSpec.ofChange s with cond := some uptoSmall }

/-- 'glacierlaw02.SealParts', WHERE WHAT IT READS IS OF BULK AT MOST 1048576: true; the input reads as it did. -/
def sealPartsUptoRow : OpenClaim := { program := "ytabolnflmhfdhaa", sum := "553d0d85748589a98dcefd76217e8eab28db40391abc20b984dea2edab95b70b", func := "glacier/glacierlaw02.SealParts", spec := "sealParts", apart := false, narrowed := true }
def SealPartsUptoSaid : Prop := sealPartsUptoRow.holds Try.pinned (OpenSpec.upto sealPartsSpec)

/-- 'glacierlaw02.SealOnly', WHERE WHAT IT READS IS OF BULK AT MOST 1048576: true; the input reads as it did. -/
def sealOnlyUptoRow : OpenClaim := { program := "ytabolnflmhfdhaa", sum := "553d0d85748589a98dcefd76217e8eab28db40391abc20b984dea2edab95b70b", func := "glacier/glacierlaw02.SealOnly", spec := "sealOnly", apart := false, narrowed := true }
def SealOnlyUptoSaid : Prop := sealOnlyUptoRow.holds Try.pinned (OpenSpec.upto sealOnlySpec)

/-- 'glacierlaw02.SealTorn', WHERE WHAT IT READS IS OF BULK AT MOST 1048576: true; the input reads as it did. -/
def sealTornUptoRow : OpenClaim := { program := "ytabolnflmhfdhaa", sum := "553d0d85748589a98dcefd76217e8eab28db40391abc20b984dea2edab95b70b", func := "glacier/glacierlaw02.SealTorn", spec := "sealTorn", apart := false, narrowed := true }
def SealTornUptoSaid : Prop := sealTornUptoRow.holds Try.pinned (OpenSpec.upto sealTornSpec)

/-- 'glacierlaw02.SealBent', WHERE WHAT IT READS IS OF BULK AT MOST 1048576: true; the input reads as it did. -/
def sealBentUptoRow : OpenClaim := { program := "ytabolnflmhfdhaa", sum := "553d0d85748589a98dcefd76217e8eab28db40391abc20b984dea2edab95b70b", func := "glacier/glacierlaw02.SealBent", spec := "sealBent", apart := false, narrowed := true }
def SealBentUptoSaid : Prop := sealBentUptoRow.holds Try.pinned (OpenSpec.upto sealBentSpec)

/-- 'glacierlaw02.SealJoined', WHERE WHAT IT READS IS OF BULK AT MOST 1048576: true; the input reads as it did. -/
def sealJoinedUptoRow : OpenClaim := { program := "ytabolnflmhfdhaa", sum := "553d0d85748589a98dcefd76217e8eab28db40391abc20b984dea2edab95b70b", func := "glacier/glacierlaw02.SealJoined", spec := "sealJoined", apart := false, narrowed := true }
def SealJoinedUptoSaid : Prop := sealJoinedUptoRow.holds Try.pinned (OpenSpec.upto sealJoinedSpec)

/-- 'glacierlaw02.SealOpens', WHERE WHAT IT READS IS OF BULK AT MOST 1048576: true; the input reads as it did. -/
def sealOpensUptoRow : OpenClaim := { program := "ytabolnflmhfdhaa", sum := "553d0d85748589a98dcefd76217e8eab28db40391abc20b984dea2edab95b70b", func := "glacier/glacierlaw02.SealOpens", spec := "sealOpens", apart := false, narrowed := true }
def SealOpensUptoSaid : Prop := sealOpensUptoRow.holds Try.pinned (OpenSpec.upto sealOpensSpec)

end Rows
end Go.Proofs.Ytabolnflmhfdhaa
