/-
  No cell of these rows narrows 'for every input' (looked for: loops, veiled, ifaces, maps, wideKeys, modest, calm, conditions, laid).
  DERIVED. THE GIVEN ROWS OF THIS SEAT. 7 by the template 'for every input the law returns true; each argument reads behind the call as it read before'; 0 by the template 'total and deterministic' (their statements: YtbjpnnpbhocffaaTotals.lean).
  GIVEN WITH THE SEED: the statements are not yours to turn. If you find one false, say at which input.
  Laid BY PROGRAM, IN A SANDBOX (cutbox-rows.mjs): the forced cells as the released guide's own fill.sh prints them over the translation a2a3ae70a0c30e66… (all of the seat's roots in one cut). By AI agents, Wed Nov 11 2026. No macro, syntax, notation, axiom, sorry.
-/
import Derived.Test.YtbjpnnpbhocffaaChecked
import GoSem.Claim
import GoSem.ClaimJoined
import GoSem.ClaimMapViews
import Derived.JoinedTies
import Derived.KernelRfl
namespace Go.Proofs.Ytbjpnnpbhocffaa
/- THE CELL 'sum', in the pinned program and in every row, IS THE sha256 OF THE DUMP (.gsa) THAT YtbjpnnpbhocffaaProg.lean LOADS. Nothing in Lean hashes anything: it is a label: what it is worth is what the hold of that sum in a sandbox is worth. -/
noncomputable def Try.pinned : Pinned := { name := "ytbjpnnpbhocffaa", sum := "a2a3ae70a0c30e667904ca0319d6aa4aaf96620a014279eeef0d4ca74b0d2e89", checked := Try.checked }
namespace Rows
def none {H : Type} : Left H := { results := [], args := [] }

/-- 'gleanerlaw1.PackLengths': WHATEVER THE INPUT: true; the input reads as it did. -/
def packLengthsSpec : ChangeSpec := { name := "packLengths", fn := fun _ => fun
  | [d] => { results := [.lit (.bool true)], args := [d] }
  | _ => none }
def packLengthsRow : OpenClaim := { program := "ytbjpnnpbhocffaa", sum := "a2a3ae70a0c30e667904ca0319d6aa4aaf96620a014279eeef0d4ca74b0d2e89", func := "gleaner/gleanerlaw1.PackLengths", spec := "packLengths", apart := false }
def PackLengthsSaid : Prop := packLengthsRow.holds Try.pinned (OpenSpec.ofChange packLengthsSpec)

/-- ITS FALSE NEIGHBOUR: 'it returns false'. Refute it at one input. -/
def packLengthsWrong : ChangeSpec := { name := "packLengths", fn := fun _ => fun
  | [d] => { results := [.lit (.bool false)], args := [d] }
  | _ => none }
def PackLengthsWrongFalsely : Prop := packLengthsRow.holds Try.pinned (OpenSpec.ofChange packLengthsWrong)

/-- 'gleanerlaw1.PackShort': WHATEVER THE INPUT: true; the input reads as it did. -/
def packShortSpec : ChangeSpec := { name := "packShort", fn := fun _ => fun
  | [d1, d2] => { results := [.lit (.bool true)], args := [d1, d2] }
  | _ => none }
def packShortRow : OpenClaim := { program := "ytbjpnnpbhocffaa", sum := "a2a3ae70a0c30e667904ca0319d6aa4aaf96620a014279eeef0d4ca74b0d2e89", func := "gleaner/gleanerlaw1.PackShort", spec := "packShort", apart := false }
def PackShortSaid : Prop := packShortRow.holds Try.pinned (OpenSpec.ofChange packShortSpec)

/-- ITS FALSE NEIGHBOUR: 'it returns false'. Refute it at one input. -/
def packShortWrong : ChangeSpec := { name := "packShort", fn := fun _ => fun
  | [d1, d2] => { results := [.lit (.bool false)], args := [d1, d2] }
  | _ => none }
def PackShortWrongFalsely : Prop := packShortRow.holds Try.pinned (OpenSpec.ofChange packShortWrong)

/-- 'gleanerlaw1.PackWrites': WHATEVER THE INPUT: true; the input reads as it did. -/
def packWritesSpec : ChangeSpec := { name := "packWrites", fn := fun _ => fun
  | [d1, d2] => { results := [.lit (.bool true)], args := [d1, d2] }
  | _ => none }
def packWritesRow : OpenClaim := { program := "ytbjpnnpbhocffaa", sum := "a2a3ae70a0c30e667904ca0319d6aa4aaf96620a014279eeef0d4ca74b0d2e89", func := "gleaner/gleanerlaw1.PackWrites", spec := "packWrites", apart := false }
def PackWritesSaid : Prop := packWritesRow.holds Try.pinned (OpenSpec.ofChange packWritesSpec)

/-- ITS FALSE NEIGHBOUR: 'it returns false'. Refute it at one input. -/
def packWritesWrong : ChangeSpec := { name := "packWrites", fn := fun _ => fun
  | [d1, d2] => { results := [.lit (.bool false)], args := [d1, d2] }
  | _ => none }
def PackWritesWrongFalsely : Prop := packWritesRow.holds Try.pinned (OpenSpec.ofChange packWritesWrong)

/-- 'gleanerlaw1.PackReads': WHATEVER THE INPUT: true; the input reads as it did. -/
def packReadsSpec : ChangeSpec := { name := "packReads", fn := fun _ => fun
  | [d1, d2] => { results := [.lit (.bool true)], args := [d1, d2] }
  | _ => none }
def packReadsRow : OpenClaim := { program := "ytbjpnnpbhocffaa", sum := "a2a3ae70a0c30e667904ca0319d6aa4aaf96620a014279eeef0d4ca74b0d2e89", func := "gleaner/gleanerlaw1.PackReads", spec := "packReads", apart := false }
def PackReadsSaid : Prop := packReadsRow.holds Try.pinned (OpenSpec.ofChange packReadsSpec)

/-- ITS FALSE NEIGHBOUR: 'it returns false'. Refute it at one input. -/
def packReadsWrong : ChangeSpec := { name := "packReads", fn := fun _ => fun
  | [d1, d2] => { results := [.lit (.bool false)], args := [d1, d2] }
  | _ => none }
def PackReadsWrongFalsely : Prop := packReadsRow.holds Try.pinned (OpenSpec.ofChange packReadsWrong)

/-- 'gleanerlaw1.PackStays': WHATEVER THE INPUT: true; the input reads as it did. -/
def packStaysSpec : ChangeSpec := { name := "packStays", fn := fun _ => fun
  | [d1, d2] => { results := [.lit (.bool true)], args := [d1, d2] }
  | _ => none }
def packStaysRow : OpenClaim := { program := "ytbjpnnpbhocffaa", sum := "a2a3ae70a0c30e667904ca0319d6aa4aaf96620a014279eeef0d4ca74b0d2e89", func := "gleaner/gleanerlaw1.PackStays", spec := "packStays", apart := false }
def PackStaysSaid : Prop := packStaysRow.holds Try.pinned (OpenSpec.ofChange packStaysSpec)

/-- ITS FALSE NEIGHBOUR: 'it returns false'. Refute it at one input. -/
def packStaysWrong : ChangeSpec := { name := "packStays", fn := fun _ => fun
  | [d1, d2] => { results := [.lit (.bool false)], args := [d1, d2] }
  | _ => none }
def PackStaysWrongFalsely : Prop := packStaysRow.holds Try.pinned (OpenSpec.ofChange packStaysWrong)

/-- 'gleanerlaw1.PackTexts': WHATEVER THE INPUT: true; the input reads as it did. -/
def packTextsSpec : ChangeSpec := { name := "packTexts", fn := fun _ => fun
  | [d1, d2] => { results := [.lit (.bool true)], args := [d1, d2] }
  | _ => none }
def packTextsRow : OpenClaim := { program := "ytbjpnnpbhocffaa", sum := "a2a3ae70a0c30e667904ca0319d6aa4aaf96620a014279eeef0d4ca74b0d2e89", func := "gleaner/gleanerlaw1.PackTexts", spec := "packTexts", apart := false }
def PackTextsSaid : Prop := packTextsRow.holds Try.pinned (OpenSpec.ofChange packTextsSpec)

/-- ITS FALSE NEIGHBOUR: 'it returns false'. Refute it at one input. -/
def packTextsWrong : ChangeSpec := { name := "packTexts", fn := fun _ => fun
  | [d1, d2] => { results := [.lit (.bool false)], args := [d1, d2] }
  | _ => none }
def PackTextsWrongFalsely : Prop := packTextsRow.holds Try.pinned (OpenSpec.ofChange packTextsWrong)

/-- 'gleanerlaw1.PackMixed': WHATEVER THE INPUT: true; the input reads as it did. -/
def packMixedSpec : ChangeSpec := { name := "packMixed", fn := fun _ => fun
  | [d1, d2] => { results := [.lit (.bool true)], args := [d1, d2] }
  | _ => none }
def packMixedRow : OpenClaim := { program := "ytbjpnnpbhocffaa", sum := "a2a3ae70a0c30e667904ca0319d6aa4aaf96620a014279eeef0d4ca74b0d2e89", func := "gleaner/gleanerlaw1.PackMixed", spec := "packMixed", apart := false }
def PackMixedSaid : Prop := packMixedRow.holds Try.pinned (OpenSpec.ofChange packMixedSpec)

/-- ITS FALSE NEIGHBOUR: 'it returns false'. Refute it at one input. -/
def packMixedWrong : ChangeSpec := { name := "packMixed", fn := fun _ => fun
  | [d1, d2] => { results := [.lit (.bool false)], args := [d1, d2] }
  | _ => none }
def PackMixedWrongFalsely : Prop := packMixedRow.holds Try.pinned (OpenSpec.ofChange packMixedWrong)

/- THE SECOND FORM. 'bulk': how many values and letters a reading holds, each counted each time it is reached (what is shared counts as often as it is met; a slice's spare places count too). A statement '..UptoSaid' is the law's where the arguments, and the package variables that the reading takes, are together of bulk at most 1048576: NARROWER than '..Said'. Prove '..Said' where nothing that the law and all that it calls make is longer than what came in: it says more and counts as full. Else prove '..UptoSaid'. A law counts once. -/
mutual
def uptoBulk {H : Type} : DataW H → Nat
  | .lit (.string bytes) => bytes.length + 1
  | .lit _ => 1
  | .nil => 1
  | .ptr d => uptoBulk d + 1
  | .slice elems spare => uptoBulkAll elems + uptoBulkAll spare + 1
  | .agg parts => uptoBulkAll parts + 1
  | .iface _ d => uptoBulk d + 1
  | .map entries => uptoBulkEntries entries + 1
  | .held _ => 1
def uptoBulkAll {H : Type} : List (DataW H) → Nat
  | [] => 0
  | d :: r => uptoBulk d + uptoBulkAll r
def uptoBulkEntries {H : Type} : List (Lit × DataW H) → Nat
  | [] => 0
  | x :: r => uptoBulkEntry x + uptoBulkEntries r
def uptoBulkEntry {H : Type} : Lit × DataW H → Nat
  | (.string bytes, d) => bytes.length + uptoBulk d + 1
  | (_, d) => uptoBulk d + 1
 end
def uptoSmall : (H : Type) → List (DataW H) → Bool := fun _ ds => decide (uptoBulkAll ds ≤ 1048576)
def OpenSpec.upto (s : _root_.Go.ChangeSpec) : _root_.Go.OpenSpec := { _root_.Go.OpenSpec.ofChange s with cond := some uptoSmall }

/-- 'gleanerlaw1.PackLengths', WHERE WHAT IT READS IS OF BULK AT MOST 1048576: true; the input reads as it did. -/
def packLengthsUptoRow : OpenClaim := { program := "ytbjpnnpbhocffaa", sum := "a2a3ae70a0c30e667904ca0319d6aa4aaf96620a014279eeef0d4ca74b0d2e89", func := "gleaner/gleanerlaw1.PackLengths", spec := "packLengths", apart := false, narrowed := true }
def PackLengthsUptoSaid : Prop := packLengthsUptoRow.holds Try.pinned (OpenSpec.upto packLengthsSpec)

/-- 'gleanerlaw1.PackShort', WHERE WHAT IT READS IS OF BULK AT MOST 1048576: true; the input reads as it did. -/
def packShortUptoRow : OpenClaim := { program := "ytbjpnnpbhocffaa", sum := "a2a3ae70a0c30e667904ca0319d6aa4aaf96620a014279eeef0d4ca74b0d2e89", func := "gleaner/gleanerlaw1.PackShort", spec := "packShort", apart := false, narrowed := true }
def PackShortUptoSaid : Prop := packShortUptoRow.holds Try.pinned (OpenSpec.upto packShortSpec)

/-- 'gleanerlaw1.PackWrites', WHERE WHAT IT READS IS OF BULK AT MOST 1048576: true; the input reads as it did. -/
def packWritesUptoRow : OpenClaim := { program := "ytbjpnnpbhocffaa", sum := "a2a3ae70a0c30e667904ca0319d6aa4aaf96620a014279eeef0d4ca74b0d2e89", func := "gleaner/gleanerlaw1.PackWrites", spec := "packWrites", apart := false, narrowed := true }
def PackWritesUptoSaid : Prop := packWritesUptoRow.holds Try.pinned (OpenSpec.upto packWritesSpec)

/-- 'gleanerlaw1.PackReads', WHERE WHAT IT READS IS OF BULK AT MOST 1048576: true; the input reads as it did. -/
def packReadsUptoRow : OpenClaim := { program := "ytbjpnnpbhocffaa", sum := "a2a3ae70a0c30e667904ca0319d6aa4aaf96620a014279eeef0d4ca74b0d2e89", func := "gleaner/gleanerlaw1.PackReads", spec := "packReads", apart := false, narrowed := true }
def PackReadsUptoSaid : Prop := packReadsUptoRow.holds Try.pinned (OpenSpec.upto packReadsSpec)

/-- 'gleanerlaw1.PackStays', WHERE WHAT IT READS IS OF BULK AT MOST 1048576: true; the input reads as it did. -/
def packStaysUptoRow : OpenClaim := { program := "ytbjpnnpbhocffaa", sum := "a2a3ae70a0c30e667904ca0319d6aa4aaf96620a014279eeef0d4ca74b0d2e89", func := "gleaner/gleanerlaw1.PackStays", spec := "packStays", apart := false, narrowed := true }
def PackStaysUptoSaid : Prop := packStaysUptoRow.holds Try.pinned (OpenSpec.upto packStaysSpec)

/-- 'gleanerlaw1.PackTexts', WHERE WHAT IT READS IS OF BULK AT MOST 1048576: true; the input reads as it did. -/
def packTextsUptoRow : OpenClaim := { program := "ytbjpnnpbhocffaa", sum := "a2a3ae70a0c30e667904ca0319d6aa4aaf96620a014279eeef0d4ca74b0d2e89", func := "gleaner/gleanerlaw1.PackTexts", spec := "packTexts", apart := false, narrowed := true }
def PackTextsUptoSaid : Prop := packTextsUptoRow.holds Try.pinned (OpenSpec.upto packTextsSpec)

/-- 'gleanerlaw1.PackMixed', WHERE WHAT IT READS IS OF BULK AT MOST 1048576: true; the input reads as it did. -/
def packMixedUptoRow : OpenClaim := { program := "ytbjpnnpbhocffaa", sum := "a2a3ae70a0c30e667904ca0319d6aa4aaf96620a014279eeef0d4ca74b0d2e89", func := "gleaner/gleanerlaw1.PackMixed", spec := "packMixed", apart := false, narrowed := true }
def PackMixedUptoSaid : Prop := packMixedUptoRow.holds Try.pinned (OpenSpec.upto packMixedSpec)

end Rows
end Go.Proofs.Ytbjpnnpbhocffaa
