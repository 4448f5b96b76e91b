/-
  No cell of these rows narrows 'for every input' (looked for: loops, veiled, ifaces, maps, wideKeys, modest, calm, conditions, laid).
  DERIVED. THE GIVEN ROWS OF THIS SEAT. 3 by the template 'for every input the law returns true; each argument reads behind the call as it read before'; 0 by the template 'total and deterministic' (their statements: YtiokijldnnkeiaaTotals.lean).
  GIVEN WITH THE SEED: the statements are not yours to turn. If you find one false, say at which input.
  Laid BY PROGRAM, IN A SANDBOX (cutbox-rows.mjs): the forced cells as the released guide's own fill.sh prints them over the translation 504dc0be64ca22d0… (all of the seat's roots in one cut). By AI agents, Wed Nov 11 2026. No macro, syntax, notation, axiom, sorry.
-/
import Derived.Test.YtiokijldnnkeiaaChecked
import GoSem.Claim
import GoSem.ClaimJoined
import GoSem.ClaimMapViews
import Derived.JoinedTies
import Derived.KernelRfl
namespace Go.Proofs.Ytiokijldnnkeiaa
/- THE CELL 'sum', in the pinned program and in every row, IS THE sha256 OF THE DUMP (.gsa) THAT YtiokijldnnkeiaaProg.lean LOADS. Nothing in Lean hashes anything: it is a label: what it is worth is what the hold of that sum in a sandbox is worth. -/
noncomputable def Try.pinned : Pinned := { name := "ytiokijldnnkeiaa", sum := "504dc0be64ca22d0370751e70d89057f2b17f6c9b1fde3048e7d7cd3506f72fb", checked := Try.checked }
namespace Rows
def none {H : Type} : Left H := { results := [], args := [] }

/-- 'gleanerlaw20.VictimAll': WHATEVER THE INPUT: true; the input reads as it did. -/
def victimAllSpec : ChangeSpec := { name := "victimAll", fn := fun _ => fun
  | [d1, d2, d3, d4] => { results := [.lit (.bool true)], args := [d1, d2, d3, d4] }
  | _ => none }
def victimAllRow : OpenClaim := { program := "ytiokijldnnkeiaa", sum := "504dc0be64ca22d0370751e70d89057f2b17f6c9b1fde3048e7d7cd3506f72fb", func := "gleaner/gleanerlaw20.VictimAll", spec := "victimAll", recurses := true, apart := false }
def VictimAllSaid : Prop := victimAllRow.holds Try.pinned (OpenSpec.ofChange victimAllSpec)

/-- ITS FALSE NEIGHBOUR: 'it returns false'. Refute it at one input. -/
def victimAllWrong : ChangeSpec := { name := "victimAll", fn := fun _ => fun
  | [d1, d2, d3, d4] => { results := [.lit (.bool false)], args := [d1, d2, d3, d4] }
  | _ => none }
def VictimAllWrongFalsely : Prop := victimAllRow.holds Try.pinned (OpenSpec.ofChange victimAllWrong)

/-- 'gleanerlaw20.VictimPlays': WHATEVER THE INPUT: true; the input reads as it did. -/
def victimPlaysSpec : ChangeSpec := { name := "victimPlays", fn := fun _ => fun
  | [d1, d2, d3, d4, d5] => { results := [.lit (.bool true)], args := [d1, d2, d3, d4, d5] }
  | _ => none }
def victimPlaysRow : OpenClaim := { program := "ytiokijldnnkeiaa", sum := "504dc0be64ca22d0370751e70d89057f2b17f6c9b1fde3048e7d7cd3506f72fb", func := "gleaner/gleanerlaw20.VictimPlays", spec := "victimPlays", recurses := true, apart := false }
def VictimPlaysSaid : Prop := victimPlaysRow.holds Try.pinned (OpenSpec.ofChange victimPlaysSpec)

/-- ITS FALSE NEIGHBOUR: 'it returns false'. Refute it at one input. -/
def victimPlaysWrong : ChangeSpec := { name := "victimPlays", fn := fun _ => fun
  | [d1, d2, d3, d4, d5] => { results := [.lit (.bool false)], args := [d1, d2, d3, d4, d5] }
  | _ => none }
def VictimPlaysWrongFalsely : Prop := victimPlaysRow.holds Try.pinned (OpenSpec.ofChange victimPlaysWrong)

/-- 'gleanerlaw20.VictimAnew': WHATEVER THE INPUT: true; the input reads as it did. -/
def victimAnewSpec : ChangeSpec := { name := "victimAnew", fn := fun _ => fun
  | [d1, d2, d3, d4, d5] => { results := [.lit (.bool true)], args := [d1, d2, d3, d4, d5] }
  | _ => none }
def victimAnewRow : OpenClaim := { program := "ytiokijldnnkeiaa", sum := "504dc0be64ca22d0370751e70d89057f2b17f6c9b1fde3048e7d7cd3506f72fb", func := "gleaner/gleanerlaw20.VictimAnew", spec := "victimAnew", recurses := true, apart := false }
def VictimAnewSaid : Prop := victimAnewRow.holds Try.pinned (OpenSpec.ofChange victimAnewSpec)

/-- ITS FALSE NEIGHBOUR: 'it returns false'. Refute it at one input. -/
def victimAnewWrong : ChangeSpec := { name := "victimAnew", fn := fun _ => fun
  | [d1, d2, d3, d4, d5] => { results := [.lit (.bool false)], args := [d1, d2, d3, d4, d5] }
  | _ => none }
def VictimAnewWrongFalsely : Prop := victimAnewRow.holds Try.pinned (OpenSpec.ofChange victimAnewWrong)

/- THE SECOND FORM. 'bulk': how many values and letters a reading holds, each counted each time it is reached (what is shared counts as often as it is met; a slice's spare places count too). A statement '..UptoSaid' is the law's where the arguments, and the package variables that the reading takes, are together of bulk at most 1048576: NARROWER than '..Said'. Prove '..Said' where nothing that the law and all that it calls make is longer than what came in: it says more and counts as full. Else prove '..UptoSaid'. A law counts once. -/
mutual
def uptoBulk {H : Type} : DataW H → Nat
  | .lit (.string bytes) => bytes.length + 1
  | .lit _ => 1
  | .nil => 1
  | .ptr d => uptoBulk d + 1
  | .slice elems spare => uptoBulkAll elems + uptoBulkAll spare + 1
  | .agg parts => uptoBulkAll parts + 1
  | .iface _ d => uptoBulk d + 1
  | .map entries => uptoBulkEntries entries + 1
  | .held _ => 1
def uptoBulkAll {H : Type} : List (DataW H) → Nat
  | [] => 0
  | d :: r => uptoBulk d + uptoBulkAll r
def uptoBulkEntries {H : Type} : List (Lit × DataW H) → Nat
  | [] => 0
  | x :: r => uptoBulkEntry x + uptoBulkEntries r
def uptoBulkEntry {H : Type} : Lit × DataW H → Nat
  | (.string bytes, d) => bytes.length + uptoBulk d + 1
  | (_, d) => uptoBulk d + 1
 end
def uptoSmall : (H : Type) → List (DataW H) → Bool := fun _ ds => decide (uptoBulkAll ds ≤ 1048576)
def OpenSpec.upto (s : _root_.Go.ChangeSpec) : _root_.Go.OpenSpec := { _root_.Go.OpenSpec.ofChange s with cond := some uptoSmall }

/-- 'gleanerlaw20.VictimAll', WHERE WHAT IT READS IS OF BULK AT MOST 1048576: true; the input reads as it did. -/
def victimAllUptoRow : OpenClaim := { program := "ytiokijldnnkeiaa", sum := "504dc0be64ca22d0370751e70d89057f2b17f6c9b1fde3048e7d7cd3506f72fb", func := "gleaner/gleanerlaw20.VictimAll", spec := "victimAll", recurses := true, apart := false, narrowed := true }
def VictimAllUptoSaid : Prop := victimAllUptoRow.holds Try.pinned (OpenSpec.upto victimAllSpec)

/-- 'gleanerlaw20.VictimPlays', WHERE WHAT IT READS IS OF BULK AT MOST 1048576: true; the input reads as it did. -/
def victimPlaysUptoRow : OpenClaim := { program := "ytiokijldnnkeiaa", sum := "504dc0be64ca22d0370751e70d89057f2b17f6c9b1fde3048e7d7cd3506f72fb", func := "gleaner/gleanerlaw20.VictimPlays", spec := "victimPlays", recurses := true, apart := false, narrowed := true }
def VictimPlaysUptoSaid : Prop := victimPlaysUptoRow.holds Try.pinned (OpenSpec.upto victimPlaysSpec)

/-- 'gleanerlaw20.VictimAnew', WHERE WHAT IT READS IS OF BULK AT MOST 1048576: true; the input reads as it did. -/
def victimAnewUptoRow : OpenClaim := { program := "ytiokijldnnkeiaa", sum := "504dc0be64ca22d0370751e70d89057f2b17f6c9b1fde3048e7d7cd3506f72fb", func := "gleaner/gleanerlaw20.VictimAnew", spec := "victimAnew", recurses := true, apart := false, narrowed := true }
def VictimAnewUptoSaid : Prop := victimAnewUptoRow.holds Try.pinned (OpenSpec.upto victimAnewSpec)

end Rows
end Go.Proofs.Ytiokijldnnkeiaa
