/-
  No cell of these rows narrows 'for every input' (looked for: loops, veiled, ifaces, maps, wideKeys, modest, calm, conditions, laid).
  DERIVED. THE GIVEN ROWS OF THIS SEAT. 4 by the template 'for every input the law returns true; each argument reads behind the call as it read before'; 0 by the template 'total and deterministic' (their statements: YteinbdifncdaiaaTotals.lean).
  GIVEN WITH THE SEED: the statements are not yours to turn. If you find one false, say at which input.
  Laid BY PROGRAM, IN A SANDBOX (cutbox-rows.mjs): the forced cells as the released guide's own fill.sh prints them over the translation 8460a9f874ae8cc3… (all of the seat's roots in one cut). By AI agents, Wed Nov 11 2026. No macro, syntax, notation, axiom, sorry.
-/
import Derived.Test.YteinbdifncdaiaaChecked
import GoSem.Claim
import GoSem.ClaimJoined
import GoSem.ClaimMapViews
import Derived.JoinedTies
import Derived.KernelRfl
namespace Go.Proofs.Yteinbdifncdaiaa
/- THE CELL 'sum', in the pinned program and in every row, IS THE sha256 OF THE DUMP (.gsa) THAT YteinbdifncdaiaaProg.lean LOADS. Nothing in Lean hashes anything: it is a label: what it is worth is what the hold of that sum in a sandbox is worth. -/
noncomputable def Try.pinned : Pinned := { name := "yteinbdifncdaiaa", sum := "8460a9f874ae8cc3c648238b41a797a96273ee44baed21a23ee3d4edf67b38be", checked := Try.checked }
namespace Rows
def none {H : Type} : Left H := { results := [], args := [] }

/-- 'gleanerlaw29.TraceWrong': WHATEVER THE INPUT: true; the input reads as it did. -/
def traceWrongSpec : ChangeSpec := { name := "traceWrong", fn := fun _ => fun
  | [d1, d2, d3] => { results := [.lit (.bool true)], args := [d1, d2, d3] }
  | _ => none }
def traceWrongRow : OpenClaim := { program := "yteinbdifncdaiaa", sum := "8460a9f874ae8cc3c648238b41a797a96273ee44baed21a23ee3d4edf67b38be", func := "gleaner/gleanerlaw29.TraceWrong", spec := "traceWrong", recurses := true, apart := false }
def TraceWrongSaid : Prop := traceWrongRow.holds Try.pinned (OpenSpec.ofChange traceWrongSpec)

/-- ITS FALSE NEIGHBOUR: 'it returns false'. Refute it at one input. -/
def traceWrongWrong : ChangeSpec := { name := "traceWrong", fn := fun _ => fun
  | [d1, d2, d3] => { results := [.lit (.bool false)], args := [d1, d2, d3] }
  | _ => none }
def TraceWrongWrongFalsely : Prop := traceWrongRow.holds Try.pinned (OpenSpec.ofChange traceWrongWrong)

/-- 'gleanerlaw29.TraceLeft': WHATEVER THE INPUT: true; the input reads as it did. -/
def traceLeftSpec : ChangeSpec := { name := "traceLeft", fn := fun _ => fun
  | [d1, d2] => { results := [.lit (.bool true)], args := [d1, d2] }
  | _ => none }
def traceLeftRow : OpenClaim := { program := "yteinbdifncdaiaa", sum := "8460a9f874ae8cc3c648238b41a797a96273ee44baed21a23ee3d4edf67b38be", func := "gleaner/gleanerlaw29.TraceLeft", spec := "traceLeft", recurses := true, apart := false }
def TraceLeftSaid : Prop := traceLeftRow.holds Try.pinned (OpenSpec.ofChange traceLeftSpec)

/-- ITS FALSE NEIGHBOUR: 'it returns false'. Refute it at one input. -/
def traceLeftWrong : ChangeSpec := { name := "traceLeft", fn := fun _ => fun
  | [d1, d2] => { results := [.lit (.bool false)], args := [d1, d2] }
  | _ => none }
def TraceLeftWrongFalsely : Prop := traceLeftRow.holds Try.pinned (OpenSpec.ofChange traceLeftWrong)

/-- 'gleanerlaw29.TraceSame': WHATEVER THE INPUT: true; the input reads as it did. -/
def traceSameSpec : ChangeSpec := { name := "traceSame", fn := fun _ => fun
  | [d1, d2] => { results := [.lit (.bool true)], args := [d1, d2] }
  | _ => none }
def traceSameRow : OpenClaim := { program := "yteinbdifncdaiaa", sum := "8460a9f874ae8cc3c648238b41a797a96273ee44baed21a23ee3d4edf67b38be", func := "gleaner/gleanerlaw29.TraceSame", spec := "traceSame", unfollowed := true, recurses := true, apart := false }
def TraceSameSaid : Prop := traceSameRow.holds Try.pinned (OpenSpec.ofChange traceSameSpec)

/-- ITS FALSE NEIGHBOUR: 'it returns false'. Refute it at one input. -/
def traceSameWrong : ChangeSpec := { name := "traceSame", fn := fun _ => fun
  | [d1, d2] => { results := [.lit (.bool false)], args := [d1, d2] }
  | _ => none }
def TraceSameWrongFalsely : Prop := traceSameRow.holds Try.pinned (OpenSpec.ofChange traceSameWrong)

/-- 'gleanerlaw29.TraceDeep': WHATEVER THE INPUT: true; the input reads as it did. -/
def traceDeepSpec : ChangeSpec := { name := "traceDeep", fn := fun _ => fun
  | [d1, d2, d3] => { results := [.lit (.bool true)], args := [d1, d2, d3] }
  | _ => none }
def traceDeepRow : OpenClaim := { program := "yteinbdifncdaiaa", sum := "8460a9f874ae8cc3c648238b41a797a96273ee44baed21a23ee3d4edf67b38be", func := "gleaner/gleanerlaw29.TraceDeep", spec := "traceDeep", unfollowed := true, recurses := true, apart := false }
def TraceDeepSaid : Prop := traceDeepRow.holds Try.pinned (OpenSpec.ofChange traceDeepSpec)

/-- ITS FALSE NEIGHBOUR: 'it returns false'. Refute it at one input. -/
def traceDeepWrong : ChangeSpec := { name := "traceDeep", fn := fun _ => fun
  | [d1, d2, d3] => { results := [.lit (.bool false)], args := [d1, d2, d3] }
  | _ => none }
def TraceDeepWrongFalsely : Prop := traceDeepRow.holds Try.pinned (OpenSpec.ofChange traceDeepWrong)

/- THE SECOND FORM. 'bulk': how many values and letters a reading holds, each counted each time it is reached (what is shared counts as often as it is met; a slice's spare places count too). A statement '..UptoSaid' is the law's where the arguments, and the package variables that the reading takes, are together of bulk at most 1048576: NARROWER than '..Said'. Prove '..Said' where nothing that the law and all that it calls make is longer than what came in: it says more and counts as full. Else prove '..UptoSaid'. A law counts once. -/
mutual
def uptoBulk {H : Type} : DataW H → Nat
  | .lit (.string bytes) => bytes.length + 1
  | .lit _ => 1
  | .nil => 1
  | .ptr d => uptoBulk d + 1
  | .slice elems spare => uptoBulkAll elems + uptoBulkAll spare + 1
  | .agg parts => uptoBulkAll parts + 1
  | .iface _ d => uptoBulk d + 1
  | .map entries => uptoBulkEntries entries + 1
  | .held _ => 1
def uptoBulkAll {H : Type} : List (DataW H) → Nat
  | [] => 0
  | d :: r => uptoBulk d + uptoBulkAll r
def uptoBulkEntries {H : Type} : List (Lit × DataW H) → Nat
  | [] => 0
  | x :: r => uptoBulkEntry x + uptoBulkEntries r
def uptoBulkEntry {H : Type} : Lit × DataW H → Nat
  | (.string bytes, d) => bytes.length + uptoBulk d + 1
  | (_, d) => uptoBulk d + 1
 end
def uptoSmall : (H : Type) → List (DataW H) → Bool := fun _ ds => decide (uptoBulkAll ds ≤ 1048576)
def OpenSpec.upto (s : _root_.Go.ChangeSpec) : _root_.Go.OpenSpec := { _root_.Go.OpenSpec.ofChange s with cond := some uptoSmall }

/-- 'gleanerlaw29.TraceWrong', WHERE WHAT IT READS IS OF BULK AT MOST 1048576: true; the input reads as it did. -/
def traceWrongUptoRow : OpenClaim := { program := "yteinbdifncdaiaa", sum := "8460a9f874ae8cc3c648238b41a797a96273ee44baed21a23ee3d4edf67b38be", func := "gleaner/gleanerlaw29.TraceWrong", spec := "traceWrong", recurses := true, apart := false, narrowed := true }
def TraceWrongUptoSaid : Prop := traceWrongUptoRow.holds Try.pinned (OpenSpec.upto traceWrongSpec)

/-- 'gleanerlaw29.TraceLeft', WHERE WHAT IT READS IS OF BULK AT MOST 1048576: true; the input reads as it did. -/
def traceLeftUptoRow : OpenClaim := { program := "yteinbdifncdaiaa", sum := "8460a9f874ae8cc3c648238b41a797a96273ee44baed21a23ee3d4edf67b38be", func := "gleaner/gleanerlaw29.TraceLeft", spec := "traceLeft", recurses := true, apart := false, narrowed := true }
def TraceLeftUptoSaid : Prop := traceLeftUptoRow.holds Try.pinned (OpenSpec.upto traceLeftSpec)

/-- 'gleanerlaw29.TraceSame', WHERE WHAT IT READS IS OF BULK AT MOST 1048576: true; the input reads as it did. -/
def traceSameUptoRow : OpenClaim := { program := "yteinbdifncdaiaa", sum := "8460a9f874ae8cc3c648238b41a797a96273ee44baed21a23ee3d4edf67b38be", func := "gleaner/gleanerlaw29.TraceSame", spec := "traceSame", unfollowed := true, recurses := true, apart := false, narrowed := true }
def TraceSameUptoSaid : Prop := traceSameUptoRow.holds Try.pinned (OpenSpec.upto traceSameSpec)

/-- 'gleanerlaw29.TraceDeep', WHERE WHAT IT READS IS OF BULK AT MOST 1048576: true; the input reads as it did. -/
def traceDeepUptoRow : OpenClaim := { program := "yteinbdifncdaiaa", sum := "8460a9f874ae8cc3c648238b41a797a96273ee44baed21a23ee3d4edf67b38be", func := "gleaner/gleanerlaw29.TraceDeep", spec := "traceDeep", unfollowed := true, recurses := true, apart := false, narrowed := true }
def TraceDeepUptoSaid : Prop := traceDeepUptoRow.holds Try.pinned (OpenSpec.upto traceDeepSpec)

end Rows
end Go.Proofs.Yteinbdifncdaiaa
