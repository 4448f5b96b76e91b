/-
  No cell of these rows narrows 'for every input' (looked for: loops, veiled, ifaces, maps, wideKeys, modest, calm, conditions, laid).
  DERIVED. THE GIVEN ROWS OF THIS SEAT. 6 by the template 'for every input the law returns true; each argument reads behind the call as it read before'; 0 by the template 'total and deterministic' (their statements: YtclpmadecibofaaTotals.lean).
  GIVEN WITH THE SEED: the statements are not yours to turn. If you find one false, say at which input.
  Laid BY PROGRAM, IN A SANDBOX (cutbox-rows.mjs): the forced cells as the released guide's own fill.sh prints them over the translation 2be881f0d64cb3ad… (all of the seat's roots in one cut). By AI agents, Wed Nov 11 2026. No macro, syntax, notation, axiom, sorry.
-/
import Derived.Test.YtclpmadecibofaaChecked
import GoSem.Claim
import GoSem.ClaimJoined
import GoSem.ClaimMapViews
import Derived.JoinedTies
import Derived.KernelRfl
namespace Go.Proofs.Ytclpmadecibofaa
/- THE CELL 'sum', in the pinned program and in every row, IS THE sha256 OF THE DUMP (.gsa) THAT YtclpmadecibofaaProg.lean LOADS. Nothing in Lean hashes anything: it is a label: what it is worth is what the hold of that sum in a sandbox is worth. -/
noncomputable def Try.pinned : Pinned := { name := "ytclpmadecibofaa", sum := "2be881f0d64cb3adefe0b2a6c99be29ef0069c5719b09a596603f073679832ab", checked := Try.checked }
namespace Rows
def none {H : Type} : Left H := { results := [], args := [] }

/-- 'gleanerlaw11.NoteFields': WHATEVER THE INPUT: true; the input reads as it did. -/
def noteFieldsSpec : ChangeSpec := { name := "noteFields", fn := fun _ => fun
  | [d1, d2] => { results := [.lit (.bool true)], args := [d1, d2] }
  | _ => none }
def noteFieldsRow : OpenClaim := { program := "ytclpmadecibofaa", sum := "2be881f0d64cb3adefe0b2a6c99be29ef0069c5719b09a596603f073679832ab", func := "gleaner/gleanerlaw11.NoteFields", spec := "noteFields", apart := false }
def NoteFieldsSaid : Prop := noteFieldsRow.holds Try.pinned (OpenSpec.ofChange noteFieldsSpec)

/-- ITS FALSE NEIGHBOUR: 'it returns false'. Refute it at one input. -/
def noteFieldsWrong : ChangeSpec := { name := "noteFields", fn := fun _ => fun
  | [d1, d2] => { results := [.lit (.bool false)], args := [d1, d2] }
  | _ => none }
def NoteFieldsWrongFalsely : Prop := noteFieldsRow.holds Try.pinned (OpenSpec.ofChange noteFieldsWrong)

/-- 'gleanerlaw11.NotePacks': WHATEVER THE INPUT: true; the input reads as it did. -/
def notePacksSpec : ChangeSpec := { name := "notePacks", fn := fun _ => fun
  | [d] => { results := [.lit (.bool true)], args := [d] }
  | _ => none }
def notePacksRow : OpenClaim := { program := "ytclpmadecibofaa", sum := "2be881f0d64cb3adefe0b2a6c99be29ef0069c5719b09a596603f073679832ab", func := "gleaner/gleanerlaw11.NotePacks", spec := "notePacks", apart := false }
def NotePacksSaid : Prop := notePacksRow.holds Try.pinned (OpenSpec.ofChange notePacksSpec)

/-- ITS FALSE NEIGHBOUR: 'it returns false'. Refute it at one input. -/
def notePacksWrong : ChangeSpec := { name := "notePacks", fn := fun _ => fun
  | [d] => { results := [.lit (.bool false)], args := [d] }
  | _ => none }
def NotePacksWrongFalsely : Prop := notePacksRow.holds Try.pinned (OpenSpec.ofChange notePacksWrong)

/-- 'gleanerlaw11.NoteReads': WHATEVER THE INPUT: true; the input reads as it did. -/
def noteReadsSpec : ChangeSpec := { name := "noteReads", fn := fun _ => fun
  | [d] => { results := [.lit (.bool true)], args := [d] }
  | _ => none }
def noteReadsRow : OpenClaim := { program := "ytclpmadecibofaa", sum := "2be881f0d64cb3adefe0b2a6c99be29ef0069c5719b09a596603f073679832ab", func := "gleaner/gleanerlaw11.NoteReads", spec := "noteReads", apart := false }
def NoteReadsSaid : Prop := noteReadsRow.holds Try.pinned (OpenSpec.ofChange noteReadsSpec)

/-- ITS FALSE NEIGHBOUR: 'it returns false'. Refute it at one input. -/
def noteReadsWrong : ChangeSpec := { name := "noteReads", fn := fun _ => fun
  | [d] => { results := [.lit (.bool false)], args := [d] }
  | _ => none }
def NoteReadsWrongFalsely : Prop := noteReadsRow.holds Try.pinned (OpenSpec.ofChange noteReadsWrong)

/-- 'gleanerlaw11.NoteCuts': WHATEVER THE INPUT: true; the input reads as it did. -/
def noteCutsSpec : ChangeSpec := { name := "noteCuts", fn := fun _ => fun
  | [d1, d2, d3] => { results := [.lit (.bool true)], args := [d1, d2, d3] }
  | _ => none }
def noteCutsRow : OpenClaim := { program := "ytclpmadecibofaa", sum := "2be881f0d64cb3adefe0b2a6c99be29ef0069c5719b09a596603f073679832ab", func := "gleaner/gleanerlaw11.NoteCuts", spec := "noteCuts", apart := false }
def NoteCutsSaid : Prop := noteCutsRow.holds Try.pinned (OpenSpec.ofChange noteCutsSpec)

/-- ITS FALSE NEIGHBOUR: 'it returns false'. Refute it at one input. -/
def noteCutsWrong : ChangeSpec := { name := "noteCuts", fn := fun _ => fun
  | [d1, d2, d3] => { results := [.lit (.bool false)], args := [d1, d2, d3] }
  | _ => none }
def NoteCutsWrongFalsely : Prop := noteCutsRow.holds Try.pinned (OpenSpec.ofChange noteCutsWrong)

/-- 'gleanerlaw11.NoteResults': WHATEVER THE INPUT: true; the input reads as it did. -/
def noteResultsSpec : ChangeSpec := { name := "noteResults", fn := fun _ => fun
  | [d1, d2] => { results := [.lit (.bool true)], args := [d1, d2] }
  | _ => none }
def noteResultsRow : OpenClaim := { program := "ytclpmadecibofaa", sum := "2be881f0d64cb3adefe0b2a6c99be29ef0069c5719b09a596603f073679832ab", func := "gleaner/gleanerlaw11.NoteResults", spec := "noteResults", apart := false }
def NoteResultsSaid : Prop := noteResultsRow.holds Try.pinned (OpenSpec.ofChange noteResultsSpec)

/-- ITS FALSE NEIGHBOUR: 'it returns false'. Refute it at one input. -/
def noteResultsWrong : ChangeSpec := { name := "noteResults", fn := fun _ => fun
  | [d1, d2] => { results := [.lit (.bool false)], args := [d1, d2] }
  | _ => none }
def NoteResultsWrongFalsely : Prop := noteResultsRow.holds Try.pinned (OpenSpec.ofChange noteResultsWrong)

/-- 'gleanerlaw11.NoteViews': WHATEVER THE INPUT: true; the input reads as it did. -/
def noteViewsSpec : ChangeSpec := { name := "noteViews", fn := fun _ => fun
  | [d] => { results := [.lit (.bool true)], args := [d] }
  | _ => none }
def noteViewsRow : OpenClaim := { program := "ytclpmadecibofaa", sum := "2be881f0d64cb3adefe0b2a6c99be29ef0069c5719b09a596603f073679832ab", func := "gleaner/gleanerlaw11.NoteViews", spec := "noteViews", apart := false }
def NoteViewsSaid : Prop := noteViewsRow.holds Try.pinned (OpenSpec.ofChange noteViewsSpec)

/-- ITS FALSE NEIGHBOUR: 'it returns false'. Refute it at one input. -/
def noteViewsWrong : ChangeSpec := { name := "noteViews", fn := fun _ => fun
  | [d] => { results := [.lit (.bool false)], args := [d] }
  | _ => none }
def NoteViewsWrongFalsely : Prop := noteViewsRow.holds Try.pinned (OpenSpec.ofChange noteViewsWrong)

/- THE SECOND FORM. 'bulk': how many values and letters a reading holds, each counted each time it is reached (what is shared counts as often as it is met; a slice's spare places count too). A statement '..UptoSaid' is the law's where the arguments, and the package variables that the reading takes, are together of bulk at most 1048576: NARROWER than '..Said'. Prove '..Said' where nothing that the law and all that it calls make is longer than what came in: it says more and counts as full. Else prove '..UptoSaid'. A law counts once. -/
mutual
def uptoBulk {H : Type} : DataW H → Nat
  | .lit (.string bytes) => bytes.length + 1
  | .lit _ => 1
  | .nil => 1
  | .ptr d => uptoBulk d + 1
  | .slice elems spare => uptoBulkAll elems + uptoBulkAll spare + 1
  | .agg parts => uptoBulkAll parts + 1
  | .iface _ d => uptoBulk d + 1
  | .map entries => uptoBulkEntries entries + 1
  | .held _ => 1
def uptoBulkAll {H : Type} : List (DataW H) → Nat
  | [] => 0
  | d :: r => uptoBulk d + uptoBulkAll r
def uptoBulkEntries {H : Type} : List (Lit × DataW H) → Nat
  | [] => 0
  | x :: r => uptoBulkEntry x + uptoBulkEntries r
def uptoBulkEntry {H : Type} : Lit × DataW H → Nat
  | (.string bytes, d) => bytes.length + uptoBulk d + 1
  | (_, d) => uptoBulk d + 1
 end
def uptoSmall : (H : Type) → List (DataW H) → Bool := fun _ ds => decide (uptoBulkAll ds ≤ 1048576)
def OpenSpec.upto (s : _root_.Go.ChangeSpec) : _root_.Go.OpenSpec := { _root_.Go.OpenSpec.ofChange s with cond := some uptoSmall }

/-- 'gleanerlaw11.NoteFields', WHERE WHAT IT READS IS OF BULK AT MOST 1048576: true; the input reads as it did. -/
def noteFieldsUptoRow : OpenClaim := { program := "ytclpmadecibofaa", sum := "2be881f0d64cb3adefe0b2a6c99be29ef0069c5719b09a596603f073679832ab", func := "gleaner/gleanerlaw11.NoteFields", spec := "noteFields", apart := false, narrowed := true }
def NoteFieldsUptoSaid : Prop := noteFieldsUptoRow.holds Try.pinned (OpenSpec.upto noteFieldsSpec)

/-- 'gleanerlaw11.NotePacks', WHERE WHAT IT READS IS OF BULK AT MOST 1048576: true; the input reads as it did. -/
def notePacksUptoRow : OpenClaim := { program := "ytclpmadecibofaa", sum := "2be881f0d64cb3adefe0b2a6c99be29ef0069c5719b09a596603f073679832ab", func := "gleaner/gleanerlaw11.NotePacks", spec := "notePacks", apart := false, narrowed := true }
def NotePacksUptoSaid : Prop := notePacksUptoRow.holds Try.pinned (OpenSpec.upto notePacksSpec)

/-- 'gleanerlaw11.NoteReads', WHERE WHAT IT READS IS OF BULK AT MOST 1048576: true; the input reads as it did. -/
def noteReadsUptoRow : OpenClaim := { program := "ytclpmadecibofaa", sum := "2be881f0d64cb3adefe0b2a6c99be29ef0069c5719b09a596603f073679832ab", func := "gleaner/gleanerlaw11.NoteReads", spec := "noteReads", apart := false, narrowed := true }
def NoteReadsUptoSaid : Prop := noteReadsUptoRow.holds Try.pinned (OpenSpec.upto noteReadsSpec)

/-- 'gleanerlaw11.NoteCuts', WHERE WHAT IT READS IS OF BULK AT MOST 1048576: true; the input reads as it did. -/
def noteCutsUptoRow : OpenClaim := { program := "ytclpmadecibofaa", sum := "2be881f0d64cb3adefe0b2a6c99be29ef0069c5719b09a596603f073679832ab", func := "gleaner/gleanerlaw11.NoteCuts", spec := "noteCuts", apart := false, narrowed := true }
def NoteCutsUptoSaid : Prop := noteCutsUptoRow.holds Try.pinned (OpenSpec.upto noteCutsSpec)

/-- 'gleanerlaw11.NoteResults', WHERE WHAT IT READS IS OF BULK AT MOST 1048576: true; the input reads as it did. -/
def noteResultsUptoRow : OpenClaim := { program := "ytclpmadecibofaa", sum := "2be881f0d64cb3adefe0b2a6c99be29ef0069c5719b09a596603f073679832ab", func := "gleaner/gleanerlaw11.NoteResults", spec := "noteResults", apart := false, narrowed := true }
def NoteResultsUptoSaid : Prop := noteResultsUptoRow.holds Try.pinned (OpenSpec.upto noteResultsSpec)

/-- 'gleanerlaw11.NoteViews', WHERE WHAT IT READS IS OF BULK AT MOST 1048576: true; the input reads as it did. -/
def noteViewsUptoRow : OpenClaim := { program := "ytclpmadecibofaa", sum := "2be881f0d64cb3adefe0b2a6c99be29ef0069c5719b09a596603f073679832ab", func := "gleaner/gleanerlaw11.NoteViews", spec := "noteViews", apart := false, narrowed := true }
def NoteViewsUptoSaid : Prop := noteViewsUptoRow.holds Try.pinned (OpenSpec.upto noteViewsSpec)

end Rows
end Go.Proofs.Ytclpmadecibofaa
