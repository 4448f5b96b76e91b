/-
  No cell of these rows narrows 'for every input' (looked for: loops, veiled, ifaces, maps, wideKeys, modest, calm, conditions, laid).
  DERIVED. THE GIVEN ROWS OF THIS SEAT. 4 by the template 'for every input the law returns true; each argument reads behind the call as it read before'; 0 by the template 'total and deterministic' (their statements: YtbfekdgapcihmaaTotals.lean).
  GIVEN WITH THE SEED: the statements are not yours to turn. If you find one false, say at which input.
  Laid BY PROGRAM, IN A SANDBOX (cutbox-rows.mjs): the forced cells as the released guide's own fill.sh prints them over the translation ac059985d0ac9023… (all of the seat's roots in one cut). By AI agents, Wed Nov 11 2026. No macro, syntax, notation, axiom, sorry.
-/
import Derived.Test.YtbfekdgapcihmaaChecked
import GoSem.Claim
import GoSem.ClaimJoined
import GoSem.ClaimMapViews
import Derived.JoinedTies
import Derived.KernelRfl
namespace Go.Proofs.Ytbfekdgapcihmaa
/- THE CELL 'sum', in the pinned program and in every row, IS THE sha256 OF THE DUMP (.gsa) THAT YtbfekdgapcihmaaProg.lean LOADS. Nothing in Lean hashes anything: it is a label: what it is worth is what the hold of that sum in a sandbox is worth. -/
noncomputable def Try.pinned : Pinned := { name := "ytbfekdgapcihmaa", sum := "ac059985d0ac9023e6b86b75b7ee769ea7701942ad7a31b929fc94da6931980f", checked := Try.checked }
namespace Rows
def none {H : Type} : Left H := { results := [], args := [] }

/-- 'gleanerlaw7.IdentDown': WHATEVER THE INPUT: true; the input reads as it did. -/
def identDownSpec : ChangeSpec := { name := "identDown", fn := fun _ => fun
  | [d] => { results := [.lit (.bool true)], args := [d] }
  | _ => none }
def identDownRow : OpenClaim := { program := "ytbfekdgapcihmaa", sum := "ac059985d0ac9023e6b86b75b7ee769ea7701942ad7a31b929fc94da6931980f", func := "gleaner/gleanerlaw7.IdentDown", spec := "identDown", apart := false }
def IdentDownSaid : Prop := identDownRow.holds Try.pinned (OpenSpec.ofChange identDownSpec)

/-- ITS FALSE NEIGHBOUR: 'it returns false'. Refute it at one input. -/
def identDownWrong : ChangeSpec := { name := "identDown", fn := fun _ => fun
  | [d] => { results := [.lit (.bool false)], args := [d] }
  | _ => none }
def IdentDownWrongFalsely : Prop := identDownRow.holds Try.pinned (OpenSpec.ofChange identDownWrong)

/-- 'gleanerlaw7.IdentTells': WHATEVER THE INPUT: true; the input reads as it did. -/
def identTellsSpec : ChangeSpec := { name := "identTells", fn := fun _ => fun
  | [d1, d2, d3] => { results := [.lit (.bool true)], args := [d1, d2, d3] }
  | _ => none }
def identTellsRow : OpenClaim := { program := "ytbfekdgapcihmaa", sum := "ac059985d0ac9023e6b86b75b7ee769ea7701942ad7a31b929fc94da6931980f", func := "gleaner/gleanerlaw7.IdentTells", spec := "identTells", inPlace := ["internal/bytealg.IndexByteString"], apart := false }
def IdentTellsSaid : Prop := identTellsRow.holds Try.pinned (OpenSpec.ofChange identTellsSpec)

/-- ITS FALSE NEIGHBOUR: 'it returns false'. Refute it at one input. -/
def identTellsWrong : ChangeSpec := { name := "identTells", fn := fun _ => fun
  | [d1, d2, d3] => { results := [.lit (.bool false)], args := [d1, d2, d3] }
  | _ => none }
def IdentTellsWrongFalsely : Prop := identTellsRow.holds Try.pinned (OpenSpec.ofChange identTellsWrong)

/-- 'gleanerlaw7.IdentSorts': WHATEVER THE INPUT: true; the input reads as it did. -/
def identSortsSpec : ChangeSpec := { name := "identSorts", fn := fun _ => fun
  | [d] => { results := [.lit (.bool true)], args := [d] }
  | _ => none }
def identSortsRow : OpenClaim := { program := "ytbfekdgapcihmaa", sum := "ac059985d0ac9023e6b86b75b7ee769ea7701942ad7a31b929fc94da6931980f", func := "gleaner/gleanerlaw7.IdentSorts", spec := "identSorts", recurses := true, apart := false }
def IdentSortsSaid : Prop := identSortsRow.holds Try.pinned (OpenSpec.ofChange identSortsSpec)

/-- ITS FALSE NEIGHBOUR: 'it returns false'. Refute it at one input. -/
def identSortsWrong : ChangeSpec := { name := "identSorts", fn := fun _ => fun
  | [d] => { results := [.lit (.bool false)], args := [d] }
  | _ => none }
def IdentSortsWrongFalsely : Prop := identSortsRow.holds Try.pinned (OpenSpec.ofChange identSortsWrong)

/-- 'gleanerlaw7.IdentOrder': WHATEVER THE INPUT: true; the input reads as it did. -/
def identOrderSpec : ChangeSpec := { name := "identOrder", fn := fun _ => fun
  | [d1, d2] => { results := [.lit (.bool true)], args := [d1, d2] }
  | _ => none }
def identOrderRow : OpenClaim := { program := "ytbfekdgapcihmaa", sum := "ac059985d0ac9023e6b86b75b7ee769ea7701942ad7a31b929fc94da6931980f", func := "gleaner/gleanerlaw7.IdentOrder", spec := "identOrder", recurses := true, apart := false }
def IdentOrderSaid : Prop := identOrderRow.holds Try.pinned (OpenSpec.ofChange identOrderSpec)

/-- ITS FALSE NEIGHBOUR: 'it returns false'. Refute it at one input. -/
def identOrderWrong : ChangeSpec := { name := "identOrder", fn := fun _ => fun
  | [d1, d2] => { results := [.lit (.bool false)], args := [d1, d2] }
  | _ => none }
def IdentOrderWrongFalsely : Prop := identOrderRow.holds Try.pinned (OpenSpec.ofChange identOrderWrong)

/- THE SECOND FORM. 'bulk': how many values and letters a reading holds, each counted each time it is reached (what is shared counts as often as it is met; a slice's spare places count too). A statement '..UptoSaid' is the law's where the arguments, and the package variables that the reading takes, are together of bulk at most 1048576: NARROWER than '..Said'. Prove '..Said' where nothing that the law and all that it calls make is longer than what came in: it says more and counts as full. Else prove '..UptoSaid'. A law counts once. -/
mutual
def uptoBulk {H : Type} : DataW H → Nat
  | .lit (.string bytes) => bytes.length + 1
  | .lit _ => 1
  | .nil => 1
  | .ptr d => uptoBulk d + 1
  | .slice elems spare => uptoBulkAll elems + uptoBulkAll spare + 1
  | .agg parts => uptoBulkAll parts + 1
  | .iface _ d => uptoBulk d + 1
  | .map entries => uptoBulkEntries entries + 1
  | .held _ => 1
def uptoBulkAll {H : Type} : List (DataW H) → Nat
  | [] => 0
  | d :: r => uptoBulk d + uptoBulkAll r
def uptoBulkEntries {H : Type} : List (Lit × DataW H) → Nat
  | [] => 0
  | x :: r => uptoBulkEntry x + uptoBulkEntries r
def uptoBulkEntry {H : Type} : Lit × DataW H → Nat
  | (.string bytes, d) => bytes.length + uptoBulk d + 1
  | (_, d) => uptoBulk d + 1
 end
def uptoSmall : (H : Type) → List (DataW H) → Bool := fun _ ds => decide (uptoBulkAll ds ≤ 1048576)
def OpenSpec.upto (s : _root_.Go.ChangeSpec) : _root_.Go.OpenSpec := { _root_.Go.OpenSpec.ofChange s with cond := some uptoSmall }

/-- 'gleanerlaw7.IdentDown', WHERE WHAT IT READS IS OF BULK AT MOST 1048576: true; the input reads as it did. -/
def identDownUptoRow : OpenClaim := { program := "ytbfekdgapcihmaa", sum := "ac059985d0ac9023e6b86b75b7ee769ea7701942ad7a31b929fc94da6931980f", func := "gleaner/gleanerlaw7.IdentDown", spec := "identDown", apart := false, narrowed := true }
def IdentDownUptoSaid : Prop := identDownUptoRow.holds Try.pinned (OpenSpec.upto identDownSpec)

/-- 'gleanerlaw7.IdentTells', WHERE WHAT IT READS IS OF BULK AT MOST 1048576: true; the input reads as it did. -/
def identTellsUptoRow : OpenClaim := { program := "ytbfekdgapcihmaa", sum := "ac059985d0ac9023e6b86b75b7ee769ea7701942ad7a31b929fc94da6931980f", func := "gleaner/gleanerlaw7.IdentTells", spec := "identTells", inPlace := ["internal/bytealg.IndexByteString"], apart := false, narrowed := true }
def IdentTellsUptoSaid : Prop := identTellsUptoRow.holds Try.pinned (OpenSpec.upto identTellsSpec)

/-- 'gleanerlaw7.IdentSorts', WHERE WHAT IT READS IS OF BULK AT MOST 1048576: true; the input reads as it did. -/
def identSortsUptoRow : OpenClaim := { program := "ytbfekdgapcihmaa", sum := "ac059985d0ac9023e6b86b75b7ee769ea7701942ad7a31b929fc94da6931980f", func := "gleaner/gleanerlaw7.IdentSorts", spec := "identSorts", recurses := true, apart := false, narrowed := true }
def IdentSortsUptoSaid : Prop := identSortsUptoRow.holds Try.pinned (OpenSpec.upto identSortsSpec)

/-- 'gleanerlaw7.IdentOrder', WHERE WHAT IT READS IS OF BULK AT MOST 1048576: true; the input reads as it did. -/
def identOrderUptoRow : OpenClaim := { program := "ytbfekdgapcihmaa", sum := "ac059985d0ac9023e6b86b75b7ee769ea7701942ad7a31b929fc94da6931980f", func := "gleaner/gleanerlaw7.IdentOrder", spec := "identOrder", recurses := true, apart := false, narrowed := true }
def IdentOrderUptoSaid : Prop := identOrderUptoRow.holds Try.pinned (OpenSpec.upto identOrderSpec)

end Rows
end Go.Proofs.Ytbfekdgapcihmaa
