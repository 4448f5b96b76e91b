/-
  No cell of these rows narrows 'for every input' (looked for: loops, veiled, ifaces, maps, wideKeys, modest, calm, conditions, laid).
  DERIVED. THE GIVEN ROWS OF THIS SEAT. 5 by the template 'for every input the law returns true; each argument reads behind the call as it read before'; 0 by the template 'total and deterministic' (their statements: YtojlglkefiddnaaTotals.lean).
  GIVEN WITH THE SEED: the statements are not yours to turn. If you find one false, say at which input.
  Laid BY PROGRAM, IN A SANDBOX (cutbox-rows.mjs): the forced cells as the released guide's own fill.sh prints them over the translation 09c2680378aa0747… (all of the seat's roots in one cut). By AI agents, Wed Nov 11 2026. No macro, syntax, notation, axiom, sorry.
-/
import Derived.Test.YtojlglkefiddnaaChecked
import GoSem.Claim
import GoSem.ClaimJoined
import GoSem.ClaimMapViews
import Derived.JoinedTies
import Derived.KernelRfl
namespace Go.Proofs.Ytojlglkefiddnaa
/- THE CELL 'sum', in the pinned program and in every row, IS THE sha256 OF THE DUMP (.gsa) THAT YtojlglkefiddnaaProg.lean LOADS. Nothing in Lean hashes anything: it is a label: what it is worth is what the hold of that sum in a sandbox is worth. -/
noncomputable def Try.pinned : Pinned := { name := "ytojlglkefiddnaa", sum := "09c2680378aa07474ef1e7910043404ae808c05e979a13c06571c63f971b30ab", checked := Try.checked }
namespace Rows
def none {H : Type} : Left H := { results := [], args := [] }

/-- 'gleanerlaw18.ViewGoes': WHATEVER THE INPUT: true; the input reads as it did. -/
def viewGoesSpec : ChangeSpec := { name := "viewGoes", fn := fun _ => fun
  | [d1, d2] => { results := [.lit (.bool true)], args := [d1, d2] }
  | _ => none }
def viewGoesRow : OpenClaim := { program := "ytojlglkefiddnaa", sum := "09c2680378aa07474ef1e7910043404ae808c05e979a13c06571c63f971b30ab", func := "gleaner/gleanerlaw18.ViewGoes", spec := "viewGoes", unfollowed := true, recurses := true, apart := false }
def ViewGoesSaid : Prop := viewGoesRow.holds Try.pinned (OpenSpec.ofChange viewGoesSpec)

/-- ITS FALSE NEIGHBOUR: 'it returns false'. Refute it at one input. -/
def viewGoesWrong : ChangeSpec := { name := "viewGoes", fn := fun _ => fun
  | [d1, d2] => { results := [.lit (.bool false)], args := [d1, d2] }
  | _ => none }
def ViewGoesWrongFalsely : Prop := viewGoesRow.holds Try.pinned (OpenSpec.ofChange viewGoesWrong)

/-- 'gleanerlaw18.ViewNewest': WHATEVER THE INPUT: true; the input reads as it did. -/
def viewNewestSpec : ChangeSpec := { name := "viewNewest", fn := fun _ => fun
  | [d] => { results := [.lit (.bool true)], args := [d] }
  | _ => none }
def viewNewestRow : OpenClaim := { program := "ytojlglkefiddnaa", sum := "09c2680378aa07474ef1e7910043404ae808c05e979a13c06571c63f971b30ab", func := "gleaner/gleanerlaw18.ViewNewest", spec := "viewNewest", unfollowed := true, recurses := true, apart := false }
def ViewNewestSaid : Prop := viewNewestRow.holds Try.pinned (OpenSpec.ofChange viewNewestSpec)

/-- ITS FALSE NEIGHBOUR: 'it returns false'. Refute it at one input. -/
def viewNewestWrong : ChangeSpec := { name := "viewNewest", fn := fun _ => fun
  | [d] => { results := [.lit (.bool false)], args := [d] }
  | _ => none }
def ViewNewestWrongFalsely : Prop := viewNewestRow.holds Try.pinned (OpenSpec.ofChange viewNewestWrong)

/-- 'gleanerlaw18.ViewLast': WHATEVER THE INPUT: true; the input reads as it did. -/
def viewLastSpec : ChangeSpec := { name := "viewLast", fn := fun _ => fun
  | [d] => { results := [.lit (.bool true)], args := [d] }
  | _ => none }
def viewLastRow : OpenClaim := { program := "ytojlglkefiddnaa", sum := "09c2680378aa07474ef1e7910043404ae808c05e979a13c06571c63f971b30ab", func := "gleaner/gleanerlaw18.ViewLast", spec := "viewLast", unfollowed := true, recurses := true, apart := false }
def ViewLastSaid : Prop := viewLastRow.holds Try.pinned (OpenSpec.ofChange viewLastSpec)

/-- ITS FALSE NEIGHBOUR: 'it returns false'. Refute it at one input. -/
def viewLastWrong : ChangeSpec := { name := "viewLast", fn := fun _ => fun
  | [d] => { results := [.lit (.bool false)], args := [d] }
  | _ => none }
def ViewLastWrongFalsely : Prop := viewLastRow.holds Try.pinned (OpenSpec.ofChange viewLastWrong)

/-- 'gleanerlaw18.ViewTells': WHATEVER THE INPUT: true; the input reads as it did. -/
def viewTellsSpec : ChangeSpec := { name := "viewTells", fn := fun _ => fun
  | [d1, d2, d3, d4, d5] => { results := [.lit (.bool true)], args := [d1, d2, d3, d4, d5] }
  | _ => none }
def viewTellsRow : OpenClaim := { program := "ytojlglkefiddnaa", sum := "09c2680378aa07474ef1e7910043404ae808c05e979a13c06571c63f971b30ab", func := "gleaner/gleanerlaw18.ViewTells", spec := "viewTells", unfollowed := true, recurses := true, apart := false }
def ViewTellsSaid : Prop := viewTellsRow.holds Try.pinned (OpenSpec.ofChange viewTellsSpec)

/-- ITS FALSE NEIGHBOUR: 'it returns false'. Refute it at one input. -/
def viewTellsWrong : ChangeSpec := { name := "viewTells", fn := fun _ => fun
  | [d1, d2, d3, d4, d5] => { results := [.lit (.bool false)], args := [d1, d2, d3, d4, d5] }
  | _ => none }
def ViewTellsWrongFalsely : Prop := viewTellsRow.holds Try.pinned (OpenSpec.ofChange viewTellsWrong)

/-- 'gleanerlaw18.ViewBack': WHATEVER THE INPUT: true; the input reads as it did. -/
def viewBackSpec : ChangeSpec := { name := "viewBack", fn := fun _ => fun
  | [d1, d2, d3] => { results := [.lit (.bool true)], args := [d1, d2, d3] }
  | _ => none }
def viewBackRow : OpenClaim := { program := "ytojlglkefiddnaa", sum := "09c2680378aa07474ef1e7910043404ae808c05e979a13c06571c63f971b30ab", func := "gleaner/gleanerlaw18.ViewBack", spec := "viewBack", unfollowed := true, recurses := true, apart := false }
def ViewBackSaid : Prop := viewBackRow.holds Try.pinned (OpenSpec.ofChange viewBackSpec)

/-- ITS FALSE NEIGHBOUR: 'it returns false'. Refute it at one input. -/
def viewBackWrong : ChangeSpec := { name := "viewBack", fn := fun _ => fun
  | [d1, d2, d3] => { results := [.lit (.bool false)], args := [d1, d2, d3] }
  | _ => none }
def ViewBackWrongFalsely : Prop := viewBackRow.holds Try.pinned (OpenSpec.ofChange viewBackWrong)

/- THE SECOND FORM. 'bulk': how many values and letters a reading holds, each counted each time it is reached (what is shared counts as often as it is met; a slice's spare places count too). A statement '..UptoSaid' is the law's where the arguments, and the package variables that the reading takes, are together of bulk at most 1048576: NARROWER than '..Said'. Prove '..Said' where nothing that the law and all that it calls make is longer than what came in: it says more and counts as full. Else prove '..UptoSaid'. A law counts once. -/
mutual
def uptoBulk {H : Type} : DataW H → Nat
  | .lit (.string bytes) => bytes.length + 1
  | .lit _ => 1
  | .nil => 1
  | .ptr d => uptoBulk d + 1
  | .slice elems spare => uptoBulkAll elems + uptoBulkAll spare + 1
  | .agg parts => uptoBulkAll parts + 1
  | .iface _ d => uptoBulk d + 1
  | .map entries => uptoBulkEntries entries + 1
  | .held _ => 1
def uptoBulkAll {H : Type} : List (DataW H) → Nat
  | [] => 0
  | d :: r => uptoBulk d + uptoBulkAll r
def uptoBulkEntries {H : Type} : List (Lit × DataW H) → Nat
  | [] => 0
  | x :: r => uptoBulkEntry x + uptoBulkEntries r
def uptoBulkEntry {H : Type} : Lit × DataW H → Nat
  | (.string bytes, d) => bytes.length + uptoBulk d + 1
  | (_, d) => uptoBulk d + 1
 end
def uptoSmall : (H : Type) → List (DataW H) → Bool := fun _ ds => decide (uptoBulkAll ds ≤ 1048576)
def OpenSpec.upto (s : _root_.Go.ChangeSpec) : _root_.Go.OpenSpec := { _root_.Go.OpenSpec.ofChange s with cond := some uptoSmall }

/-- 'gleanerlaw18.ViewGoes', WHERE WHAT IT READS IS OF BULK AT MOST 1048576: true; the input reads as it did. -/
def viewGoesUptoRow : OpenClaim := { program := "ytojlglkefiddnaa", sum := "09c2680378aa07474ef1e7910043404ae808c05e979a13c06571c63f971b30ab", func := "gleaner/gleanerlaw18.ViewGoes", spec := "viewGoes", unfollowed := true, recurses := true, apart := false, narrowed := true }
def ViewGoesUptoSaid : Prop := viewGoesUptoRow.holds Try.pinned (OpenSpec.upto viewGoesSpec)

/-- 'gleanerlaw18.ViewNewest', WHERE WHAT IT READS IS OF BULK AT MOST 1048576: true; the input reads as it did. -/
def viewNewestUptoRow : OpenClaim := { program := "ytojlglkefiddnaa", sum := "09c2680378aa07474ef1e7910043404ae808c05e979a13c06571c63f971b30ab", func := "gleaner/gleanerlaw18.ViewNewest", spec := "viewNewest", unfollowed := true, recurses := true, apart := false, narrowed := true }
def ViewNewestUptoSaid : Prop := viewNewestUptoRow.holds Try.pinned (OpenSpec.upto viewNewestSpec)

/-- 'gleanerlaw18.ViewLast', WHERE WHAT IT READS IS OF BULK AT MOST 1048576: true; the input reads as it did. -/
def viewLastUptoRow : OpenClaim := { program := "ytojlglkefiddnaa", sum := "09c2680378aa07474ef1e7910043404ae808c05e979a13c06571c63f971b30ab", func := "gleaner/gleanerlaw18.ViewLast", spec := "viewLast", unfollowed := true, recurses := true, apart := false, narrowed := true }
def ViewLastUptoSaid : Prop := viewLastUptoRow.holds Try.pinned (OpenSpec.upto viewLastSpec)

/-- 'gleanerlaw18.ViewTells', WHERE WHAT IT READS IS OF BULK AT MOST 1048576: true; the input reads as it did. -/
def viewTellsUptoRow : OpenClaim := { program := "ytojlglkefiddnaa", sum := "09c2680378aa07474ef1e7910043404ae808c05e979a13c06571c63f971b30ab", func := "gleaner/gleanerlaw18.ViewTells", spec := "viewTells", unfollowed := true, recurses := true, apart := false, narrowed := true }
def ViewTellsUptoSaid : Prop := viewTellsUptoRow.holds Try.pinned (OpenSpec.upto viewTellsSpec)

/-- 'gleanerlaw18.ViewBack', WHERE WHAT IT READS IS OF BULK AT MOST 1048576: true; the input reads as it did. -/
def viewBackUptoRow : OpenClaim := { program := "ytojlglkefiddnaa", sum := "09c2680378aa07474ef1e7910043404ae808c05e979a13c06571c63f971b30ab", func := "gleaner/gleanerlaw18.ViewBack", spec := "viewBack", unfollowed := true, recurses := true, apart := false, narrowed := true }
def ViewBackUptoSaid : Prop := viewBackUptoRow.holds Try.pinned (OpenSpec.upto viewBackSpec)

end Rows
end Go.Proofs.Ytojlglkefiddnaa
