/-
  No cell of these rows narrows 'for every input' (looked for: loops, veiled, ifaces, maps, wideKeys, modest, calm, conditions, laid).
  DERIVED. THE GIVEN ROWS OF THIS SEAT. 5 by the template 'for every input the law returns true; each argument reads behind the call as it read before'; 0 by the template 'total and deterministic' (their statements: YtflaliomkfbagaaTotals.lean).
  GIVEN WITH THE SEED: the statements are not yours to turn. If you find one false, say at which input.
  Laid BY PROGRAM, IN A SANDBOX (cutbox-rows.mjs): the forced cells as the released guide's own fill.sh prints them over the translation 9b3e978027c53dcd… (all of the seat's roots in one cut). By AI agents, Wed Nov 11 2026. No macro, syntax, notation, axiom, sorry.
-/
import Derived.Test.YtflaliomkfbagaaChecked
import GoSem.Claim
import GoSem.ClaimJoined
import GoSem.ClaimMapViews
import Derived.JoinedTies
import Derived.KernelRfl
namespace Go.Proofs.Ytflaliomkfbagaa
/- THE CELL 'sum', in the pinned program and in every row, IS THE sha256 OF THE DUMP (.gsa) THAT YtflaliomkfbagaaProg.lean LOADS. Nothing in Lean hashes anything: it is a label: what it is worth is what the hold of that sum in a sandbox is worth. -/
noncomputable def Try.pinned : Pinned := { name := "ytflaliomkfbagaa", sum := "9b3e978027c53dcd9b7ed1632c3623221f2c9cefad6f4ef5c7daf554da87d573", checked := Try.checked }
namespace Rows
def none {H : Type} : Left H := { results := [], args := [] }

/-- 'gleanerlaw21.MoveOnce': WHATEVER THE INPUT: true; the input reads as it did. -/
def moveOnceSpec : ChangeSpec := { name := "moveOnce", fn := fun _ => fun
  | [d1, d2, d3, d4] => { results := [.lit (.bool true)], args := [d1, d2, d3, d4] }
  | _ => none }
def moveOnceRow : OpenClaim := { program := "ytflaliomkfbagaa", sum := "9b3e978027c53dcd9b7ed1632c3623221f2c9cefad6f4ef5c7daf554da87d573", func := "gleaner/gleanerlaw21.MoveOnce", spec := "moveOnce", unfollowed := true, recurses := true, plainKeys := false, apart := false }
def MoveOnceSaid : Prop := moveOnceRow.holds Try.pinned (OpenSpec.ofChange moveOnceSpec)

/-- ITS FALSE NEIGHBOUR: 'it returns false'. Refute it at one input. -/
def moveOnceWrong : ChangeSpec := { name := "moveOnce", fn := fun _ => fun
  | [d1, d2, d3, d4] => { results := [.lit (.bool false)], args := [d1, d2, d3, d4] }
  | _ => none }
def MoveOnceWrongFalsely : Prop := moveOnceRow.holds Try.pinned (OpenSpec.ofChange moveOnceWrong)

/-- 'gleanerlaw21.MoveAll': WHATEVER THE INPUT: true; the input reads as it did. -/
def moveAllSpec : ChangeSpec := { name := "moveAll", fn := fun _ => fun
  | [d1, d2, d3] => { results := [.lit (.bool true)], args := [d1, d2, d3] }
  | _ => none }
def moveAllRow : OpenClaim := { program := "ytflaliomkfbagaa", sum := "9b3e978027c53dcd9b7ed1632c3623221f2c9cefad6f4ef5c7daf554da87d573", func := "gleaner/gleanerlaw21.MoveAll", spec := "moveAll", unfollowed := true, recurses := true, plainKeys := false, apart := false }
def MoveAllSaid : Prop := moveAllRow.holds Try.pinned (OpenSpec.ofChange moveAllSpec)

/-- ITS FALSE NEIGHBOUR: 'it returns false'. Refute it at one input. -/
def moveAllWrong : ChangeSpec := { name := "moveAll", fn := fun _ => fun
  | [d1, d2, d3] => { results := [.lit (.bool false)], args := [d1, d2, d3] }
  | _ => none }
def MoveAllWrongFalsely : Prop := moveAllRow.holds Try.pinned (OpenSpec.ofChange moveAllWrong)

/-- 'gleanerlaw21.MoveNumbers': WHATEVER THE INPUT: true; the input reads as it did. -/
def moveNumbersSpec : ChangeSpec := { name := "moveNumbers", fn := fun _ => fun
  | [d] => { results := [.lit (.bool true)], args := [d] }
  | _ => none }
def moveNumbersRow : OpenClaim := { program := "ytflaliomkfbagaa", sum := "9b3e978027c53dcd9b7ed1632c3623221f2c9cefad6f4ef5c7daf554da87d573", func := "gleaner/gleanerlaw21.MoveNumbers", spec := "moveNumbers", unfollowed := true, recurses := true, plainKeys := false, apart := false }
def MoveNumbersSaid : Prop := moveNumbersRow.holds Try.pinned (OpenSpec.ofChange moveNumbersSpec)

/-- ITS FALSE NEIGHBOUR: 'it returns false'. Refute it at one input. -/
def moveNumbersWrong : ChangeSpec := { name := "moveNumbers", fn := fun _ => fun
  | [d] => { results := [.lit (.bool false)], args := [d] }
  | _ => none }
def MoveNumbersWrongFalsely : Prop := moveNumbersRow.holds Try.pinned (OpenSpec.ofChange moveNumbersWrong)

/-- 'gleanerlaw21.MoveGone': WHATEVER THE INPUT: true; the input reads as it did. -/
def moveGoneSpec : ChangeSpec := { name := "moveGone", fn := fun _ => fun
  | [d1, d2] => { results := [.lit (.bool true)], args := [d1, d2] }
  | _ => none }
def moveGoneRow : OpenClaim := { program := "ytflaliomkfbagaa", sum := "9b3e978027c53dcd9b7ed1632c3623221f2c9cefad6f4ef5c7daf554da87d573", func := "gleaner/gleanerlaw21.MoveGone", spec := "moveGone", unfollowed := true, recurses := true, plainKeys := false, apart := false }
def MoveGoneSaid : Prop := moveGoneRow.holds Try.pinned (OpenSpec.ofChange moveGoneSpec)

/-- ITS FALSE NEIGHBOUR: 'it returns false'. Refute it at one input. -/
def moveGoneWrong : ChangeSpec := { name := "moveGone", fn := fun _ => fun
  | [d1, d2] => { results := [.lit (.bool false)], args := [d1, d2] }
  | _ => none }
def MoveGoneWrongFalsely : Prop := moveGoneRow.holds Try.pinned (OpenSpec.ofChange moveGoneWrong)

/-- 'gleanerlaw21.MovePlays': WHATEVER THE INPUT: true; the input reads as it did. -/
def movePlaysSpec : ChangeSpec := { name := "movePlays", fn := fun _ => fun
  | [d1, d2, d3] => { results := [.lit (.bool true)], args := [d1, d2, d3] }
  | _ => none }
def movePlaysRow : OpenClaim := { program := "ytflaliomkfbagaa", sum := "9b3e978027c53dcd9b7ed1632c3623221f2c9cefad6f4ef5c7daf554da87d573", func := "gleaner/gleanerlaw21.MovePlays", spec := "movePlays", unfollowed := true, recurses := true, plainKeys := false, apart := false }
def MovePlaysSaid : Prop := movePlaysRow.holds Try.pinned (OpenSpec.ofChange movePlaysSpec)

/-- ITS FALSE NEIGHBOUR: 'it returns false'. Refute it at one input. -/
def movePlaysWrong : ChangeSpec := { name := "movePlays", fn := fun _ => fun
  | [d1, d2, d3] => { results := [.lit (.bool false)], args := [d1, d2, d3] }
  | _ => none }
def MovePlaysWrongFalsely : Prop := movePlaysRow.holds Try.pinned (OpenSpec.ofChange movePlaysWrong)

/- THE SECOND FORM. 'bulk': how many values and letters a reading holds, each counted each time it is reached (what is shared counts as often as it is met; a slice's spare places count too). A statement '..UptoSaid' is the law's where the arguments, and the package variables that the reading takes, are together of bulk at most 1048576: NARROWER than '..Said'. Prove '..Said' where nothing that the law and all that it calls make is longer than what came in: it says more and counts as full. Else prove '..UptoSaid'. A law counts once. -/
mutual
def uptoBulk {H : Type} : DataW H → Nat
  | .lit (.string bytes) => bytes.length + 1
  | .lit _ => 1
  | .nil => 1
  | .ptr d => uptoBulk d + 1
  | .slice elems spare => uptoBulkAll elems + uptoBulkAll spare + 1
  | .agg parts => uptoBulkAll parts + 1
  | .iface _ d => uptoBulk d + 1
  | .map entries => uptoBulkEntries entries + 1
  | .held _ => 1
def uptoBulkAll {H : Type} : List (DataW H) → Nat
  | [] => 0
  | d :: r => uptoBulk d + uptoBulkAll r
def uptoBulkEntries {H : Type} : List (Lit × DataW H) → Nat
  | [] => 0
  | x :: r => uptoBulkEntry x + uptoBulkEntries r
def uptoBulkEntry {H : Type} : Lit × DataW H → Nat
  | (.string bytes, d) => bytes.length + uptoBulk d + 1
  | (_, d) => uptoBulk d + 1
 end
def uptoSmall : (H : Type) → List (DataW H) → Bool := fun _ ds => decide (uptoBulkAll ds ≤ 1048576)
def OpenSpec.upto (s : _root_.Go.ChangeSpec) : _root_.Go.OpenSpec := { _root_.Go.OpenSpec.ofChange s with cond := some uptoSmall }

/-- 'gleanerlaw21.MoveOnce', WHERE WHAT IT READS IS OF BULK AT MOST 1048576: true; the input reads as it did. -/
def moveOnceUptoRow : OpenClaim := { program := "ytflaliomkfbagaa", sum := "9b3e978027c53dcd9b7ed1632c3623221f2c9cefad6f4ef5c7daf554da87d573", func := "gleaner/gleanerlaw21.MoveOnce", spec := "moveOnce", unfollowed := true, recurses := true, plainKeys := false, apart := false, narrowed := true }
def MoveOnceUptoSaid : Prop := moveOnceUptoRow.holds Try.pinned (OpenSpec.upto moveOnceSpec)

/-- 'gleanerlaw21.MoveAll', WHERE WHAT IT READS IS OF BULK AT MOST 1048576: true; the input reads as it did. -/
def moveAllUptoRow : OpenClaim := { program := "ytflaliomkfbagaa", sum := "9b3e978027c53dcd9b7ed1632c3623221f2c9cefad6f4ef5c7daf554da87d573", func := "gleaner/gleanerlaw21.MoveAll", spec := "moveAll", unfollowed := true, recurses := true, plainKeys := false, apart := false, narrowed := true }
def MoveAllUptoSaid : Prop := moveAllUptoRow.holds Try.pinned (OpenSpec.upto moveAllSpec)

/-- 'gleanerlaw21.MoveNumbers', WHERE WHAT IT READS IS OF BULK AT MOST 1048576: true; the input reads as it did. -/
def moveNumbersUptoRow : OpenClaim := { program := "ytflaliomkfbagaa", sum := "9b3e978027c53dcd9b7ed1632c3623221f2c9cefad6f4ef5c7daf554da87d573", func := "gleaner/gleanerlaw21.MoveNumbers", spec := "moveNumbers", unfollowed := true, recurses := true, plainKeys := false, apart := false, narrowed := true }
def MoveNumbersUptoSaid : Prop := moveNumbersUptoRow.holds Try.pinned (OpenSpec.upto moveNumbersSpec)

/-- 'gleanerlaw21.MoveGone', WHERE WHAT IT READS IS OF BULK AT MOST 1048576: true; the input reads as it did. -/
def moveGoneUptoRow : OpenClaim := { program := "ytflaliomkfbagaa", sum := "9b3e978027c53dcd9b7ed1632c3623221f2c9cefad6f4ef5c7daf554da87d573", func := "gleaner/gleanerlaw21.MoveGone", spec := "moveGone", unfollowed := true, recurses := true, plainKeys := false, apart := false, narrowed := true }
def MoveGoneUptoSaid : Prop := moveGoneUptoRow.holds Try.pinned (OpenSpec.upto moveGoneSpec)

/-- 'gleanerlaw21.MovePlays', WHERE WHAT IT READS IS OF BULK AT MOST 1048576: true; the input reads as it did. -/
def movePlaysUptoRow : OpenClaim := { program := "ytflaliomkfbagaa", sum := "9b3e978027c53dcd9b7ed1632c3623221f2c9cefad6f4ef5c7daf554da87d573", func := "gleaner/gleanerlaw21.MovePlays", spec := "movePlays", unfollowed := true, recurses := true, plainKeys := false, apart := false, narrowed := true }
def MovePlaysUptoSaid : Prop := movePlaysUptoRow.holds Try.pinned (OpenSpec.upto movePlaysSpec)

end Rows
end Go.Proofs.Ytflaliomkfbagaa
