/-
  move.Taker.In of an offer, as plain Lean.
-/
import Derived.Test.YtflaliomkfbagaaMvTaker
namespace Go.Proofs.Ytflaliomkfbagaa
open Go.RowKit
set_option linter.unusedVariables false
set_option linter.unusedSimpArgs false

/-- Does one take what was offered? -/
def tkYes (s : TkS) (ns : Nat) (n : Nt) : Bool := decide ((ns : Int) < s.room) && !s.has n.id
def tkKd (s : TkS) (ns : Nat) (n : Nt) (h : n.ok) : Int := match s.told (keyN n h) with | some v => v | none => if tkYes s ns n then 5 else 6
def tkS2 (s : TkS) (ns : Nat) (n : Nt) (h : n.ok) : TkS := match s.told (keyN n h) with | some _ => s | none => takeS s n h (if tkYes s ns n then 5 else 6)
def tkNs (s : TkS) (ns : Nat) (n : Nt) (h : n.ok) : Nat := match s.told (keyN n h) with | some _ => ns | none => if tkYes s ns n then ns + 1 else ns
def TkInPost (w : World) (F : Nat → Prop) (g sm tm ns nt : Nat) (s : TkS) (n : Nt) (hn : n.ok) (e : Ending) (w2 : World) : Prop :=
  e = .returned (.tuple #[.agg (NtC (ansN (tkKd s ns n hn) s.node n) none 0 0 none 0 0), .bool true]) ∧ (∃ nt2, nt2 ≤ nt + 1 ∧ Tk w2 F g sm tm (tkNs s ns n hn) nt2 (tkS2 s ns n hn)) ∧ Chg F w w2

end Go.Proofs.Ytflaliomkfbagaa
