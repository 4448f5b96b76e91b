/-
  gleanerref14.With, whole.
-/
import Derived.Test.YtojlglkefiddnaaViewRefWithNo
import Derived.Test.YtojlglkefiddnaaViewRefWithLast
import Derived.Test.YtojlglkefiddnaaViewRefWithYes
namespace Go.Proofs.Ytojlglkefiddnaa
open Go.RowKit
set_option linter.unusedVariables false
set_option linter.unusedSimpArgs false

theorem refWith_any (w : World) (ep : Int) (A : Option Addr) (n c : Nat) (L : List Mb) (x life : Int) (h1 : Rds w 2 A n (mv L)) (hn : n ≤ 1000000000) :
    Calls Try.prog 21 #[.agg #[.int .i64 ep, .slice A n c], .int .i64 x, .int .i64 life] w (VwR w (withV ep L x life).1 (withV ep L x life).2 (withE ep L x life)) := by
  rcases withE_ways ep L x life with ⟨hr, hways⟩ | ⟨hy, hh, t1, t2, t3, t4, ⟨hep, hr⟩ | ⟨hep, hr⟩⟩
  · have hv : withV ep L x life = (0, []) := by unfold withV; rw [hr]; rfl
    rw [hv, hr]
    exact refWith_no w ep A n c L x life h1 hn hways
  · have hv : withV ep L x life = (0, []) := by unfold withV; rw [hr]; rfl
    rw [hv, hr]
    exact refWith_last w ep A n c L x life h1 hn hy hh t1 t2 t3 t4 hep
  · have hv : withV ep L x life = (ep + 1, insM (x, life) L) := by unfold withV; rw [hr]; rfl
    rw [hv, hr]
    exact refWith_yes w ep A n c L x life h1 hn hy hh t1 t2 t3 t4 hep
end Go.Proofs.Ytojlglkefiddnaa
