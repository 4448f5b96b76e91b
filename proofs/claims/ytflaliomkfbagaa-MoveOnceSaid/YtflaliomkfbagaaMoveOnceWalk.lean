/-
  gleanerlaw21.MoveOnce: the walk.
-/
import Derived.Test.YtflaliomkfbagaaOnceCore
import Derived.Test.YtflaliomkfbagaaRdRows
namespace Go.Proofs.Ytflaliomkfbagaa
open Go.RowKit
set_option linter.unusedVariables false

theorem Rd.turn {w : World} {l : List Value} (h : Rd Try.prog w 41 l) (hl : l.length = 3) : ∃ a : Int × Int × Int, l = trC a ∧ True := by
  obtain ⟨_, hg⟩ := h.struct Try.underlying41 (by kernel_rfl)
  match l, hl, hg with
  | [a, b, c], _, hg =>
    obtain ⟨x0, h0, _⟩ := (hg 0 _ rfl a rfl).i64 Try.underlying3
    obtain ⟨x1, h1, _⟩ := (hg 1 _ rfl b rfl).i64 Try.underlying3
    obtain ⟨x2, h2, _⟩ := (hg 2 _ rfl c rfl).i64 Try.underlying3
    simp only [List.cons.injEq, and_true] at h0 h1 h2
    subst h0 h1 h2
    exact ⟨(x0, x1, x2), rfl, trivial⟩
theorem moveOnce_walk (w : World) (tasks : Int) (hi : i64 tasks) (takers : Int) (hi2 : i64 takers) (room : Int) (hi3 : i64 room) (A : Option Addr) (n c : Nat) (e0 : Rd Try.prog w 22 (Value.slice A n c).cells.toList) :
    Calls Try.prog 3 #[.int .i64 tasks, .int .i64 takers, .int .i64 room, .slice A n c] w fun e w2 => e = .returned (.bool true) ∧ Chg Non w w2 := by
  obtain ⟨A2', n2', c2', l, g1, g2, g3, g4, _⟩ := e0.rows Try.underlying22 (by kernel_rfl) trC_len fun l hl hr => hr.turn hl
  simp only [Value.cells, List.cons.injEq, and_true, Value.slice.injEq] at g1
  obtain ⟨rfl, rfl, rfl⟩ := g1
  by_cases h : 1 ≤ tasks ∧ tasks ≤ 16 ∧ 1 ≤ takers ∧ takers ≤ 10 ∧ n ≤ 300
  · obtain ⟨h1, h2, h3, h4, h5⟩ := h
    obtain ⟨T, rfl⟩ : ∃ T : Nat, tasks = (T : Int) := ⟨tasks.toNat, by omega⟩
    obtain ⟨N, rfl⟩ : ∃ N : Nat, takers = (N : Int) := ⟨takers.toNat, by omega⟩
    exact moveOnce_core w T N room A n c l g4 (by omega) (by omega) (by omega) (by omega) h5
  · exact moveOnce_much w tasks takers room A n c (by omega)
end Go.Proofs.Ytflaliomkfbagaa
