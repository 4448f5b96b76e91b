/-
  gleanerlaw29.TraceWrong: the walk.
-/
import Derived.Test.YteinbdifncdaiaaTraceWrongB
namespace Go.Proofs.Yteinbdifncdaiaa
open Go.RowKit
set_option linter.unusedVariables false
set_option linter.unusedSimpArgs false

set_option maxRecDepth 100000 in
theorem traceWrong_walk (w : World) (kids : Int) (hk : i64 kids) (x : Int) (hx : i64 x) (m : Int) (hm : i64 m) :
    Calls Try.prog 3 #[.int .i64 kids, .int .i64 x, .int .i64 m] w fun e w2 => e = .returned (.bool true) ∧ Chg Non w w2 := by
  by_cases h : 2 ≤ kids ∧ kids ≤ 16 ∧ 0 ≤ m ∧ m < kids
  · obtain ⟨h1, h2, h3, h4⟩ := h
    obtain ⟨K, rfl⟩ : ∃ K : Nat, kids = K := ⟨kids.toNat, by omega⟩
    obtain ⟨M, rfl⟩ : ∃ M : Nat, m = M := ⟨m.toNat, by omega⟩
    have hp : x = 0 ∨ x = 1 ∨ x = 2 ∨ x = 3 ∨ x = 4 ∨ x = 5 ∨ x = 6 ∨ (x < 0 ∨ 6 < x) := by omega
    rcases hp with rfl | rfl | rfl | rfl | rfl | rfl | rfl | hx2
    · exact traceWrong_c0 w K M (by omega) (by omega) (by omega)
    · exact traceWrong_c1 w K M (by omega) (by omega) (by omega)
    · exact traceWrong_c2 w K M (by omega) (by omega) (by omega)
    · exact traceWrong_c3 w K M (by omega) (by omega) (by omega)
    · exact traceWrong_c4 w K M (by omega) (by omega) (by omega)
    · exact traceWrong_c5 w K M (by omega) (by omega) (by omega)
    · exact traceWrong_c6 w K M (by omega) (by omega) (by omega)
    · exact traceWrong_no w K M x (by omega) (by omega) (by omega) hx2
  · have hp : kids < 2 ∨ (2 ≤ kids ∧ 16 < kids) ∨ (2 ≤ kids ∧ kids ≤ 16 ∧ m < 0) ∨ (2 ≤ kids ∧ kids ≤ 16 ∧ 0 ≤ m ∧ kids ≤ m) := by omega
    clear h hk hx hm
    rcases hp with h1 | ⟨h1, h2⟩ | ⟨h1, h2, h3⟩ | ⟨h1, h2, h3, h4⟩
    all_goals
      go_enter Try.func3, Try.ntmps3
      go_wp2_with fail
      refine (trace_alive _).mono ?_
      rintro e w1 ⟨rfl, hc1⟩
      go_wp2_with fail
      go_ret
      exact ⟨rfl, hc1⟩
end Go.Proofs.Yteinbdifncdaiaa
