/-
  Rows of commits: api.Commit; gleanerref4.SameResult.
-/
import Derived.Test.YteinbdifncdaiaaRows
import Derived.Test.YteinbdifncdaiaaFlat
import Derived.Test.YteinbdifncdaiaaRow
import Derived.Test.YteinbdifncdaiaaLaw
namespace Go.Proofs.Yteinbdifncdaiaa
open Go.RowKit
set_option linter.unusedVariables false
set_option linter.unusedSimpArgs false

abbrev rkC : RowKind Try.prog where
  t := 25
  e := 34
  z := .agg #[.string ⟨#[]⟩, .int .i64 0, .int .i64 0]
  size := 3
  bytes := 32
  ht := Try.underlying25
  info := by kernel_rfl
  hz := rfl
  hs := by decide
  hb := by decide

/-- A commit: a name, an error, a value. -/
abbrev Cm := ByteArray × Int × Int
def cellC (c : Cm) : List Value := [.string c.1, .int .i64 c.2.1, .int .i64 c.2.2]
def cv (T : List Cm) : List Value := T.flatMap cellC
theorem cellC_len (c : Cm) : (cellC c).length = 3 := rfl
theorem cellC_one (c : Cm) : ∀ u ∈ cellC c, u.oneCell' = true := by
  intro u hu
  simp only [cellC, List.mem_cons, List.not_mem_nil, or_false] at hu
  rcases hu with rfl | rfl | rfl <;> rfl
theorem cv_one (T : List Cm) : ∀ u ∈ cv T, u.oneCell' = true := flat_one cellC_one T
theorem cv_snoc (T : List Cm) (c : Cm) : cv (T ++ [c]) = cv T ++ cellC c := flat_snoc _ _ _

theorem sameRes_any (a b c d : Int) (w : World) :
    Calls Try.prog 23 #[.agg #[.int .i64 a, .int .i64 b], .agg #[.int .i64 c, .int .i64 d]] w fun e w2 => e = .returned (.bool (decide (a = c) && decide (b = d))) ∧ Chg Non w w2 := by
  have hC : Chg Non w ((w.alloc (.cells #[.int .i64 a, .int .i64 b] 30)).alloc (.cells #[.int .i64 c, .int .i64 d] 30)) := ((Chg.refl _ _).alloc _).alloc _
  by_cases h1 : a = c
  · subst h1
    by_cases h2 : b = d
    · subst h2
      go_enter Try.func23, Try.ntmps23
      go_wp2_with fail
      go_ret
      exact ⟨by simp, hC⟩
    · have e2 : (b == d) = false := beq_eq_false_iff_ne.2 h2
      have H2 := Lib.hid h2
      clear h2
      go_enter Try.func23, Try.ntmps23
      go_wp2_with fail
      go_ret
      exact ⟨by simp [H2.out], hC⟩
  · have e1 : (a == c) = false := beq_eq_false_iff_ne.2 h1
    have H1 := Lib.hid h1
    clear h1
    go_enter Try.func23, Try.ntmps23
    go_wp2_with fail
    go_ret
    exact ⟨by simp [H1.out], hC⟩

end Go.Proofs.Yteinbdifncdaiaa
