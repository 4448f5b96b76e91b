/-
  Keys that are offers' names (structs of a name and two numbers).
-/
import Derived.Test.YtflaliomkfbagaaMv
import Derived.DeepKeys5
import Derived.Maps.Keyed
namespace Go.Proofs.Ytflaliomkfbagaa
open Go.RowKit
set_option linter.unusedVariables false
set_option linter.unusedSimpArgs false

abbrev OK3 := { x : ByteArray × Int × Int // x.1.size ≤ maxLen ∧ (Lit.int .i64 x.2.1).wf = true ∧ (Lit.int .i64 x.2.2).wf = true }
def k3V (x : OK3) : Value := .agg #[.string x.1.1, .int .i64 x.1.2.1, .int .i64 x.1.2.2]
theorem k3_laid : laidOutB Try.prog = true := by kernel_rfl
theorem k3_row : (107 : TypeId) < Try.prog.types.size := of_decide_eq_true (by kernel_rfl)
theorem k3_wide : (match Try.prog.underlying 107 with | some (.array _ _) | some (.struct _) => true | _ => false) = true := by kernel_rfl
theorem k3_deep : Try.prog.keyTypeAt 3 107 = true := by kernel_rfl
set_option maxRecDepth 100000 in
theorem k3_keyed : Maps.Keyed Try.prog 107 := Maps.Keyed.of_law (deep_law_laid k3_laid (m := 3) (by omega) k3_row k3_deep k3_wide)
theorem k3_type : Try.prog.keyType 107 = true := by kernel_rfl
set_option maxRecDepth 10000 in
theorem k3_some (x : OK3) : ∃ l, keyOf Try.prog 107 (k3V x) = some l := by
  obtain ⟨⟨a, b, c⟩, h1, h2, h3⟩ := x
  have u1 := Try.underlying107
  have u2 := Try.underlying33
  have u3 := Try.underlying3
  have c1 : Try.prog.cellsOf 107 = 3 := by kernel_rfl
  have c2 : Try.prog.cellsOf 33 = 1 := by kernel_rfl
  have c3 : Try.prog.cellsOf 3 = 1 := by kernel_rfl
  have ht := k3_type
  obtain ⟨m, hm⟩ : ∃ m, Try.prog.types.size = m + 1 := ⟨Try.prog.types.size - 1, (Nat.succ_pred_eq_of_pos (Nat.lt_of_le_of_lt (Nat.zero_le _) k3_row)).symm⟩
  have hf : (k3V ⟨(a, b, c), h1, h2, h3⟩).formed Try.prog 107 = true := by
    unfold k3V
    simp [Value.formed, u1, c1]
  have hl : ∃ ls, Try.prog.keyLits (Try.prog.types.size + 1) 107 (k3V ⟨(a, b, c), h1, h2, h3⟩).cells.toList = some ls := by
    rw [hm]
    simp only at h1 h2 h3
    simp [Program.keyLits, k3V, Value.cells, u1, u2, u3, c1, c2, c3, h1, h2, h3]
  obtain ⟨ls, hl⟩ := hl
  refine ⟨.string (keyBytes ls), ?_⟩
  unfold keyOf
  rw [u1]
  dsimp only
  rw [ht, hf, hl]
  rfl
noncomputable def k3Key : KeyKind Try.prog 107 OK3 where
  val := k3V
  lit x := (k3_some x).choose
  ok _ := True
  keyed := k3_keyed
  is x _ := (k3_some x).choose_spec
  inj {x y} h := by
    have hx := (k3_some x).choose_spec
    have hy := (k3_some y).choose_spec
    rw [h] at hx
    have e := k3_keyed.inj hx hy
    obtain ⟨⟨a, b, c⟩, _⟩ := x
    obtain ⟨⟨a2, b2, c2⟩, _⟩ := y
    simp [k3V] at e
    obtain ⟨rfl, rfl, rfl⟩ := e
    rfl
end Go.Proofs.Ytflaliomkfbagaa
