/-
  What a cursor's calls make of it: plain lists.
-/
import Derived.Test.YtflaliomkfbagaaVarint
namespace Go.Proofs.Ytflaliomkfbagaa

/-- What reading a text answers, what is left, whether it is bad. -/
def cBytes (R : List UInt8) (bad : Bool) : List UInt8 × List UInt8 × Bool :=
  let x := cInt R bad
  if x.1 < 0 ∨ x.1 > x.2.1.length then ([], [], true) else (x.2.1.take x.1.toNat, x.2.1.drop x.1.toNat, x.2.2)

/-- A cursor that is bad has nothing left. -/
def Fine (R : List UInt8) (bad : Bool) : Prop := bad = true → R = []
theorem cInt_nil (bad : Bool) : cInt [] bad = (0, [], true) := rfl
theorem cBytes_nil (bad : Bool) : cBytes [] bad = ([], [], true) := rfl
theorem cInt_fine {R : List UInt8} {bad : Bool} (h : Fine R bad) : Fine (cInt R bad).2.1 (cInt R bad).2.2 := by
  cases bad with
  | true => rw [h rfl]; intro _; rfl
  | false =>
    unfold cInt
    split
    · intro h; cases h
    · intro _; rfl
theorem cBytes_fine {R : List UInt8} {bad : Bool} (h : Fine R bad) : Fine (cBytes R bad).2.1 (cBytes R bad).2.2 := by
  have h1 := cInt_fine h
  unfold cBytes
  simp only
  split
  · intro _; rfl
  · intro h2
    simp only at h2 ⊢
    rw [h1 h2, List.drop_nil]
theorem cInt_bad {R : List UInt8} (h : Fine R true) : cInt R true = (0, [], true) := by rw [h rfl]; rfl
theorem cBytes_bad {R : List UInt8} (h : Fine R true) : cBytes R true = ([], [], true) := by rw [h rfl]; rfl
theorem cBytes_len (R : List UInt8) (bad : Bool) : (cBytes R bad).2.1.length ≤ R.length := by
  have h := cInt_len R bad
  unfold cBytes
  simp only
  split
  · simp
  · simp only [List.length_drop]; omega
/-- A text is read as it was written. -/
theorem cBytes_text {t : List UInt8} (h : t.length ≤ 9223372036854775807) (R : List UInt8) (bad : Bool) : cBytes (num t.length ++ t ++ R) bad = (t, R, bad) := by
  unfold cBytes
  simp only
  rw [List.append_assoc, cInt_num (by unfold i64; omega)]
  rw [if_neg (by simp; omega)]
  simp
end Go.Proofs.Ytflaliomkfbagaa
