/-
  What bytes are read as, case by case.
-/
import Derived.Test.YtdllocgonjbmlaaFrameRef
import Derived.Test.YtdllocgonjbmlaaReadCore
namespace Go.Proofs.Ytdllocgonjbmlaa
open Go.RowKit
set_option linter.unusedVariables false
set_option linter.unusedSimpArgs false

theorem read_of_err {L : List UInt8} (h : readErr L ≠ 0) : readFr L = Fr.zero := by unfold readFr; rw [if_neg h]
theorem read_short {L : List UInt8} (h : L.length < 5) : readErr L = 4 ∧ readFr L = Fr.zero := by
  have : readErr L = 4 := by unfold readErr; rw [if_pos (.inl h)]
  exact ⟨this, read_of_err (by omega)⟩
theorem read_mark {L : List UInt8} (h : L.head? ≠ some 70) : readErr L = 4 ∧ readFr L = Fr.zero := by
  have : readErr L = 4 := by unfold readErr; rw [if_pos (.inr h)]
  exact ⟨this, read_of_err (by omega)⟩
theorem read_go {L : List UInt8} {k : Nat} (h0 : L.length = k + 4) (h1 : 1 ≤ k) (h2 : L.head? = some 70) : readErr L = if le4 (crc (L.take k)) = L.drop k then (if readOk L then 0 else 4) else 5 := by
  unfold readErr
  rw [if_neg (by rintro (h | h); · omega
                 · exact h h2), show L.length - 4 = k by omega]
theorem read_sum {L : List UInt8} {k : Nat} (h0 : L.length = k + 4) (h1 : 1 ≤ k) (h2 : L.head? = some 70) (h3 : (le4 (crc (L.take k)) == L.drop k) = false) : readErr L = 5 ∧ readFr L = Fr.zero := by
  have h4 : le4 (crc (L.take k)) ≠ L.drop k := by simpa using h3
  have : readErr L = 5 := by rw [read_go h0 h1 h2, if_neg h4]
  exact ⟨this, read_of_err (by omega)⟩
theorem readOk_eq {L : List UInt8} {k : Nat} (h0 : L.length = k + 4) {f : Fr} {R : List UInt8} {bad : Bool} (hp : parse ((L.take k).drop 1) = (f, R, bad)) : readOk L = (!bad && R.isEmpty && f.fine && decide (f.load.length ≤ 4096)) := by
  unfold readOk
  rw [show L.length - 4 = k by omega, hp]
theorem read_bad {L : List UInt8} {k : Nat} (h0 : L.length = k + 4) (h1 : 1 ≤ k) (h2 : L.head? = some 70) (h3 : (le4 (crc (L.take k)) == L.drop k) = true) {f : Fr} {R : List UInt8} {bad : Bool} (hp : parse ((L.take k).drop 1) = (f, R, bad))
    (hok : (!bad && R.isEmpty && f.fine && decide (f.load.length ≤ 4096)) = false) : readErr L = 4 ∧ readFr L = Fr.zero := by
  have h4 : le4 (crc (L.take k)) = L.drop k := by simpa using h3
  have : readErr L = 4 := by rw [read_go h0 h1 h2, if_pos h4, readOk_eq h0 hp, hok]; rfl
  exact ⟨this, read_of_err (by omega)⟩
theorem read_ok {L : List UInt8} {k : Nat} (h0 : L.length = k + 4) (h1 : 1 ≤ k) (h2 : L.head? = some 70) (h3 : (le4 (crc (L.take k)) == L.drop k) = true) {f : Fr} {R : List UInt8} {bad : Bool} (hp : parse ((L.take k).drop 1) = (f, R, bad))
    (hok : (!bad && R.isEmpty && f.fine && decide (f.load.length ≤ 4096)) = true) : readErr L = 0 ∧ readFr L = f := by
  have h4 : le4 (crc (L.take k)) = L.drop k := by simpa using h3
  have h5 : readErr L = 0 := by rw [read_go h0 h1 h2, if_pos h4, readOk_eq h0 hp, hok]; rfl
  refine ⟨h5, ?_⟩
  unfold readFr
  rw [if_pos h5, show L.length - 4 = k by omega, hp]
/-- The six steps of a reading. -/
theorem parse_steps (R : List UInt8) : ∃ a b c d e t, cInt R false = a ∧ cInt a.2.1 a.2.2 = b ∧ cInt b.2.1 b.2.2 = c ∧ cInt c.2.1 c.2.2 = d ∧ cInt d.2.1 d.2.2 = e ∧ cBytes e.2.1 e.2.2 = t ∧ parse R = (⟨a.1, b.1, c.1, d.1, e.1, t.1⟩, t.2.1, t.2.2) ∧ e.2.1.length ≤ R.length :=
  ⟨_, _, _, _, _, _, rfl, rfl, rfl, rfl, rfl, rfl, rfl, Nat.le_trans (cInt_len _ _) (Nat.le_trans (cInt_len _ _) (Nat.le_trans (cInt_len _ _) (Nat.le_trans (cInt_len _ _) (cInt_len _ _))))⟩
end Go.Proofs.Ytdllocgonjbmlaa
