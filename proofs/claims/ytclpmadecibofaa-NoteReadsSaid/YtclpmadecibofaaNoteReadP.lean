/-
  What note.Read tells, as plain Lean.
-/
import Derived.Test.YtclpmadecibofaaNoteGet
namespace Go.Proofs.Ytclpmadecibofaa
open Go.RowKit
set_option linter.unusedVariables false
set_option linter.unusedSimpArgs false

theorem getI_le : ∀ (j : Nat) (R : List UInt8) (bad : Bool), (getI j R bad).2.1.length ≤ R.length
  | 0, _, _ => Nat.le_refl _
  | j + 1, R, bad => Nat.le_trans (getI_le j (cInt R bad).2.1 (cInt R bad).2.2) (cInt_len R bad)
theorem getM_le : ∀ (j : Nat) (R : List UInt8) (bad : Bool), (getM j R bad).2.1.length ≤ R.length
  | 0, _, _ => Nat.le_refl _
  | j + 1, R, bad => Nat.le_trans (getM_le j _ _) (Nat.le_trans (cInt_len (cInt R bad).2.1 (cInt R bad).2.2) (cInt_len R bad))
theorem cBytes_le (R : List UInt8) (bad : Bool) : (cBytes R bad).2.1.length ≤ R.length := by
  have := cInt_len R bad
  unfold cBytes
  generalize cInt R bad = q at *
  obtain ⟨z, R2, bad2⟩ := q
  simp only
  split
  · simp
  · simp only [List.length_drop]; simp only at this; omega
/-- A part read: nothing grows but the rows, by little. -/
theorem getP_le (s : St) (p : Int) : (getP s p).2.1.length ≤ s.2.1.length ∧ (getP s p).1.args.length ≤ s.1.args.length + 9 ∧ (getP s p).1.mems.length ≤ s.1.mems.length + 17 := by
  obtain ⟨n, R, bad⟩ := s
  have h1 := cInt_len R bad
  have h2 := cInt_len (cInt R bad).2.1 (cInt R bad).2.2
  have h3 := cBytes_le R bad
  have h4 := fun j => getI_le j (cInt (cInt R bad).2.1 (cInt R bad).2.2).2.1 (cInt (cInt R bad).2.1 (cInt R bad).2.2).2.2
  have h5 := fun j => getM_le j (cInt (cInt R bad).2.1 (cInt R bad).2.2).2.1 (cInt (cInt R bad).2.1 (cInt R bad).2.2).2.2
  have h6 := fun x => cnt_le 8 x (by omega)
  have h7 := fun x => cnt_le 16 x (by omega)
  have h8 := fun j => getI_len j (cInt (cInt R bad).2.1 (cInt R bad).2.2).2.1 (cInt (cInt R bad).2.1 (cInt R bad).2.2).2.2
  have h9 := fun j => getM_len j (cInt (cInt R bad).2.1 (cInt R bad).2.2).2.1 (cInt (cInt R bad).2.1 (cInt R bad).2.2).2.2
  unfold getP
  simp only
  split
  · exact ⟨h1, by simp, by simp⟩
  split
  · exact ⟨h1, by simp, by simp⟩
  split
  · exact ⟨h1, by simp, by simp⟩
  split
  · exact ⟨h3, by simp, by simp⟩
  split
  · refine ⟨Nat.le_trans (h4 _) (Nat.le_trans h2 h1), ?_, by simp⟩
    simp only [List.length_append, h8]
    have := h6 (cInt (cInt R bad).2.1 (cInt R bad).2.2).1
    omega
  split
  · exact ⟨Nat.le_trans h2 h1, by simp, by simp⟩
  · refine ⟨Nat.le_trans (h5 _) (Nat.le_trans h2 h1), by simp, ?_⟩
    simp only [List.length_append, h9]
    have := h7 (cInt (cInt R bad).2.1 (cInt R bad).2.2).1
    omega
theorem fold_le (s : St) : ∀ (l : List Int), (l.foldl getP s).2.1.length ≤ s.2.1.length ∧ (l.foldl getP s).1.args.length ≤ s.1.args.length + 9 * l.length ∧ (l.foldl getP s).1.mems.length ≤ s.1.mems.length + 17 * l.length := by
  intro l
  induction l generalizing s with
  | nil => simp
  | cons p l ih =>
    have h1 := getP_le s p
    have h2 := ih (getP s p)
    simp only [List.foldl_cons, List.length_cons]
    omega
theorem fold_step {s : St} {l : List Int} {q : Nat} {p : Int} (h : l[q]? = some p) : (l.take (q + 1)).foldl getP s = getP ((l.take q).foldl getP s) p := by
  rw [List.take_add_one, h]
  simp [List.foldl_append]

/-- Are bytes a note's? -/
def rdB (b : List UInt8) : Bool := (readRaw b).1.clear.may && ((readRaw b).1.pack == b)
def rdE (b : List UInt8) : Int := if rdB b then 0 else 4
def rdN (b : List UInt8) : Nt := if rdB b then (readRaw b).1 else Nt.zero
theorem may_clear {n : Nt} (h : n.clear.may = true) : n.clear.clear = n.clear := clear_clear n
theorem rd_is {b : List UInt8} {n : Nt} (h : IsNote b n) : rdB b = true ∧ rdN b = n := by
  have hr := h.raw
  obtain ⟨h1, h2, h3, h4⟩ := h
  have : rdB b = true := by
    unfold rdB
    rw [hr]
    simp only
    unfold Nt.pack
    rw [h2, h3]
    simp [h4]
  refine ⟨this, ?_⟩
  unfold rdN
  rw [this, hr]
  rfl
theorem rd_of {b : List UInt8} (hok : (readRaw b).1.ok) (h : rdB b = true) : IsNote b (readRaw b).1 := by
  have h0 := h
  unfold rdB at h
  simp only [Bool.and_eq_true, beq_iff_eq] at h
  obtain ⟨h1, h2⟩ := h
  unfold Nt.pack at h2
  rw [if_pos h1] at h2
  have hi : IsNote b (readRaw b).1.clear := ⟨clear_ok hok, clear_clear _, h1, h2⟩
  have e := hi.raw
  have e1 : (readRaw b).1 = (readRaw b).1.clear := congrArg Prod.fst e
  rw [e1]
  exact hi
end Go.Proofs.Ytclpmadecibofaa
