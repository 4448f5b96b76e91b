/-
  Rows of structs of the call's own: one cell written; an element's address.
-/
import Derived.Test.YteinbdifncdaiaaFlat
import Derived.Test.YteinbdifncdaiaaRow
import Derived.Laws.OwnMore
import Derived.Deep.MidRow
namespace Go.Proofs.Yteinbdifncdaiaa
open Go.RowKit
set_option linter.unusedVariables false

theorem flat_set {α : Type} {f : α → List Value} {m : Nat} (hf : ∀ x, (f x).length = m) : ∀ (L : List α) (k : Nat) (x y : α) (j : Nat) (u : Value), L[k]? = some x → j < m → f y = (f x).set j u → (L.flatMap f).set (k * m + j) u = (L.set k y).flatMap f
  | [], k, x, y, j, u, h, _, _ => by simp at h
  | z :: L, 0, x, y, j, u, h, hj, he => by
    simp at h
    subst h
    rw [List.set_cons_zero, List.flatMap_cons, List.flatMap_cons, Nat.zero_mul, Nat.zero_add, List.set_append_left _ _ (by rw [hf]; exact hj), he]
  | z :: L, k + 1, x, y, j, u, h, hj, he => by
    have h2 : L[k]? = some x := by simpa using h
    rw [List.set_cons_succ, List.flatMap_cons, List.flatMap_cons, List.set_append_right _ _ (by rw [hf, Nat.succ_mul]; omega), hf, show (k + 1) * m + j - m = k * m + j by rw [Nat.succ_mul]; omega, flat_set hf L k x y j u h2 hj he]

section
variable {P : Program} {K : RowKind P} {w : World} {base g n c : Nat} {xs : List Value}
/-- A cell of a row of the call's own is written. -/
theorem OwnR.put (h : OwnR K w base (.slice (some ⟨g, 0, none⟩) n c) n xs) (j : Nat) (u : Value) : OwnR K (w.setCell ⟨g, j, none⟩ u) base (.slice (some ⟨g, 0, none⟩) n c) n (xs.set j u) := (World.ownsRow.stored h j u).1
theorem OwnR.cell (h : OwnR K w base (.slice (some ⟨g, 0, none⟩) n c) n xs) {j : Nat} {u : Value} (hu : xs[j]? = some u) : w.cell? ⟨g, j, none⟩ = some u := by
  have hl := (List.getElem?_eq_some_iff.1 hu).1
  rw [h.len] at hl
  rw [World.ownsRow.cellAt h j hl, hu]
theorem OwnR.frozen (h : OwnR K w base (.slice (some ⟨g, 0, none⟩) n c) n xs) (j : Nat) : w.frozen? ⟨g, j, none⟩ = false := World.ownsRow.frozenAt h j
theorem OwnR.form {v : Value} (h : OwnR K w base v n xs) (h0 : 0 < n) : ∃ g c, v = .slice (some ⟨g, 0, none⟩) n c ∧ n ≤ c ∧ c ≤ maxLen ∧ base ≤ g ∧ g < w.heap.size := by
  rcases h.2 with ⟨rfl, rfl⟩ | ⟨g, cap, cur, rfl, hb, hg, h1, h2, _⟩
  · omega
  · exact ⟨g, cap, rfl, h1, h2, hb, (Array.getElem?_eq_some_iff.1 hg).1⟩
/-- Elements of several cells: one cell of one of them. -/
theorem OwnR.cellN {α : Type} {f : α → List Value} (hf : ∀ x, (f x).length = K.size) {L : List α} (h : OwnR K w base (.slice (some ⟨g, 0, none⟩) n c) n (L.flatMap f)) {k : Nat} {x : α} (hx : L[k]? = some x) {j : Nat} {u : Value} (hj : (f x)[j]? = some u) : w.cell? ⟨g, k * K.size + j, none⟩ = some u :=
  h.cell (by rw [flat_get hf L k x hx j (by have := (List.getElem?_eq_some_iff.1 hj).1; rwa [hf] at this)]; exact hj)
theorem OwnR.putN {α : Type} {f : α → List Value} (hf : ∀ x, (f x).length = K.size) {L : List α} (h : OwnR K w base (.slice (some ⟨g, 0, none⟩) n c) n (L.flatMap f)) {k : Nat} {x : α} (y : α) (hx : L[k]? = some x) {j : Nat} {u : Value} (hj : j < K.size) (hy : f y = (f x).set j u) : OwnR K (w.setCell ⟨g, k * K.size + j, none⟩ u) base (.slice (some ⟨g, 0, none⟩) n c) n ((L.set k y).flatMap f) := by
  rw [← flat_set hf L k x y j u hx hj hy]
  exact h.put _ _
theorem OwnR.lenF {α : Type} {f : α → List Value} (hf : ∀ x, (f x).length = K.size) {v : Value} {L : List α} (h : OwnR K w base v n (L.flatMap f)) : n = L.length := by
  have := h.len
  rw [flat_len hf] at this
  exact (Nat.eq_of_mul_eq_mul_right K.hs this).symm
/-- An element's cells are there, and may be written. -/
theorem OwnR.there (h : OwnR K w base (.slice (some ⟨g, 0, none⟩) n c) n xs) {k : Nat} (hk : k < n) : w.there g (k * K.size) K.size := fun j hj => by
  have hl : k * K.size + j < xs.length := by
    rw [h.len]
    have := Nat.mul_le_mul_right K.size (show k + 1 ≤ n from hk)
    rw [Nat.succ_mul] at this
    omega
  exact ⟨by rw [h.cell (List.getElem?_eq_getElem hl)]; rfl, h.frozen _⟩
end
end Go.Proofs.Yteinbdifncdaiaa
